/-
  Walks of layer 5: the fixed lengths, by the program.
-/
import Derived.Test.YtlmdgaajkjbpgaaInf5
import Derived.Deep.Cut
import Derived.Deep.OwnRows
namespace Go.Proofs.Ytlmdgaajkjbpgaa
open Go.RowKit Go.Sort

theorem made_arr (z : Value) (n : Nat) : madeCells #[z] n = (fl n fun _ => z).toArray := by
  apply Array.toList_inj.1
  rw [← Nat.mul_one n, made_fl z n, Nat.mul_one]
theorem infoInt : (Try.prog.info? 3).map (fun i => (i.zero, i.size, i.bytes)) = some (some (.int .i64 0), 1, 8) := by kernel_rfl
theorem mk288 (w : World) : (Instr.makeSlice 32 (.int .i64 288) (.int .i64 288)).run Try.prog w = .ok (.slice (some ⟨w.heap.size, 0, none⟩) 288 288) (w.alloc (.cells (fl 288 fun _ => .int .i64 0).toArray 3)) := by
  rw [← made_arr]
  exact run_make_row' (P := Try.prog) 32 3 (.int .i64 0) 8 Try.underlying32 infoInt rfl .i64 .i64 288 (by omega) (by omega) w
theorem mk30 (w : World) : (Instr.makeSlice 32 (.int .i64 30) (.int .i64 30)).run Try.prog w = .ok (.slice (some ⟨w.heap.size, 0, none⟩) 30 30) (w.alloc (.cells (fl 30 fun _ => .int .i64 0).toArray 3)) := by
  rw [← made_arr]
  exact run_make_row' (P := Try.prog) 32 3 (.int .i64 0) 8 Try.underlying32 infoInt rfl .i64 .i64 30 (by omega) (by omega) w
theorem row_fl {w : World} {g n : Nat} {f : Nat → Value} {t : TypeId} (h : w.heap[g]? = some (.cells (fl n f).toArray t (0, 0))) (hn : n ≤ maxLen) : Row w 1 (some ⟨g, 0, none⟩) n n (fl n f) :=
  ⟨by simp [fl], Nat.le_refl _, hn, fun h => (by cases h), fun _ => ⟨g, 0, rfl, (Array.getElem?_eq_some_iff.1 h).1, fun j u hj => by
    rw [Nat.zero_add, cell_of_row w g j _ _ _ h]
    simpa using hj⟩⟩
def fixV (k : Nat) : Int := if k < 144 ∨ 279 < k then 8 else if k < 256 then 9 else 7
structure FxSt (w wr : World) (g1 g2 k j : Nat) : Prop where
  below : Below w.heap.size w wr
  b1 : wr.heap[g1]? = some (.cells (fl 288 fun i => .int .i64 (if i < k then fixV i else 0)).toArray 3 (0, 0))
  b2 : wr.heap[g2]? = some (.cells (fl 30 fun i => .int .i64 (if i < j then 5 else 0)).toArray 3 (0, 0))
  l1 : w.heap.size ≤ g1
  l2 : w.heap.size ≤ g2
  ne : g1 ≠ g2
theorem FxSt.set1 {w wr : World} {g1 g2 k j : Nat} (h : FxSt w wr g1 g2 k j) (v : Int) (hv : fixV k = v) : FxSt w (wr.setCell ⟨g1, k, none⟩ (.int .i64 v)) g1 g2 (k + 1) j := by
  refine ⟨h.below.setCell h.l1 _, ?_, blk_other h.b2 h.ne _, h.l1, h.l2, h.ne⟩
  rw [blk_set h.b1 k (.int .i64 v)]
  exact congrArg (fun x => some (Obj.cells (List.toArray x) _ _)) (fl_congr fun i _ => by
    by_cases hi : i = k
    · subst hi; simp [hv]
    · simp [hi, show (i < k + 1) = (i < k) by simp; omega])
theorem FxSt.set2 {w wr : World} {g1 g2 k j : Nat} (h : FxSt w wr g1 g2 k j) : FxSt w (wr.setCell ⟨g2, j, none⟩ (.int .i64 5)) g1 g2 k (j + 1) := by
  refine ⟨h.below.setCell h.l2 _, blk_other h.b1 (Ne.symm h.ne) _, ?_, h.l1, h.l2, h.ne⟩
  rw [blk_set h.b2 j (.int .i64 5)]
  exact congrArg (fun x => some (Obj.cells (List.toArray x) _ _)) (fl_congr fun i _ => by
    by_cases hi : i = j
    · subst hi; simp
    · simp [hi, show (i < j + 1) = (i < j) by simp; omega])

set_option maxRecDepth 20000 in
set_option maxHeartbeats 4000000 in
theorem fixed_any (w : World) : Calls Try.prog 14 #[] w fun e w' => ∃ a c b f, e = .returned (.tuple #[.slice a 288 c, .slice b 30 f]) ∧ Row w' 1 a 288 c (iV fixL) ∧ Row w' 1 b 30 f (iV fixD) ∧ a ≠ none ∧ b ≠ none ∧ Below w.heap.size w w' ∧ ∀ x, b = some x → w.heap.size ≤ x.block := by
  have hm1 := mk288
  have hm2 := mk30
  go_enter Try.func14, Try.ntmps14
  go_wp2_with fail
  go_cut [2, 3] from 4 (fun v2 v3 wc => ∃ g1 g2, v2 = .slice (some ⟨g1, 0, none⟩) 288 288 ∧ v3 = .slice (some ⟨g2, 0, none⟩) 30 30 ∧ Hid (FxSt w wc g1 g2 0 0))
  case first =>
    go_region
    all_goals (try go_wp2_with fail)
    all_goals go_meet
    · exact ⟨_, _, rfl, rfl, Lib.hid ⟨(belowA2 w _ _).drew, (heapA_old _ (heapA_new _ rfl)).trans (congrArg (fun x => some (Obj.cells (List.toArray x) _ _)) (fl_congr fun i _ => by simp)), (heapA_new _ (by rw [sizeA])).trans (congrArg (fun x => some (Obj.cells (List.toArray x) _ _)) (fl_congr fun i _ => by simp)), Nat.le_refl _, Nat.le_succ _, by omega⟩⟩
    · exact ⟨_, _, rfl, rfl, Lib.hid ⟨(belowA2 w _ _).drew, (heapA_new _ (by rw [sizeA])).trans (congrArg (fun x => some (Obj.cells (List.toArray x) _ _)) (fl_congr fun i _ => by simp)), (heapA_old _ (heapA_new _ rfl)).trans (congrArg (fun x => some (Obj.cells (List.toArray x) _ _)) (fl_congr fun i _ => by simp)), Nat.le_succ _, Nat.le_refl _, by omega⟩⟩
  case rest =>
    obtain ⟨g1, g2, rfl, rfl, HX⟩ := hcut
    clear hm1 hm2
    go_wp2
    go_loopw [10] (fun vk wr => ∃ k : Nat, vk = .int .i64 k ∧ k ≤ 288 ∧ Hid (FxSt w wr g1 g2 k 0)) (fun vk _ => 288 - (intOf vk).toNat)
    case atStart => exact ⟨0, rfl, Nat.zero_le _, HX⟩
    case round =>
      obtain ⟨k, rfl, hk, HX⟩ := hrel
      by_cases hlt : k < 288
      · have hfr := blk_free HX.out.b1 k
        have hway : (k < 144 ∧ fixV k = 8) ∨ (144 ≤ k ∧ k < 256 ∧ fixV k = 9) ∨ (256 ≤ k ∧ k < 280 ∧ fixV k = 7) ∨ (280 ≤ k ∧ fixV k = 8) := by
          unfold fixV
          by_cases q1 : k < 144
          · exact .inl ⟨q1, if_pos (.inl q1)⟩
          · by_cases q2 : 279 < k
            · exact .inr (.inr (.inr ⟨by omega, if_pos (.inr q2)⟩))
            · by_cases q3 : k < 256
              · exact .inr (.inl ⟨by omega, q3, by rw [if_neg (by omega), if_pos q3]⟩)
              · exact .inr (.inr (.inl ⟨by omega, by omega, by rw [if_neg (by omega), if_neg q3]⟩))
        have hc := blk_cell HX.out.b1 k hlt
        rcases hway with ⟨q1, hv⟩ | ⟨q1, q2, hv⟩ | ⟨q1, q2, hv⟩ | ⟨q1, hv⟩
        all_goals
          have HN := Lib.hid (HX.out.set1 _ hv)
          clear hv
          go_wp2
          go_roundw
          case rel => exact ⟨k + 1, by go_num, by omega, HN⟩
          case measure => simp [intOf]; omega
      · have hk8 : k = 288 := by omega
        have HK := Lib.hid hk8
        have hki : decide ((k : Int) < 288) = false := decide_eq_false (by omega)
        have hki2 : decide (k < 288) = false := decide_eq_false (by omega)
        clear hk8
        go_wp2
        go_loopw [35] (fun vk w2 => ∃ j : Nat, vk = .int .i64 j ∧ j ≤ 30 ∧ Hid (FxSt w w2 g1 g2 k j)) (fun vk _ => 30 - (intOf vk).toNat)
        case atStart => exact ⟨0, rfl, Nat.zero_le _, HX⟩
        case round =>
          obtain ⟨j, rfl, hj, HY⟩ := hrel
          by_cases hlt2 : j < 30
          · have hfr := blk_free HY.out.b2 j
            have hc := blk_cell HY.out.b2 j hlt2
            have HN := Lib.hid HY.out.set2
            go_wp2
            go_roundw
            case rel => exact ⟨j + 1, by go_num, by omega, HN⟩
            case measure => simp [intOf]; omega
          · obtain rfl : j = 30 := by omega
            go_wp2
            go_ret2
            have h1 := row_fl HY.out.b1 (by decide)
            have h2 := row_fl HY.out.b2 (by decide)
            have e1 : (fl 288 fun i => Value.int .i64 (if i < k then fixV i else 0)) = iV fixL := by
              rw [HK.out, ← fixA_288]
              unfold iV fixA fl
              rw [List.map_map]
              exact List.map_congr_left fun i hi => by
                have := List.mem_range.1 hi
                simp only [Function.comp_apply, fixV, if_pos this]
            have e2 : (fl 30 fun i => Value.int .i64 (if i < 30 then 5 else 0)) = iV fixD := rfl
            rw [e1] at h1
            rw [e2] at h2
            exact ⟨_, _, _, _, rfl, h1, h2, fun h => (by cases h), fun h => (by cases h), HY.out.below, fun x hx => by cases hx; exact HY.out.l2⟩
end Go.Proofs.Ytlmdgaajkjbpgaa
