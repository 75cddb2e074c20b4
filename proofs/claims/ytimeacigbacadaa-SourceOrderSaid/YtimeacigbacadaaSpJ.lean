/-
  The walk of span.Join.
-/
import Derived.Test.YtimeacigbacadaaSpJP
import Derived.RegionTactic
import Derived.ChangeAlike
import Derived.IntWalk
import Derived.Shelf.SlSortCmp.NoneTotal
namespace Go.Proofs.Ytimeacigbacadaa
open Go.RowKit Go.Sort

theorem size_ada (w : World) (o o2 : Obj) (q : Nat) : (((w.alloc o).drewN q).alloc o2).heap.size = w.heap.size + 2 := by
  rw [sizeA]
  show (w.alloc o).heap.size + 1 = _
  rw [sizeA]

set_option maxRecDepth 8000 in
set_option maxHeartbeats 2000000 in
theorem joinS_any (ad : Addr) (n cap : Nat) (L : List (Int × Int)) (gap : Int) (w : World) (hr : SRow w (some ad) n cap L) (hf : Fit L) (hn : n ≤ 1000000) (hg1 : gap ≤ 9223372036854775807) :
    Calls Try.prog 30 #[.slice (some ad) n cap, .int .i64 gap] w (JoinEnd gap L w) := by
  have hcl := cloneS (some ad) n cap (spV L) w hr (spV_one_cell L) (by omega)
  have HC := Lib.hid hcl
  have HF := Lib.hid hf
  have hLn := hr.len
  have HLN := Lib.hid hLn
  clear hcl hf hr hLn
  go_enter Try.func30, Try.ntmps30
  go_wp2_with fail
  refine HC.out.mono ?_
  rintro e w1 ⟨v, rfl, hO1, hb1, hnn⟩
  obtain ⟨a1, c1, rfl, hr1, hbl1⟩ := Row.of_owns hO1
  have ha1 : a1 ≠ none := fun e => by subst e; have hc := hr1.2.2.2.1 rfl; have h0 : n = 0 := (by have := hr1.2.1; omega); subst hc h0; exact hnn (by simp) rfl
  obtain ⟨x1, rfl⟩ := Option.ne_none_iff_exists'.1 ha1
  obtain ⟨g, rfl⟩ : ∃ g, x1 = ⟨g, 0, none⟩ := by
    rcases hO1.2 with ⟨h3, _⟩ | ⟨g, cp, cur, h3, _⟩
    · cases h3
    · simp only [Value.slice.injEq, Option.some.injEq] at h3; exact ⟨g, h3.1⟩
  have hgw : w.heap.size ≤ g := (hO1.lt g rfl).1
  have hgl1 := (hO1.lt g rfl).2
  have HB1 := Lib.hid hb1
  have hsz1 := hb1.size
  have HO1 := Lib.hid hO1
  clear hO1 hr1 hbl1 ha1 hb1 hnn
  go_wp2_with fail
  refine (delete_any _ g n c1 L w1 HO1.out).mono ?_
  rintro e w2 ⟨k, rfl, hO2, hK2⟩
  have hk : k = (full L).length := by have := hO2.1; rw [spV_len] at this; omega
  have hkn : k ≤ n := by rw [hk, ← HLN.out]; exact List.length_filter_le _ _
  have HB2 := Lib.hid (HB1.out.trans (hK2.below (B := w.heap.size) hsz1 (fun b hb => by omega)))
  have HO2 := Lib.hid hO2
  have hs2 := hK2.size
  clear hO2 hK2 hk
  go_wp2_with fail
  refine (sort_any _ g k c1 (full L) w2 HO2.out (by omega)).mono ?_
  rintro e w3 ⟨rfl, S, hP, hS, hO3, hg3⟩
  have hSm := full_mem hP HF.out
  have hsr := own_srow hO3
  have hSl := hsr.len
  have HB3 := Lib.hid (HB2.out.grown hg3 HB2.out.size (fun q hq => by cases hq; exact hgw))
  have HSR := Lib.hid hsr
  have HP := Lib.hid hP
  have HS := Lib.hid hS
  have HSM := Lib.hid hSm
  have HSL := Lib.hid hSl
  have hs3 := hg3.size
  have hgl3 := (hO3.lt g rfl).2
  clear hO3 hg3 hSm hsr hP hS hSl
  go_wp2
  obtain ⟨gm, hgm⟩ : ∃ gm, gm = max 0 gap := ⟨_, rfl⟩
  have hgm0 : 0 ≤ gm := by omega
  have hgm1 : gm ≤ 9223372036854775807 := by omega
  have HGM := Lib.hid hgm
  rw [show max 0 gap = gm from hgm.symm]
  clear hgm
  go_loopw [6, 19] (fun vo vi wr => ∃ (j : Nat) (out : List (Int × Int)), vi = .int .i64 j ∧ j ≤ k ∧ out.length ≤ j ∧ Hid (JoinAt gm S j out) ∧ Hid (wr.ownsRow w3.heap.size 23 2 vo out.length (spV out)) ∧ Hid (Below w3.heap.size w3 wr)) (fun _ vi _ => k - (intOf vi).toNat)
  case atStart => exact ⟨0, [], rfl, Nat.zero_le _, Nat.le_refl _, Lib.hid (.inl ⟨rfl, rfl⟩), Lib.hid (World.ownsRow_nil _ _ _ _), Lib.hid (Below.refl _ _)⟩
  case round =>
    obtain ⟨j, out, rfl, hjk, hoj, HJ, HO, HB⟩ := hrel
    have hsw := HB.out.size
    by_cases hlt : j < k
    · obtain ⟨b9, o9, hb9, _, hc9⟩ := SRow.at (HSR.out.mono HB.out) j hlt
      simp only [Option.some.injEq, Addr.mk.injEq] at hb9
      obtain ⟨rfl, rfl, _⟩ := hb9
      obtain ⟨hc0, hc1⟩ := hc9 j hlt
      have hjS : j < S.length := by rw [HSL.out]; exact hlt
      obtain ⟨x, y, hxy⟩ : ∃ x y, S.getD j (0, 0) = (x, y) := ⟨_, _, rfl⟩
      obtain ⟨m0, m1, m2⟩ := HSM.out (S.getD j (0, 0)) (by simp [List.getD, hjS])
      rw [hxy] at hc0 hc1 m0 m1 m2
      simp only [Nat.zero_add] at hc0 hc1 m0 m1 m2
      have HXY := Lib.hid hxy
      have HOA := Lib.hid (HO.out.alloc (.cells #[.int .i64 x, .int .i64 y] 23))
      clear hc9 hxy
      rcases HJ.out with ⟨hj0, rfl⟩ | ⟨front, f, b, n0, n1, n2, rfl, hjoin⟩
      · obtain ⟨aO, cO, rfl, _, _⟩ := Row.of_owns HO.out
        have HJ0 := Lib.hid hj0
        clear hj0
        have hd0 : decide ((0 : Int) < 0) = false := rfl
        go_wp2
        go_quiet (fail)
        have hO2 : ((wr.alloc (.cells #[.int .i64 x, .int .i64 y] 23)).drewN nq).ownsRow w3.heap.size 23 2 (.slice aO 0 cO) 0 (spV []) := ownsRow_keep HOA.out (below_drewN (Below.refl _ _) nq)
        have k0 : ((wr.alloc (.cells #[.int .i64 x, .int .i64 y] 23)).drewN nq).cell? ⟨wr.heap.size, 0, none⟩ = some (.int .i64 x) := (cell_of_row (wr.alloc _) wr.heap.size 0 _ _ _ (heapA_new (w := wr) _ rfl)).trans rfl
        have k1 : ((wr.alloc (.cells #[.int .i64 x, .int .i64 y] 23)).drewN nq).cell? ⟨wr.heap.size, 1, none⟩ = some (.int .i64 y) := (cell_of_row (wr.alloc _) wr.heap.size 1 _ _ _ (heapA_new (w := wr) _ rfl)).trans rfl
        have hBW : Below w3.heap.size w3 ((wr.alloc (.cells #[.int .i64 x, .int .i64 y] 23)).drewN nq) := below_drewN (HB.out.alloc (by omega) _) nq
        have hszW := hBW.size
        generalize (wr.alloc (.cells #[.int .i64 x, .int .i64 y] 23)).drewN nq = W at *
        have HO2 := Lib.hid hO2
        have HBW := Lib.hid hBW
        clear hO2 hBW
        go_wp2_with (at_builtin; refine append_row ETS rfl (.tmp 54) (.tmp 56) rfl w3.heap.size _ 0 _ rfl (HO2.out.alloc _) _ 1 _ _ rfl (row_new2 _ _ _ _) (spV_one_cell [(x, y)]) (by unfold maxLen; omega) (by omega) (by rw [sizeA]; omega) ?_; intro v' w5 hO5 hg5 hnil5; have HO5 := Lib.hid hO5; have HG5 := Lib.hid hg5; clear hO5 hg5 hnil5)
        go_roundw
        case rel =>
          refine ⟨j + 1, [(x, y)], by go_num, by omega, by simp, ?_, HO5, ?_⟩
          · rw [HJ0.out]; exact Lib.hid (joinAt_first (by omega) (by rw [← HJ0.out]; exact HXY.out) m0 m1 m2)
          · exact Lib.hid ((HBW.out.alloc hszW _).grown HG5.out (by rw [sizeA]; omega) (fun q hq => (HO2.out.lt q hq).1))
        case measure => simp [intOf]; omega
      · obtain ⟨gO, cO, rfl, hgO⟩ := own_shape HO.out (by simp)
        obtain ⟨q, hq⟩ : ∃ q, q = front.length := ⟨_, rfl⟩
        have hql : (front ++ [(f, b)]).length = q + 1 := by rw [hq]; simp
        rw [hql] at hoj HO HOA ⊢
        have hcell := own_spcell HOA.out q (by omega)
        have hlast : (front ++ [(f, b)]).getD q (0, 0) = (f, b) := by rw [hq]; exact last_get _ _
        rw [hlast] at hcell
        obtain ⟨_, d1⟩ := hcell
        simp only at d1
        have fr1 := own_freeK HOA.out (q * 2 + 1)
        have c0 : (wr.alloc (.cells #[.int .i64 x, .int .i64 y] 23)).cell? ⟨wr.heap.size, 0, none⟩ = some (.int .i64 x) := (cell_of_row (wr.alloc _) wr.heap.size 0 _ _ _ (heapA_new (w := wr) _ rfl)).trans rfl
        have c1 : (wr.alloc (.cells #[.int .i64 x, .int .i64 y] 23)).cell? ⟨wr.heap.size, 1, none⟩ = some (.int .i64 y) := (cell_of_row (wr.alloc _) wr.heap.size 1 _ _ _ (heapA_new (w := wr) _ rfl)).trans rfl
        have hgOw : gO < wr.heap.size := (HO.out.lt gO rfl).2
        have hszA := sizeA wr (.cells #[.int .i64 x, .int .i64 y] 23)
        have HBA := Lib.hid (HB.out.alloc (by omega) (.cells #[.int .i64 x, .int .i64 y] 23))
        have HQ := Lib.hid hq
        have HJN := Lib.hid hjoin
        have HLAST := Lib.hid hlast
        have hd0 : decide ((0 : Int) < (q : Int) + 1) = true := by rw [decide_eq_true_iff]; omega
        have hix : (q : Int) + 1 - 1 = (q : Int) := by omega
        have hov : -9223372036854775808 ≤ x - b := by omega
        have hov2 : x - b ≤ 9223372036854775807 := by omega
        clear hq hjoin hlast hql
        by_cases hc : x - b ≤ gm
        · have hcd : decide (x - b ≤ gm) = true := by simpa using hc
          go_wp2
          go_quiet (fail)
          have hO2 : ((wr.alloc (.cells #[.int .i64 x, .int .i64 y] 23)).drewN nq).ownsRow w3.heap.size 23 2 (.slice (some ⟨gO, 0, none⟩) (q + 1) cO) (q + 1) (spV (front ++ [(f, b)])) := ownsRow_keep HOA.out (below_drewN (Below.refl _ _) nq)
          have k0 : ((wr.alloc (.cells #[.int .i64 x, .int .i64 y] 23)).drewN nq).cell? ⟨wr.heap.size, 0, none⟩ = some (.int .i64 x) := (cell_of_row (wr.alloc _) wr.heap.size 0 _ _ _ (heapA_new (w := wr) _ rfl)).trans rfl
          have k1 : ((wr.alloc (.cells #[.int .i64 x, .int .i64 y] 23)).drewN nq).cell? ⟨wr.heap.size, 1, none⟩ = some (.int .i64 y) := (cell_of_row (wr.alloc _) wr.heap.size 1 _ _ _ (heapA_new (w := wr) _ rfl)).trans rfl
          have hBW : Below w3.heap.size w3 ((wr.alloc (.cells #[.int .i64 x, .int .i64 y] 23)).drewN nq) := below_drewN (HB.out.alloc (by omega) _) nq
          have hszW := hBW.size
          generalize (wr.alloc (.cells #[.int .i64 x, .int .i64 y] 23)).drewN nq = W at *
          have HO2 := Lib.hid hO2
          have HBW := Lib.hid hBW
          clear hO2 hBW
          have hcell2 := own_spcell HO2.out q (by omega)
          rw [HLAST.out] at hcell2
          have e1 := hcell2.2
          have fr2 := own_freeK HO2.out (q * 2 + 1)
          simp only at e1
          have hmx : (if b < y then y else b) = max b y := by omega
          have HMX := Lib.hid hmx
          have hql1 : (q : Int) < (q : Int) + 1 := by omega
          have hwr1 : IntKind.i64.wrap (q : Int) = (q : Int) := IntWalk.i64_in _ (by omega)
          clear hcell2 hmx d1 fr1 c0 c1
          go_wp2
          refine wp_region_still_tail 14 (by kernel_rfl) (by kernel_rfl) ?_
          simp only [List.take_succ_cons, List.take_zero, List.drop_succ_cons, List.drop_zero]
          repeat still_step
          refine wpStill_nil ?_
          change wpList _ _ _ _ _ (W.drewN 1)
          go_wp2
          go_roundw
          case rel =>
            refine ⟨j + 1, front ++ [(f, max b y)], by go_num, by omega, by have := HQ.out; simp; omega, Lib.hid (joinAt_mrg hjS HXY.out n0 n1 n2 m2 hc HJN.out), Lib.hid ?_, ?_⟩
            · have h5 := own_setK (ownsRow_keep HO2.out (below_drewN (Below.refl _ _) 1)) (q * 2 + 1) (.int .i64 (max b y))
              rw [spV_set2 _ q f b (max b y) HLAST.out, show (front ++ [(f, b)]).set q (f, max b y) = front ++ [(f, max b y)] from by rw [HQ.out, last_set]] at h5
              rw [show (front ++ [(f, max b y)]).length = q + 1 from by rw [HQ.out]; simp]
              exact h5
            · exact Lib.hid ((below_drewN HBW.out 1).setCell hgO _)
          case measure => simp [intOf]; omega
        · have hcd : decide (x - b ≤ gm) = false := by simpa using hc
          go_wp2
          go_quiet (fail)
          have hO2 : ((wr.alloc (.cells #[.int .i64 x, .int .i64 y] 23)).drewN nq).ownsRow w3.heap.size 23 2 (.slice (some ⟨gO, 0, none⟩) (q + 1) cO) (q + 1) (spV (front ++ [(f, b)])) := ownsRow_keep HOA.out (below_drewN (Below.refl _ _) nq)
          have k0 : ((wr.alloc (.cells #[.int .i64 x, .int .i64 y] 23)).drewN nq).cell? ⟨wr.heap.size, 0, none⟩ = some (.int .i64 x) := (cell_of_row (wr.alloc _) wr.heap.size 0 _ _ _ (heapA_new (w := wr) _ rfl)).trans rfl
          have k1 : ((wr.alloc (.cells #[.int .i64 x, .int .i64 y] 23)).drewN nq).cell? ⟨wr.heap.size, 1, none⟩ = some (.int .i64 y) := (cell_of_row (wr.alloc _) wr.heap.size 1 _ _ _ (heapA_new (w := wr) _ rfl)).trans rfl
          have hBW : Below w3.heap.size w3 ((wr.alloc (.cells #[.int .i64 x, .int .i64 y] 23)).drewN nq) := below_drewN (HB.out.alloc (by omega) _) nq
          have hszW := hBW.size
          generalize (wr.alloc (.cells #[.int .i64 x, .int .i64 y] 23)).drewN nq = W at *
          have HO2 := Lib.hid hO2
          have HBW := Lib.hid hBW
          clear hO2 hBW
          go_wp2_with (at_builtin; refine append_row ETS rfl (.tmp 54) (.tmp 56) rfl w3.heap.size _ (q + 1) _ rfl (HO2.out.alloc _) _ 1 _ _ rfl (row_new2 _ _ _ _) (spV_one_cell [(x, y)]) (by unfold maxLen; omega) (by omega) (by rw [sizeA]; omega) ?_; intro v' w5 hO5 hg5 hnil5; have HO5 := Lib.hid hO5; have HG5 := Lib.hid hg5; clear hO5 hg5 hnil5)
          go_roundw
          case rel =>
            refine ⟨j + 1, front ++ [(f, b)] ++ [(x, y)], by go_num, by omega, by have := HQ.out; simp; omega, Lib.hid (joinAt_app hjS HXY.out m0 m1 m2 (by omega) HJN.out), Lib.hid ?_, ?_⟩
            · have h5 := HO5.out
              rw [show spV (front ++ [(f, b)] ++ [(x, y)]) = spV (front ++ [(f, b)]) ++ spV [(x, y)] from spV_append _ _, show (front ++ [(f, b)] ++ [(x, y)]).length = q + 1 + 1 from by rw [HQ.out]; simp]
              exact h5
            · exact Lib.hid ((HBW.out.alloc hszW _).grown HG5.out (by rw [sizeA]; omega) (fun q hq => (HO2.out.lt q hq).1))
          case measure => simp [intOf]; omega
    · obtain rfl : j = k := by omega
      have HJE := Lib.hid (joinAt_end (by rw [HSL.out]; exact HJ.out))
      go_wp2
      go_ret
      refine ⟨S, _, HP.out, HS.out, rfl, ?_, ?_⟩
      · rw [← HGM.out, ← HJE.out]; exact ownsRow_base HO.out (by have := HB3.out.size; omega)
      · exact HB3.out.trans (HB.out.mono HB3.out.size)

theorem sort_nil (fv : Value) (w : World) : Calls Try.prog 38 #[.slice none 0 0, fv] w fun e w' => e = .returned (.tuple #[]) ∧ w' = w := AnyF.slices_SortFunc_none Try.sortSpan none 0 fv w

theorem clone_nilS (w : World) : Calls Try.prog 33 #[.slice none 0 0] w fun e w' => e = .returned (.slice none 0 0) ∧ w = w' := by
  have hnil := fun W : World => Lib.run_eql_slice_nil (P := Try.prog) W 26 23 none 0 0 0 0 Try.underlying26
  go_enter Try.func33, Try.ntmps33
  go_wp2
  go_ret
  exact ⟨rfl, rfl⟩

theorem joinS_nil (gap : Int) (w : World) (_hg1 : gap ≤ 9223372036854775807) : Calls Try.prog 30 #[.slice none 0 0, .int .i64 gap] w (JoinEnd gap [] w) := by
  go_enter Try.func30, Try.ntmps30
  go_wp2_with fail
  refine (clone_nilS _).mono ?_
  rintro e w1 ⟨rfl, rfl⟩
  go_wp2_with fail
  refine (delete_nil _).mono ?_
  rintro e w2 ⟨rfl, hb⟩
  have HB := Lib.hid hb
  clear hb
  go_wp2_with fail
  refine (sort_nil _ _).mono ?_
  rintro e w3 ⟨rfl, rfl⟩
  go_wp2
  refine wp_loop_once ?_
  go_wp2
  go_ret
  exact ⟨[], _, List.Perm.refl _, List.Pairwise.nil, rfl, World.ownsRow_nil _ _ _ _, HB.out⟩

theorem join_any (a : Option Addr) (n cap : Nat) (L : List (Int × Int)) (gap : Int) (w : World) (hr : SRow w a n cap L) (hf : Fit L) (hn : n ≤ 1000000) (hg1 : gap ≤ 9223372036854775807) :
    Calls Try.prog 30 #[.slice a n cap, .int .i64 gap] w (JoinEnd gap L w) := by
  cases a with
  | some ad => exact joinS_any ad n cap L gap w hr hf hn hg1
  | none =>
    have hl := SRow.len hr
    obtain ⟨h1, h2, h3, h4, h5⟩ := hr
    obtain rfl := h4 rfl
    obtain rfl : n = 0 := by omega
    have : L = [] := List.eq_nil_of_length_eq_zero hl
    subst this
    exact joinS_nil gap w hg1
end Go.Proofs.Ytimeacigbacadaa
