/-
  The walk of slices.DeleteFunc at spans, with 'empty'.
-/
import Derived.Test.YtimeacigbacadaaSpD
namespace Go.Proofs.Ytimeacigbacadaa
open Go.RowKit Go.Sort

/-- What is full. -/
def full (L : List (Int × Int)) : List (Int × Int) := L.filter fun x => !emp x
theorem full_all {L : List (Int × Int)} (h : ∀ x ∈ L, emp x = false) : full L = L := List.filter_eq_self.2 fun x hx => by rw [h x hx]; rfl
theorem take_succ_getD (L : List (Int × Int)) (k : Nat) (h : k < L.length) : L.take (k + 1) = L.take k ++ [L.getD k (0, 0)] := by
  rw [List.take_succ_eq_append_getElem h]; simp [List.getD, h]
theorem full_snoc (L : List (Int × Int)) (k : Nat) (h : k < L.length) : full (L.take (k + 1)) = full (L.take k) ++ if emp (L.getD k (0, 0)) = true then [] else [L.getD k (0, 0)] := by
  rw [take_succ_getD L k h]
  unfold full
  rw [List.filter_append]
  congr 1
  cases hE : emp (L.getD k (0, 0)) with
  | true => rw [if_pos rfl, List.filter_cons, hE, List.filter_nil]; rfl
  | false => rw [if_neg (by simp), List.filter_cons, hE, List.filter_nil]; rfl

/-- What DeleteFunc leaves of a row of the call's own. -/
def DelEnd (base g cap : Nat) (L : List (Int × Int)) (w : World) (e : Ending) (w' : World) : Prop :=
  ∃ k, e = .returned (.slice (some ⟨g, 0, none⟩) k cap) ∧ w'.ownsRow base 23 2 (.slice (some ⟨g, 0, none⟩) k cap) k (spV (full L)) ∧ Keeps (fun b => b = g) w w'

/-- What the loop keeps: the row now, i kept ones ahead, from j on as it was. -/
structure DelAt (base g n cap : Nat) (L : List (Int × Int)) (w : World) (i j : Nat) (R : List (Int × Int)) (wr : World) : Prop where
  own : wr.ownsRow base 23 2 (.slice (some ⟨g, 0, none⟩) n cap) n (spV R)
  keeps : Keeps (fun b => b = g) w wr
  head : R.take i = full (L.take j)
  rest : ∀ q, j ≤ q → R.getD q (0, 0) = L.getD q (0, 0)

theorem DelAt.len {base g n cap : Nat} {L R : List (Int × Int)} {w wr : World} {i j : Nat} (h : DelAt base g n cap L w i j R wr) : R.length = n := by
  have := h.own.1; rw [spV_len] at this; omega
theorem DelAt.drop {base g n cap : Nat} {L R : List (Int × Int)} {w wr : World} {i j : Nat} (h : DelAt base g n cap L w i j R wr) (hj : j < L.length) (he : emp (L.getD j (0, 0)) = true) {wr2 : World} (ho : wr2.ownsRow base 23 2 (.slice (some ⟨g, 0, none⟩) n cap) n (spV R)) (hk : Keeps (fun b => b = g) w wr2) :
    DelAt base g n cap L w i (j + 1) R wr2 :=
  ⟨ho, hk, by rw [full_snoc L j hj, if_pos he, List.append_nil]; exact h.head, fun q hq => h.rest q (by omega)⟩
theorem DelAt.keep {base g n cap : Nat} {L R : List (Int × Int)} {w wr : World} {i j : Nat} (h : DelAt base g n cap L w i j R wr) (hij : i < j) (hj : j < L.length) (hl : L.length = n) (he : emp (L.getD j (0, 0)) = false) {wr2 : World}
    (ho : wr2.ownsRow base 23 2 (.slice (some ⟨g, 0, none⟩) n cap) n (spV (R.set i (L.getD j (0, 0))))) (hk : Keeps (fun b => b = g) w wr2) :
    DelAt base g n cap L w (i + 1) (j + 1) (R.set i (L.getD j (0, 0))) wr2 := by
  have hR := h.len
  refine ⟨ho, hk, ?_, fun q hq => ?_⟩
  · rw [full_snoc L j hj, if_neg (by rw [he]; simp), take_succ_getD _ i (by simp; omega), ← h.head]
    congr 1
    · exact List.take_set_of_le (Nat.le_refl _)
    · simp [List.getD, show i < R.length from by omega]
  · have h1 := h.rest q (by omega)
    rw [← h1]
    simp [List.getD, show ¬ i = q from by omega]

set_option maxRecDepth 4000 in
set_option maxHeartbeats 1000000 in
theorem delete_any (base g n cap : Nat) (L : List (Int × Int)) (w : World) (h : w.ownsRow base 23 2 (.slice (some ⟨g, 0, none⟩) n cap) n (spV L)) :
    Calls Try.prog 37 #[.slice (some ⟨g, 0, none⟩) n cap, .func (.func 31) #[] #[]] w (DelEnd base g cap L w) := by
  have hr := own_srow h
  have hm := hr.i64
  have hmc := hr.i64c
  have hncap := hr.2.1
  have hl := hr.len
  have eg := enters_empty
  have hgl := (h.lt g rfl).2
  have hix := indexS_any _ n cap L w hr
  have HIX := Lib.hid hix
  have HL := Lib.hid hl
  have HO := Lib.hid h
  clear hix hl hr h
  go_enter Try.func37, Try.ntmps37
  go_wp2_with fail
  refine HIX.out.mono ?_
  rintro e w1 ⟨r, rfl, hF, hb1⟩
  have hO1 := ownsRow_keep HO.out hb1
  have hK1 : Keeps (fun b => b = g) w w1 := ⟨hb1.os, hb1.tape, hb1.output, hb1.size, fun b hb _ => hb1.block b hb⟩
  have HO1 := Lib.hid hO1
  have HK1 := Lib.hid hK1
  clear hO1 hK1 hb1
  rcases hF with ⟨rfl, hall⟩ | ⟨k, rfl, hk, hek, hlt⟩
  · have HA := Lib.hid hall
    clear hall
    go_wp2
    go_ret
    exact ⟨n, rfl, by rw [full_all HA.out]; exact HO1.out, HK1.out⟩
  · have hkn : k < n := by rw [← HL.out]; exact hk
    have hne : ((k : Int) == -1) = false := by rw [beq_eq_false_iff_ne]; omega
    have hstart : DelAt base g n cap L w k (k + 1) L w1 := ⟨HO1.out, HK1.out, by
      rw [full_snoc L k hk, if_pos hek, List.append_nil, full_all (fun x hx => ?_)]
      obtain ⟨j, hj, he⟩ := List.mem_iff_getElem.1 hx
      have hjk : j < k := by simp at hj; omega
      have := hlt j hjk
      have hjl : j < L.length := by omega
      rw [List.getElem_take] at he
      simpa [List.getD, hjl, he] using this, fun q _ => rfl⟩
    have HST := Lib.hid hstart
    clear hstart hek hlt HO1 HK1 hk
    go_wp2
    go_loopw [5, 6] (fun vi vj wr => ∃ (i j : Nat) (R : List (Int × Int)), vi = .int .i64 i ∧ vj = .int .i64 j ∧ i < j ∧ j ≤ n ∧ Hid (DelAt base g n cap L w i j R wr)) (fun _ vj _ => n - (intOf vj).toNat)
    case atStart => exact ⟨k, k + 1, L, rfl, by go_num, by omega, by omega, HST⟩
    case round =>
      obtain ⟨i, j, R, rfl, rfl, hij, hjn, HD⟩ := hrel
      clear HST
      by_cases hlt : j < n
      · obtain ⟨c0, c1⟩ := own_spcell HD.out.own j hlt
        rw [HD.out.rest j (Nat.le_refl _)] at c0 c1
        have hjl : j < L.length := by rw [HL.out]; exact hlt
        obtain ⟨x, y, hxy⟩ : ∃ x y, L.getD j (0, 0) = (x, y) := ⟨_, _, rfl⟩
        rw [hxy] at c0 c1
        have HXY := Lib.hid hxy
        simp only at c0 c1
        have hem := fun W => empty_any x y W
        generalize hb2 : emp (x, y) = be at hem
        have HBE := Lib.hid hb2
        have HEM := Lib.hid hem
        have hglr : g < wr.heap.size := (HD.out.own.lt g rfl).2
        clear hem hb2 hxy
        cases be
        · obtain ⟨d0, d1⟩ := own_spcell HD.out.own i (by omega)
          have f0 := own_freeK HD.out.own (i * 2)
          have f1 := own_freeK HD.out.own (i * 2 + 1)
          go_wp2_with fail
          refine (HEM.out _).mono ?_
          rintro e w' ⟨rfl, rfl⟩
          go_wp2
          go_roundw
          case rel =>
            have h1 := own_setK (own_setK HD.out.own (i * 2) (.int .i64 x)) (i * 2 + 1) (.int .i64 y)
            rw [spV_set R i (x, y), ← HXY.out] at h1
            exact ⟨i + 1, j + 1, R.set i (L.getD j (0, 0)), by go_num, by go_num, by omega, by omega, Lib.hid (HD.out.keep hij hjl HL.out (by rw [HXY.out]; exact HBE.out) ((h1.alloc _).alloc _) ((((HD.out.keeps.setCell (.inl rfl) _).setCell (.inl rfl) _).alloc _).alloc _))⟩
          case measure => simp [intOf]; omega
        · go_wp2_with fail
          refine (HEM.out _).mono ?_
          rintro e w' ⟨rfl, rfl⟩
          go_wp2
          go_roundw
          case rel => exact ⟨i, j + 1, R, rfl, by go_num, by omega, by omega, Lib.hid (HD.out.drop hjl (by rw [HXY.out]; exact HBE.out) ((HD.out.own.alloc _).alloc _) ((HD.out.keeps.alloc _).alloc _))⟩
          case measure => simp [intOf]; omega
      · obtain rfl : j = n := by omega
        obtain ⟨w2, hrun, hown, hg2⟩ := clear_tail HD.out.own hij
        have hci : ¬ cap = i := by omega
        have hhead := HD.out.head
        rw [show L.take j = L from by rw [← HL.out]; exact List.take_length] at hhead
        rw [hhead] at hown
        have HOWN := Lib.hid hown
        have HG2 := Lib.hid hg2
        have HHEAD := Lib.hid hhead
        clear hown hg2 hhead
        go_wp2
        go_ret
        exact ⟨i, rfl, HOWN.out, HD.out.keeps.grown HG2.out (fun k hk => .inl (by cases hk; rfl))⟩

theorem delete_nil (w : World) :
    Calls Try.prog 37 #[.slice none 0 0, .func (.func 31) #[] #[]] w fun e w' => e = .returned (.slice none 0 0) ∧ Below w.heap.size w w' := by
  have hix := indexS_any none 0 0 [] w (Row.nil w 2)
  have HIX := Lib.hid hix
  clear hix
  go_enter Try.func37, Try.ntmps37
  go_wp2_with fail
  refine HIX.out.mono ?_
  rintro e w1 ⟨r, rfl, hF, hb1⟩
  have hr : r = -1 := by
    rcases hF with ⟨h, _⟩ | ⟨k, _, hk, _⟩
    · exact h
    · simp at hk
  subst hr
  go_wp2
  go_ret
  exact ⟨rfl, hb1⟩
end Go.Proofs.Ytimeacigbacadaa
