/-
  Walks of layer 2: are spans alike; the law's own example ('works').
-/
import Derived.Test.YtimeacigbacadaaMissG
import Derived.Test.YtimeacigbacadaaSetG
namespace Go.Proofs.Ytimeacigbacadaa
open Go.RowKit Go.Sort

theorem putS_form {T T' : List (Int × Int)} {x : Int × Int} (h : PutS T x T') : Form T' ∧ ∀ k, cov T' k ↔ cov T k ∨ cov [x] k := by
  obtain ⟨S, hp, hs, rfl⟩ := h
  obtain ⟨h1, h2⟩ := join_form (fun y hy => by
    have h1 := List.mem_filter.1 (hp.mem_iff.1 hy)
    exact emp_false.1 (by simpa using h1.2)) hs
  exact ⟨h1, fun k => by rw [h2 k, cov_perm hp k, full, cov_filter, cov_append]⟩

theorem take_eq_succ {A B : List (Int × Int)} {k : Nat} (h : A.take k = B.take k) (hA : k < A.length) (hB : k < B.length) (he : A.getD k (0, 0) = B.getD k (0, 0)) : A.take (k + 1) = B.take (k + 1) := by
  rw [take_succ_getD A k hA, take_succ_getD B k hB, h, he]
theorem get_ne {A B : List (Int × Int)} {k : Nat} (he : A.getD k (0, 0) ≠ B.getD k (0, 0)) : A ≠ B := fun e => he (by rw [e])

def SameEnd (A B : List (Int × Int)) (w : World) (e : Ending) (w' : World) : Prop := e = .returned (.bool (decide (A = B))) ∧ ∃ q, w' = w.drewN q

set_option maxHeartbeats 1000000 in
theorem same_any (a b : Option Addr) (n m c d : Nat) (A B : List (Int × Int)) (w : World) (hA : SRow w a n c A) (hB : SRow w b m d B) :
    Calls Try.prog 24 #[.slice a n c, .slice b m d] w (SameEnd A B w) := by
  have hma := hA.i64
  have hmb := hB.i64
  have hla := SRow.len hA
  have hlb := SRow.len hB
  by_cases hnm : n = m
  · subst hnm
    have HA := Lib.hid hA
    have HB := Lib.hid hB
    have HLA := Lib.hid hla
    have HLB := Lib.hid hlb
    clear hA hB hla hlb
    go_enter Try.func24, Try.ntmps24
    go_wp2
    go_loopw [5] (fun i wr => ∃ k q : Nat, i = .int .i64 k ∧ k ≤ n ∧ Hid (A.take k = B.take k) ∧ Hid (wr = w.drewN q)) (fun i _ => n - (intOf i).toNat)
    case atStart => exact ⟨0, 0, rfl, Nat.zero_le _, Lib.hid rfl, Lib.hid rfl⟩
    case round =>
      obtain ⟨k, q, rfl, hk, HT, HW⟩ := hrel
      obtain rfl := HW.out
      by_cases hlt : k < n
      · obtain ⟨b1, o1, rfl, _, hc1⟩ := SRow.at HA.out k hlt
        obtain ⟨b2, o2, rfl, _, hc2⟩ := SRow.at HB.out k hlt
        obtain ⟨e0, e1⟩ := hc1 k hlt
        obtain ⟨f0, f1⟩ := hc2 k hlt
        obtain ⟨x, y, hxy⟩ : ∃ x y, A.getD k (0, 0) = (x, y) := ⟨_, _, rfl⟩
        obtain ⟨u, v, huv⟩ : ∃ u v, B.getD k (0, 0) = (u, v) := ⟨_, _, rfl⟩
        rw [hxy] at e0 e1
        rw [huv] at f0 f1
        have HXY := Lib.hid hxy
        have HUV := Lib.hid huv
        simp only at e0 e1 f0 f1
        clear hc1 hc2 hxy huv
        by_cases h1 : x = u
        · subst h1
          by_cases h2 : y = v
          · subst h2
            go_wp2
            go_quiet (fail)
            go_wp2
            go_roundw
            case rel => exact ⟨k + 1, q + nq, by go_num, by omega, Lib.hid (take_eq_succ HT.out (by rw [HLA.out]; exact hlt) (by rw [HLB.out]; exact hlt) (by rw [HXY.out, HUV.out])), Lib.hid (by first | rfl | exact World.drewN_drewN _ _ _ | simp [World.drewN_drewN])⟩
            case measure => simp [intOf]; omega
          · have hne : (y == v) = false := by rw [beq_eq_false_iff_ne]; exact h2
            have HNE := Lib.hid (get_ne (A := A) (B := B) (k := k) (by rw [HXY.out, HUV.out]; intro e; exact h2 (Prod.mk.inj e).2))
            clear h2
            go_wp2
            go_quiet (fail)
            go_wp2
            go_ret
            exact ⟨ret_bool (by simpa using HNE.out), q + nq, by first | rfl | exact World.drewN_drewN _ _ _ | simp [World.drewN_drewN]⟩
        · have hne : (x == u) = false := by rw [beq_eq_false_iff_ne]; exact h1
          have hne2 : (x != u) = true := by rw [bne_iff_ne]; exact h1
          have HNE := Lib.hid (get_ne (A := A) (B := B) (k := k) (by rw [HXY.out, HUV.out]; intro e; exact h1 (Prod.mk.inj e).1))
          clear h1
          go_wp2
          go_quiet (fail)
          go_wp2
          go_ret
          exact ⟨ret_bool (by simpa using HNE.out), q + nq, by first | rfl | exact World.drewN_drewN _ _ _ | simp [World.drewN_drewN]⟩
      · obtain rfl : k = n := by omega
        have hAB : A = B := by
          have := HT.out
          rwa [show A.take k = A from by rw [← HLA.out]; exact List.take_length, show B.take k = B from by rw [← HLB.out]; exact List.take_length] at this
        have HAB := Lib.hid hAB
        clear hAB
        go_wp2
        go_ret
        exact ⟨ret_bool (by simp [HAB.out]), q, rfl⟩
  · have hne : ((n : Int) == (m : Int)) = false := by rw [beq_eq_false_iff_ne]; omega
    have hAB : A ≠ B := fun e => hnm (by rw [← hla, ← hlb, e])
    have HAB := Lib.hid hAB
    clear hA hB hla hlb hAB hnm
    go_enter Try.func24, Try.ntmps24
    go_wp2
    go_ret
    exact ⟨ret_bool (by simpa using HAB.out), 0, rfl⟩

theorem put_nil (x y : Int) (w : World) : Calls Try.prog 8 #[.pointer none, .agg #[.int .i64 x, .int .i64 y]] w fun e w' => e = .returned (.tuple #[]) ∧ Below w.heap.size w w' := by
  go_enter Try.func8, Try.ntmps8
  go_wp2
  go_end0
  exact ⟨rfl, belowA _ _⟩

theorem new_set (w : World) : SetQ (w.alloc (.cells #[.slice none 0 0] 63)) (fun b => b = w.heap.size) w.heap.size [] :=
  ⟨.slice none 0 0, heapA_new _ rfl, rfl, World.ownsRow_nil _ _ _ _, fun b h => (by cases h), rfl, fun b h => by rw [sizeA]; have h2 : b = w.heap.size := h; omega⟩
theorem SetNext.below {w w' : World} {S : Nat → Prop} {p : Nat} {T : List (Int × Int)} {B : Nat} (h : SetNext w S p T w') (hB : B ≤ w.heap.size) (hS : ∀ b, S b → B ≤ b) : ∃ S', SetQ w' S' p T ∧ Below B w w' ∧ ∀ b, S' b → B ≤ b := by
  obtain ⟨S', h1, h2, h3⟩ := h
  exact ⟨S', h1, h2.below hB hS, fun b hb => (h3 b hb).elim (hS b) (fun h => by omega)⟩

set_option maxRecDepth 8000 in
set_option maxHeartbeats 2000000 in
theorem works2 (w : World) : Calls Try.prog 14 #[] w fun e w' => e = .returned (.bool true) ∧ Below w.heap.size w w' := by
  go_enter Try.func14, Try.ntmps14
  go_wp2_with fail
  have hq0 := new_set w
  have hb0 := belowA w (.cells #[.slice none 0 0] 63)
  generalize w.alloc (.cells #[.slice none 0 0] 63) = w1 at *
  obtain ⟨p, hp⟩ : ∃ p, p = w.heap.size := ⟨_, rfl⟩
  have HP := Lib.hid hp
  rw [← hp] at hq0 hb0 ⊢
  have hpw : p ≤ w.heap.size := by omega
  have hp1 : p ≤ w1.heap.size := by have := hb0.size; omega
  clear hp
  refine (put_any p _ [] 0 5 w1 hq0 (by intro x hx; simp at hx; subst hx; simp) (by simp)).mono ?_
  rintro e w2 ⟨rfl, T1, hP1, hN1⟩
  obtain ⟨S2, hq2, hb2, hS2⟩ := hN1.below hp1 (fun b h => by have h2 : b = p := h; omega)
  obtain ⟨f1, g1⟩ := putS_form hP1
  have hT1 : T1 = [(0, 5)] := form_unique f1 ⟨fun x hx => by simp at hx; subst hx; simp, by simp⟩ (fun k => by rw [g1 k]; simp [cov_nil])
  subst hT1
  have HB2 := Lib.hid (hb0.trans hb2)
  have hp2 : p ≤ w2.heap.size := Nat.le_trans hp1 hb2.size
  clear hq0 hb0 hP1 hN1 hb2 f1 g1
  go_wp2_with fail
  refine (put_any p _ [(0, 5)] 5 9 w2 hq2 (by intro x hx; simp at hx; rcases hx with rfl | rfl <;> simp) (by simp)).mono ?_
  rintro e w3 ⟨rfl, T2, hP2, hN2⟩
  obtain ⟨S3, hq3, hb3, hS3⟩ := hN2.below hp2 hS2
  obtain ⟨f2, g2⟩ := putS_form hP2
  have hT2 : T2 = [(0, 9)] := form_unique f2 ⟨fun x hx => by simp at hx; subst hx; simp, by simp⟩ (fun k => by
    rw [g2 k]
    simp only [cov_cons]
    have := cov_nil k
    constructor
    · rintro (h | h) <;> rcases h with h | h <;> first | exact absurd h this | exact .inl ⟨by omega, by omega, by omega⟩
    · rintro (h | h)
      · by_cases hk : k < 5
        · exact .inl (.inl ⟨by omega, by omega, by omega⟩)
        · exact .inr (.inl ⟨by omega, by omega, by omega⟩)
      · exact absurd h this)
  subst hT2
  have HB3 := Lib.hid (HB2.out.trans hb3)
  have hp3 : p ≤ w3.heap.size := Nat.le_trans hp2 hb3.size
  have HQ := Lib.hid hq3.toV
  clear hq2 hS2 hP2 hN2 hb3 f2 g2 hq3 hS3
  go_wp2_with fail
  refine (all_any _ _ _ HQ.out (by simp)).mono ?_
  rintro e w4 ⟨v4, rfl, hO4, hb4⟩
  obtain ⟨a4, c4, rfl, hr4, _⟩ := Row.of_owns hO4
  have HQ4 := Lib.hid (HQ.out.mono hb4)
  have HB4 := Lib.hid (HB3.out.trans (hb4.mono hp3))
  have hp4 : p ≤ w4.heap.size := by have := HB4.out.size; omega
  clear hO4 hb4
  go_wp2_with fail
  have hb5 := belowA w4 (.cells #[.int .i64 0, .int .i64 9] 23)
  have hr5 := hr4.mono hb5
  have hr6 : SRow (w4.alloc (.cells #[.int .i64 0, .int .i64 9] 23)) (some ⟨w4.heap.size, 0, none⟩) 1 1 [(0, 9)] := row_new2 w4 (.int .i64 0) (.int .i64 9) _
  have HQ5 := Lib.hid (HQ4.out.mono hb5)
  have HB5 := Lib.hid (HB4.out.trans (hb5.mono (by omega)))
  generalize w4.alloc (.cells #[.int .i64 0, .int .i64 9] 23) = w5 at *
  refine (same_any _ _ _ _ _ _ _ _ w5 hr5 hr6).mono ?_
  rintro e w6 ⟨rfl, q, rfl⟩
  have HQ6 := Lib.hid (HQ5.out.mono (below_drewN (Below.refl _ _) q))
  have HB6 := Lib.hid (below_drewN HB5.out q)
  generalize w5.drewN q = w6 at *
  have HSZ := Lib.hid (fun W (h : SetV W (some ⟨p, 0, none⟩) [(0, 9)]) => size_any (some ⟨p, 0, none⟩) [(0, 9)] W h (by simp) (by intro x hx; simp at hx; subst hx; simp))
  have HUP := Lib.hid (fun W (h : SetV W (some ⟨p, 0, none⟩) [(0, 9)]) => upto_any (some ⟨p, 0, none⟩) [(0, 9)] 3 W h (by simp))
  have HH1 := Lib.hid (fun W (h : SetV W (some ⟨p, 0, none⟩) [(0, 9)]) => has_any (some ⟨p, 0, none⟩) [(0, 9)] 2 9 W h (by simp))
  have HH2 := Lib.hid (fun W (h : SetV W (some ⟨p, 0, none⟩) [(0, 9)]) => has_any (some ⟨p, 0, none⟩) [(0, 9)] 2 10 W h (by simp))
  rw [show sumS [(0, 9)] = 9 from by decide] at HSZ
  rw [show uptoS [(0, 9)] 3 = 9 from by decide] at HUP
  rw [show hasS [(0, 9)] (2, 9) = true from by decide] at HH1
  rw [show hasS [(0, 9)] (2, 10) = false from by decide] at HH2
  rw [show decide ([((0 : Int), (9 : Int))] = [(0, 9)]) = true from by decide]
  clear hr4 hb5 hr5 hr6
  go_wp2_with fail
  refine (HSZ.out _ HQ6.out).mono ?_
  rintro e w7 ⟨rfl, hb7⟩
  have HQ7 := Lib.hid (HQ6.out.mono hb7)
  have HB7 := Lib.hid (HB6.out.trans (hb7.mono (by have := HB6.out.size; omega)))
  clear hb7
  go_wp2_with fail
  refine (HUP.out _ HQ7.out).mono ?_
  rintro e w8 ⟨rfl, hb8⟩
  have HQ8 := Lib.hid (HQ7.out.mono hb8)
  have HB8 := Lib.hid (HB7.out.trans (hb8.mono (by have := HB7.out.size; omega)))
  clear hb8
  go_wp2_with fail
  refine (HH1.out _ HQ8.out).mono ?_
  rintro e w9 ⟨rfl, hb9⟩
  have HQ9 := Lib.hid (HQ8.out.mono hb9)
  have HB9 := Lib.hid (HB8.out.trans (hb9.mono (by have := HB8.out.size; omega)))
  clear hb9
  go_wp2_with fail
  refine (HH2.out _ HQ9.out).mono ?_
  rintro e w10 ⟨rfl, hb10⟩
  have HB10 := Lib.hid (HB9.out.trans (hb10.mono (by have := HB9.out.size; omega)))
  clear hb10
  go_wp2
  go_ret
  exact ⟨rfl, by rw [← HP.out]; exact HB10.out⟩
end Go.Proofs.Ytimeacigbacadaa
