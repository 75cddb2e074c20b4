/-
  Walks of layer 10: octal digits, and what stands behind a backslash.
-/
import Derived.Test.YtkolfecjlbnfkaaLex4
namespace Go.Proofs.Ytkolfecjlbnfkaa
open Go.RowKit

def octGo (last : Bool) : Nat → Nat → List UInt8 → Option (Nat × Nat)
  | 0, N, _ => some (N, 0)
  | _ + 1, N, [] => if last then some (N, 0) else none
  | m + 1, N, d :: t => if isOc d = true then (octGo last m (8 * N + (d.toNat - 48)) t).map (fun x => (x.1, x.2 + 1)) else some (N, 0)
theorem octV_go (last : Bool) (c : UInt8) (l : List UInt8) : octV last c l = (octGo last 2 (c.toNat - 48) l).map fun x => (x.1, x.2 + 1) := by
  cases l with
  | nil => cases last <;> rfl
  | cons d t =>
    by_cases hd : isOc d = true
    · cases t with
      | nil => cases last <;> simp [octV, octGo, hd]
      | cons e u =>
        by_cases he : isOc e = true
        · simp [octV, octGo, hd, he]
        · simp [octV, octGo, hd, he]
    · simp [octV, octGo, hd]
theorem isOc_iff {c : UInt8} : isOc c = true ↔ 48 ≤ c.toNat ∧ c.toNat ≤ 55 := by unfold isOc; simp
theorem wrap_byte (N : Nat) : IntKind.u8.wrap (N : Int) = ((UInt8.ofNat N).toNat : Int) := by rw [IntKind.wrap_u8, UInt8.toNat_ofNat']; omega

/-- A byte is put, and a truth told. -/
theorem put_end {w w1 w2 : World} {S S1 : Nat → Prop} {p : Nat} {X : Src} {o2 : List UInt8} {k2 : Nat} (hk : Keeps S w w1) (hs : ∀ b, S1 b → S b ∨ w.heap.size ≤ b) (hN : ScNext w1 S1 p X o2 k2 w2) (V : Option (List UInt8 × Nat)) (hV : V = some (o2, k2)) :
    StepEnd w S p X V (.returned (.bool true)) w2 := by
  subst hV
  exact ⟨rfl, ScNext.trans hk hs hN⟩

set_option maxRecDepth 8000 in
set_option maxHeartbeats 4000000 in
theorem octal_any {w : World} {S : Nat → Prop} {p : Nat} {X : Src} {out : List UInt8} {k : Nat} (h : ScQ w S p X out k) (c : UInt8) (hc : isOc c = true) (hk : out.length < k) :
    Calls Try.prog 55 #[.pointer (some ⟨p, 0, none⟩), .int .u8 c.toNat] w (StepEnd w S p X ((octGo X.last 2 (c.toNat - 48) (X.bs.drop k)).map fun x => (out ++ [UInt8.ofNat x.1], k + x.2))) := by
  obtain ⟨V, hV⟩ : ∃ V, V = (octGo X.last 2 (c.toNat - 48) (X.bs.drop k)).map fun x => (out ++ [UInt8.ofNat x.1], k + x.2) := ⟨_, rfl⟩
  rw [← hV]
  have hc2 := isOc_iff.1 hc
  have HV := Lib.hid hV
  have HN := Lib.hid (ScNext.refl h)
  have hsm : X.bs.length ≤ 100000 := by obtain ⟨_, _, h⟩ := h; exact h.small
  obtain ⟨n0, hn0⟩ : ∃ n0, n0 = c.toNat - 48 := ⟨_, rfl⟩
  have hci : (c.toNat : Int) = (n0 : Int) + 48 := by omega
  have hn7 : n0 ≤ 7 := by omega
  rw [← hn0] at HV
  rw [hci]
  clear hV h hc hc2 hn0 hci
  go_enter Try.func55, Try.ntmps55
  go_wp2
  go_loopw [5, 6] (fun n i wr => ∃ (j N k' : Nat), j ≤ 2 ∧ n = .int .i64 N ∧ i = .int .i64 j ∧ N + 1 ≤ 8 ^ (j + 1) ∧ k ≤ k' ∧ Hid (ScNext w S p X out k' wr) ∧ Hid (V = (octGo X.last (2 - j) N (X.bs.drop k')).map fun x => (out ++ [UInt8.ofNat x.1], k' + x.2))) (fun _ i _ => 2 - (intOf i).toNat)
  case atStart => exact ⟨0, n0, k, by omega, by go_num, rfl, by omega, Nat.le_refl _, HN, HV⟩
  case round =>
    obtain ⟨j, N, k', hj, rfl, rfl, hN, hkk, HS, HG⟩ := hrel
    obtain ⟨S1, hq1, hk1, hs1⟩ := HS.out
    have HQ1 := Lib.hid hq1
    have HK1 := Lib.hid hk1
    have HS1 := Lib.hid hs1
    have hP := peek_any hq1
    unfold peekV u8C at hP
    have hN5 : N ≤ 511 := by
      have : j = 0 ∨ j = 1 ∨ j = 2 := by omega
      rcases this with rfl | rfl | rfl <;> omega
    have HWB := Lib.hid (fun (q : Nat) (x : Int) (hx : x = ((UInt8.ofNat N).toNat : Int)) => writeByte_any (hq1.drewN q) (UInt8.ofNat N) x hx (by omega))
    have HWB0 := Lib.hid (fun (x : Int) (hx : x = ((UInt8.ofNat N).toNat : Int)) => writeByte_any hq1 (UInt8.ofNat N) x hx (by omega))
    clear hq1 hk1 hs1
    by_cases hj2 : j < 2
    · obtain ⟨m, hm⟩ : ∃ m, 2 - j = m + 1 := ⟨1 - j, by omega⟩
      have hg := HG.out
      rw [hm] at hg
      have HM := Lib.hid hm
      have hjd : decide ((j : Int) < 2) = true := by simp; omega
      clear hm
      by_cases hk2 : k' < X.bs.length
      · rw [if_pos hk2] at hP
        rw [drop_cons hk2, octGo] at hg
        by_cases hd : isOc (X.bs.getD k' 0) = true
        · have hd2 := isOc_iff.1 hd
          rw [if_pos hd] at hg
          have HP := Lib.hid hP
          have HG2 := Lib.hid hg
          obtain ⟨d, hd3⟩ : ∃ d, d = (X.bs.getD k' 0).toNat - 48 := ⟨_, rfl⟩
          have hdi : ((X.bs.getD k' 0).toNat : Int) = (d : Int) + 48 := by omega
          have hd7 : d ≤ 7 := by omega
          rw [hdi] at HP
          rw [← hd3] at HG2
          clear hg hP hd hd2 hd3 hdi
          go_wp2_with fail
          refine HP.out.mono ?_
          rintro e w1 ⟨rfl, q, rfl⟩
          have h1 := HQ1.out.drewN q
          obtain ⟨ad, v, h1⟩ := h1
          obtain ⟨-, -, -, c3, -⟩ := h1.cells
          have f3 := h1.free 3
          have HM3 := Lib.hid (ScNext.trans HK1.out HS1.out (ScNext.drew q (h1.move (k' + 1) (by omega) (by omega))))
          clear h1
          go_wp2
          go_roundw
          case rel =>
            refine ⟨j + 1, 8 * N + d, k' + 1, by omega, by go_num, by go_num, by rw [Nat.pow_succ]; omega, by omega, HM3, Lib.hid ?_⟩
            rw [HG2.out, show 2 - (j + 1) = m from by have := HM.out; omega, Option.map_map]
            congr 1
            funext x
            simp only [Function.comp]
            rw [show k' + 1 + x.2 = k' + (x.2 + 1) from by omega]
          case measure => simp [intOf]; omega
        · rw [if_neg hd] at hg
          simp only [Option.map_some] at hg
          have HG2 := Lib.hid hg
          have HP := Lib.hid hP
          have hd2 : ¬ (48 ≤ (X.bs.getD k' 0).toNat ∧ (X.bs.getD k' 0).toNat ≤ 55) := fun e => hd (isOc_iff.2 e)
          generalize (X.bs.getD k' 0).toNat = x at *
          by_cases hx : (x : Int) < 48
          · have hxd : decide ((x : Int) < 48) = true := by simpa using hx
            clear hg hP hd hd2
            go_wp2_with fail
            refine HP.out.mono ?_
            rintro e w1 ⟨rfl, q, rfl⟩
            go_wp2_with fail
            refine (HWB.out q _ (wrap_byte N)).mono ?_
            rintro e w2 ⟨rfl, hn2⟩
            have HN2 := Lib.hid hn2
            clear hn2
            go_wp2
            go_ret
            exact put_end ((HK1.out).drewN q) HS1.out HN2.out _ HG2.out
          · have hxd : decide ((x : Int) < 48) = false := by simpa using hx
            have hx2 : decide ((55 : Int) < x) = true := by simp; omega
            clear hg hP hd hd2 hx
            go_wp2_with fail
            refine HP.out.mono ?_
            rintro e w1 ⟨rfl, q, rfl⟩
            go_wp2_with fail
            refine (HWB.out q _ (wrap_byte N)).mono ?_
            rintro e w2 ⟨rfl, hn2⟩
            have HN2 := Lib.hid hn2
            clear hn2
            go_wp2
            go_ret
            exact put_end ((HK1.out).drewN q) HS1.out HN2.out _ HG2.out
      · rw [if_neg hk2] at hP
        rw [drop_nil hk2, octGo] at hg
        have HP := Lib.hid hP
        have hlast := fun (q : Nat) => (let ⟨ad, v, h⟩ := HQ1.out.drewN q; h.cells.2.2.2.2)
        obtain ⟨l, hl⟩ : ∃ l, X.last = l := ⟨_, rfl⟩
        rw [hl] at hg hlast
        have HL := Lib.hid hlast
        have HG2 := Lib.hid hg
        clear hg hP hl hlast hk2
        cases l
        · go_wp2_with fail
          refine HP.out.mono ?_
          rintro e w1 ⟨rfl, q, rfl⟩
          have c4 := HL.out q
          have HN2 := Lib.hid (ScNext.trans HK1.out HS1.out (ScNext.drew q (ScNext.refl (HQ1.out.drewN q))))
          go_wp2
          go_ret
          rw [HG2.out]
          exact ⟨rfl, _, _, HN2.out⟩
        · go_wp2_with fail
          refine HP.out.mono ?_
          rintro e w1 ⟨rfl, q, rfl⟩
          have c4 := HL.out q
          go_wp2_with fail
          refine (HWB.out q _ (wrap_byte N)).mono ?_
          rintro e w2 ⟨rfl, hn2⟩
          have HN2 := Lib.hid hn2
          clear hn2
          go_wp2
          go_ret
          exact put_end ((HK1.out).drewN q) HS1.out HN2.out _ HG2.out
    · obtain rfl : j = 2 := by omega
      have hg := HG.out
      rw [Nat.sub_self, octGo, Option.map_some] at hg
      have HG2 := Lib.hid hg
      clear hg hP
      go_wp2_with fail
      refine (HWB0.out _ (wrap_byte N)).mono ?_
      rintro e w2 ⟨rfl, hn2⟩
      have HN2 := Lib.hid hn2
      clear hn2
      go_wp2
      go_ret
      exact put_end HK1.out HS1.out HN2.out _ HG2.out

/-- What stands behind a backslash, as a step. -/
def escStep (X : Src) (out : List UInt8) (k : Nat) : Option (List UInt8 × Nat) := (escV X.last (X.bs.drop k)).map fun x => (out ++ x.1, k + x.2)

theorem esc_idx (c : UInt8) : (Lib.indexByte [110, 114, 116, 98, 102] c = -1 ∧ c ≠ 110 ∧ c ≠ 114 ∧ c ≠ 116 ∧ c ≠ 98 ∧ c ≠ 102) ∨ (c = 110 ∨ c = 114 ∨ c = 116 ∨ c = 98 ∨ c = 102) := by
  by_cases h : Lib.indexByte [110, 114, 116, 98, 102] c = -1
  · have := idx_none _ _ h
    simp at this
    exact .inl ⟨h, this⟩
  · have hg := Lib.indexByte_ge [110, 114, 116, 98, 102] c
    obtain ⟨i, hi⟩ := Int.eq_ofNat_of_zero_le (show 0 ≤ Lib.indexByte [110, 114, 116, 98, 102] c by omega)
    obtain ⟨a, t, e, -, -⟩ := idx_some _ _ _ hi
    have hm : c ∈ ([110, 114, 116, 98, 102] : List UInt8) := by rw [e]; simp
    simp at hm
    exact .inr hm
end Go.Proofs.Ytkolfecjlbnfkaa
