/-
  The walk of layer 10: a run of regular bytes.
-/
import Derived.Test.YtkolfecjlbnfkaaLex4
import Derived.Laws.IdiomStrings
import Derived.Deep.LoopGhost
namespace Go.Proofs.Ytkolfecjlbnfkaa
open Go.RowKit

def regs (l : List UInt8) : List UInt8 := l.takeWhile isRg
def runN (l : List UInt8) : Nat := (regs l).length
theorem runN_le (l : List UInt8) : runN l ≤ l.length := by unfold runN regs; exact List.Sublist.length_le (List.takeWhile_sublist _)
theorem runN_yes {c : UInt8} (l : List UInt8) (h : isRg c = true) : runN (c :: l) = 1 + runN l := by unfold runN regs; rw [List.takeWhile_cons_of_pos h]; simp; omega
theorem runN_no {c : UInt8} (l : List UInt8) (h : isRg c = false) : runN (c :: l) = 0 := by unfold runN regs; rw [List.takeWhile_cons_of_neg (by simp [h])]; rfl
theorem regs_take (l : List UInt8) : regs l = l.take (runN l) := by
  unfold runN regs
  induction l with
  | nil => rfl
  | cons c l ih =>
    by_cases h : isRg c = true
    · rw [List.takeWhile_cons_of_pos h, List.length_cons, List.take_succ_cons, ← ih]
    · rw [List.takeWhile_cons_of_neg h]; rfl
theorem regs_drop (l : List UInt8) : l.dropWhile isRg = l.drop (runN l) := by
  unfold runN regs
  induction l with
  | nil => rfl
  | cons c l ih =>
    by_cases h : isRg c = true
    · rw [List.takeWhile_cons_of_pos h, List.length_cons, List.drop_succ_cons, ← ih, List.dropWhile_cons_of_pos h]
    · rw [List.takeWhile_cons_of_neg h, List.dropWhile_cons_of_neg h]; rfl

/-- What a word leaves: the bytes, whether it is whole, a scanner behind it. -/
def WordEnd (w : World) (S : Nat → Prop) (p : Nat) (X : Src) (out : List UInt8) (k : Nat) (e : Ending) (w' : World) : Prop :=
  e = .returned (.tuple #[.string (mkB (regs (X.bs.drop k))), .bool (decide (k + runN (X.bs.drop k) < X.bs.length) || X.last)]) ∧ ScNext w S p X out (k + runN (X.bs.drop k)) w'

theorem conv_bytes {w : World} {b off cap : Nat} {X : Src} (hc : ∀ j, j < X.bs.length → w.cell? ⟨b, off + j, none⟩ = some (u8C (X.bs.getD j 0))) (k m : Nat) (hm : k + m ≤ X.bs.length) (W : World) (hW : Below w.heap.size w W) :
    (convert 22 9 (.slice (some ⟨b, off + k, none⟩) m cap)).run Try.prog W = .ok (.string (mkB ((X.bs.drop k).take m))) W := by
  have hl : ((X.bs.drop k).take m).length = m := by rw [List.length_take, List.length_drop]; omega
  have h := run_convert_bytes_back (P := Try.prog) W 22 9 5 ⟨b, off + k, none⟩ cap ((X.bs.drop k).take m) Try.underlying22 Try.underlying5 Try.underlying9 (fun j hj => by
    rw [hl] at hj
    rw [Addr.add_lit, Nat.add_assoc]
    refine cell?_keep hW ((hc (k + j) (by omega)).trans ?_)
    congr 1
    unfold u8C
    simp [List.getD, show k + j < X.bs.length from by omega])
  rw [hl] at h
  exact h

set_option maxRecDepth 8000 in
set_option maxHeartbeats 8000000 in
theorem word_any {w : World} {S : Nat → Prop} {p : Nat} {X : Src} {out : List UInt8} {k : Nat} (h : ScQ w S p X out k) (hne : 0 < X.bs.length) :
    Calls Try.prog 32 #[.pointer (some ⟨p, 0, none⟩)] w (WordEnd w S p X out k) := by
  have hsm : X.bs.length ≤ 100000 := by obtain ⟨_, _, h⟩ := h; exact h.small
  have hle : k ≤ X.bs.length := by obtain ⟨_, _, h⟩ := h; exact h.le
  have hcap : X.bs.length ≤ X.cap ∧ X.cap ≤ maxLen := by obtain ⟨_, _, h⟩ := h; exact ⟨h.src.2.1, h.src.2.2.1⟩
  have hc3 : w.cell? ⟨p, 3, none⟩ = some (.int .i64 k) := by obtain ⟨_, _, h⟩ := h; exact h.cells.2.2.2.1
  have HN := Lib.hid (ScNext.refl h)
  obtain ⟨m, hm⟩ : ∃ m, m = runN (X.bs.drop k) := ⟨_, rfl⟩
  have hml := runN_le (X.bs.drop k)
  rw [List.length_drop, ← hm] at hml
  have HM := Lib.hid hm
  unfold WordEnd
  rw [regs_take, ← hm]
  obtain ⟨l, hl⟩ : ∃ l, X.last = l := ⟨_, rfl⟩
  rw [hl]
  have HLL := Lib.hid hl
  obtain ⟨hc1, hc2⟩ := hcap
  have hc2' : X.cap ≤ 9223372036854775807 := by unfold maxLen at hc2; omega
  clear h hm hc2 hl
  go_enter Try.func32, Try.ntmps32
  go_wp2
  clear hc3
  go_loopg [] (X.bs.length - k) (fun g wr => ∃ j : Nat, g = X.bs.length - j ∧ k ≤ j ∧ j ≤ k + m ∧ Hid (ScNext w S p X out j wr) ∧ Hid (k + m = j + runN (X.bs.drop j)))
  case atStart => exact ⟨k, rfl, Nat.le_refl _, by omega, HN, Lib.hid (by rw [HM.out])⟩
  case round =>
    obtain ⟨j, hg, hkj, hjm, HS, HJ⟩ := hrel
    have HG := Lib.hid hg
    obtain ⟨S1, hq1, hk1, hs1⟩ := HS.out
    obtain ⟨ad, v, h1⟩ := hq1
    obtain ⟨-, -, c2, c3, c4⟩ := h1.cells
    have f3 := h1.free 3
    obtain ⟨b, off, ha, _, hcc⟩ := h1.src.at 0 0 hne
    have hcc2 : ∀ i, i < X.bs.length → wr.cell? ⟨b, off + i, none⟩ = some (u8C (X.bs.getD i 0)) := hcc
    rw [ha] at c2
    have HCC := Lib.hid hcc2
    have HK1 := Lib.hid hk1
    have HS1 := Lib.hid hs1
    have H1 := Lib.hid h1
    clear hk1 hs1 hg hcc hcc2 h1
    by_cases hj : j < X.bs.length
    · have hcj := HCC.out j hj
      have hv := HJ.out
      rw [drop_cons hj] at hv
      have hjd : decide ((j : Int) < X.bs.length) = true := by simp; omega
      have HMV := Lib.hid (fun q => (let h := H1.out.keep (below_drewN (Below.refl wr.heap.size wr) q); h.move (j + 1) (by omega) (by omega)))
      have hrg := fun W => regular_any (X.bs.getD j 0) W
      rw [← rgI_eq] at hrg
      unfold u8C at hcj
      obtain ⟨c, hc⟩ : ∃ c, c = X.bs.getD j 0 := ⟨_, rfl⟩
      rw [← hc] at hrg hcj hv
      obtain ⟨rg, hrg2⟩ : ∃ rg, isRg c = rg := ⟨_, rfl⟩
      rw [hrg2] at hrg
      have HRG := Lib.hid hrg
      have HR2 := Lib.hid hrg2
      have HV := Lib.hid hv
      clear hrg hrg2 hv hc
      cases rg
      · have hje : j = k + m := by have := HV.out; rw [runN_no _ HR2.out] at this; omega
        have HJE := Lib.hid hje
        clear hje
        have hcv : ∀ nq, (convert 22 9 (.slice (some ⟨b, off + k, none⟩) (j - k) (X.cap - k))).run Try.prog (wr.drewN nq) = .ok (.string (mkB ((X.bs.drop k).take (j - k)))) (wr.drewN nq) := fun nq => conv_bytes HCC.out k (j - k) (by omega) _ (below_drewN (Below.refl _ _) nq)
        have hcv0 : ∀ nq, (convert 22 9 (.slice (some ⟨b, off, none⟩) 0 0)).run Try.prog (wr.drewN nq) = .ok (.string (mkB [])) (wr.drewN nq) := fun nq => conv_bytes HCC.out 0 0 (by omega) _ (below_drewN (Below.refl _ _) nq)
        have HEND := Lib.hid (fun q => ScNext.trans HK1.out HS1.out (ScNext.drew q (ScNext.refl (⟨ad, v, H1.out.keep (below_drewN (Below.refl _ _) q)⟩ : ScQ (wr.drewN q) S1 p X out j))))
        rw [HLL.out] at c4
        go_wp2
        go_quiet ((go_at_call 27; exact (HRG.out _).mono fun _ _ ⟨he, hm⟩ => ⟨he, _, hm.symm⟩))
        go_wp2
        have HDD := Lib.hid (show decide (j < X.bs.length) = true from decide_eq_true hj)
        have hck : ¬ X.cap = k := by omega
        go_quiet (fail)
        go_wp2
        go_ret2
        exact ⟨by rw [show m = j - k from by have := HJE.out; omega, show k + (j - k) = j from by omega, HDD.out]; rfl, by rw [← HJE.out]; simpa using HEND.out _⟩
      · go_wp2
        go_quiet ((go_at_call 27; exact (HRG.out _).mono fun _ _ ⟨he, hm⟩ => ⟨he, _, hm.symm⟩))
        go_wp2
        go_roundg (X.bs.length - (j + 1))
        case rel =>
          refine ⟨j + 1, rfl, by omega, ?_, Lib.hid (ScNext.trans HK1.out HS1.out (ScNext.drew _ (HMV.out _))), Lib.hid ?_⟩
          · have := HV.out; rw [runN_yes _ HR2.out] at this; omega
          · have := HV.out; rw [runN_yes _ HR2.out] at this; omega
        case measure => have := HG.out; omega
    · have hje : j = X.bs.length := by omega
      have HJE := Lib.hid (show j = k + m by omega)
      have hjd : decide ((j : Int) < X.bs.length) = false := decide_eq_false (by omega)
      have hjd2 : decide (j < X.bs.length) = false := decide_eq_false (by omega)
      have hcv : ∀ nq, (convert 22 9 (.slice (some ⟨b, off + k, none⟩) (j - k) (X.cap - k))).run Try.prog (wr.drewN nq) = .ok (.string (mkB ((X.bs.drop k).take (j - k)))) (wr.drewN nq) := fun nq => conv_bytes HCC.out k (j - k) (by omega) _ (below_drewN (Below.refl _ _) nq)
      have hcv0 : ∀ nq, (convert 22 9 (.slice (some ⟨b, off, none⟩) 0 0)).run Try.prog (wr.drewN nq) = .ok (.string (mkB [])) (wr.drewN nq) := fun nq => conv_bytes HCC.out 0 0 (by omega) _ (below_drewN (Below.refl _ _) nq)
      have HEND := Lib.hid (fun q => ScNext.trans HK1.out HS1.out (ScNext.drew q (ScNext.refl (⟨ad, v, H1.out.keep (below_drewN (Below.refl _ _) q)⟩ : ScQ (wr.drewN q) S1 p X out j))))
      have HDD := Lib.hid (show decide (j < X.bs.length) = false from decide_eq_false (by omega))
      rw [HLL.out] at c4
      clear hje hj
      cases l
      all_goals
        go_wp2
        go_quiet (fail)
        go_wp2
        by_cases hck : X.cap = k
        · have hjk : j = k := by omega
          have HZ := Lib.hid (show (X.bs.drop k).take m = [] by rw [show m = 0 from by have := HJE.out; omega]; rfl)
          have hkd2 : decide (k < X.bs.length) = false := decide_eq_false (by omega)
          go_quiet (fail)
          go_wp2
          go_ret2
          exact ⟨by rw [HZ.out, ← HJE.out, HDD.out]; rfl, by rw [← HJE.out]; simpa using HEND.out _⟩
        · go_quiet (fail)
          go_wp2
          go_ret2
          exact ⟨by rw [show m = j - k from by have := HJE.out; omega, show k + (j - k) = j from by omega, HDD.out]; rfl, by rw [← HJE.out]; simpa using HEND.out _⟩
end Go.Proofs.Ytkolfecjlbnfkaa
