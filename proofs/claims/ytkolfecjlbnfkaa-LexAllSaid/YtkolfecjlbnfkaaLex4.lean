/-
  Walks of layer 10: what a scanner has put together; a line's end; octal digits.
-/
import Derived.Test.YtkolfecjlbnfkaaLex3
namespace Go.Proofs.Ytkolfecjlbnfkaa
open Go.RowKit

def mkB (l : List UInt8) : ByteArray := ⟨l.toArray⟩
theorem bl_mkB (l : List UInt8) : bl (mkB l) = l := rfl
theorem mkB_bl (s : ByteArray) : mkB (bl s) = s := rfl
theorem mkB_size (l : List UInt8) : (mkB l).size = l.length := by unfold mkB; simp [ByteArray.size]
theorem mkB_ext {a b : ByteArray} (h : bl a = bl b) : a = b := by rw [← mkB_bl a, ← mkB_bl b, h]

theorem keeps_freeze {S : Nat → Prop} {w : World} {a : Addr} (h : S a.block) (n : Nat) : Keeps S w (w.freeze a n) := by
  unfold World.freeze
  split
  · exact Keeps.refl _ _
  · exact ⟨rfl, rfl, rfl, by simp, fun b _ hn => by
      simp only [Array.getElem?_modify]
      rw [if_neg (fun e : a.block = b => hn (e ▸ h))]⟩

set_option maxRecDepth 100000 in
set_option maxHeartbeats 2000000 in
theorem string_any {w : World} {S : Nat → Prop} {p : Nat} {X : Src} {out : List UInt8} {k : Nat} (h : ScQ w S p X out k) :
    Calls Try.prog 44 #[.pointer (some ⟨p, 0, none⟩)] w fun e w' => e = .returned (.string (mkB out)) ∧ Keeps S w w' ∧ w'.heap[p]? = w.heap[p]? := by
  obtain ⟨ad, v, h⟩ := h
  obtain ⟨-, c1, -⟩ := h.cells
  by_cases h0 : out = []
  · have hv := h.nil_ h0
    subst h0
    subst hv
    have hUS := fun (W : World) (q : Option Addr) => Lib.run_unsafeString_none (P := Try.prog) W 89 3 9 q
    have c1' : w.drew.cell? ⟨p, 1, none⟩ = some (.slice none 0 0) := c1
    have hSD : (Builtin.unsafeSliceData_ #[22] 89 #[.slice none 0 0]).run Try.prog w.drew = .ok (.pointer none) w.drew := rfl
    have HK := Lib.hid (show Keeps S w w.drew ∧ w.drew.heap[p]? = w.heap[p]? from ⟨(Keeps.refl S w).drewN 1, rfl⟩)
    clear h
    go_enter Try.func44, Try.ntmps44
    go_wp2
    go_region
    all_goals
      go_wp2
      go_ret
      exact ⟨rfl, HK.out⟩
  · have hl0 : out.length ≠ 0 := by simpa using h0
    obtain ⟨g, cap, cur, rfl, hbg, hg, hnc, hcm, hcs, htake⟩ : ∃ g cap cur, v = .slice (some ⟨g, 0, none⟩) out.length cap ∧ p + 1 ≤ g ∧ w.heap[g]? = some (.cells cur 5 (0, 0)) ∧ out.length ≤ cap ∧ cap ≤ maxLen ∧ cur.size = cap * 1 ∧ cur.toList.take (out.length * 1) = out.map u8C := by
      rcases h.row.2 with ⟨_, hz⟩ | ⟨g, cap, cur, hv, r⟩
      · exact absurd hz hl0
      · exact ⟨g, cap, cur, hv, r⟩
    have c1' : w.drew.cell? ⟨p, 1, none⟩ = some (.slice (some ⟨g, 0, none⟩) out.length cap) := c1
    have hSD : (Builtin.unsafeSliceData_ #[22] 89 #[.slice (some ⟨g, 0, none⟩) out.length cap]).run Try.prog w.drew = .ok (.pointer (some ⟨g, 0, none⟩)) w.drew :=
      Lib.run_unsafeSliceData_row _ _ _ _ _ _ (by omega)
    have hUS : (Builtin.unsafeString_ #[89, 3] 9 #[.pointer (some ⟨g, 0, none⟩), .int .i64 out.length]).run Try.prog w.drew = .ok (.string ⟨out.toArray⟩) (w.drew.freeze ⟨g, 0, none⟩ out.length) := by
      refine Lib.run_unsafeString_row w.drew 89 3 9 5 Try.underlying89 cellsByte g cur.size (by have hg' : w.drew.heap[g]? = some (.cells cur 5 (0, 0)) := hg; simp [World.shape?, hg']) out h0 (by omega) (by unfold maxLen at hcm; omega) ?_
      intro j x hx
      exact h.row.cells (g := g) rfl j (u8C x) (by simp [hx])
    have HK := Lib.hid (show Keeps S w (w.drew.freeze ⟨g, 0, none⟩ out.length) ∧ (w.drew.freeze ⟨g, 0, none⟩ out.length).heap[p]? = w.heap[p]? from ⟨Keeps.trans ((Keeps.refl S w).drewN 1) (keeps_freeze (S := S) (h.at_ g rfl) _) (fun _ hx => .inl hx), ((keeps_freeze (S := fun b => b = g) (w := w.drew) (a := ⟨g, 0, none⟩) rfl out.length).block p (h.lt p h.own).2 (fun e => by omega)).trans rfl⟩)
    clear h htake hcs hg
    go_enter Try.func44, Try.ntmps44
    go_wp2
    go_region
    all_goals
      go_wp2
      go_ret
      exact ⟨rfl, HK.out⟩

/-- What a step leaves: a truth, and a scanner. -/
def StepEnd (w : World) (S : Nat → Prop) (p : Nat) (X : Src) (V : Option (List UInt8 × Nat)) (e : Ending) (w' : World) : Prop :=
  match V with
  | none => e = .returned (.bool false) ∧ ∃ out k, ScNext w S p X out k w'
  | some (out, k) => e = .returned (.bool true) ∧ ScNext w S p X out k w'

theorem drop_cons {l : List UInt8} {k : Nat} (h : k < l.length) : l.drop k = l.getD k 0 :: l.drop (k + 1) := by rw [List.drop_eq_getElem_cons h]; simp [List.getD, h]
theorem drop_nil {l : List UInt8} {k : Nat} (h : ¬ k < l.length) : l.drop k = [] := List.drop_of_length_le (by omega)
theorem ScNext.drew {w : World} {S : Nat → Prop} {p : Nat} {X : Src} {out : List UInt8} {k : Nat} (q : Nat) {w' : World} (h : ScNext (w.drewN q) S p X out k w') : ScNext w S p X out k w' :=
  ScNext.trans ((Keeps.refl S w).drewN q) (fun _ h => .inl h) h

set_option maxHeartbeats 1000000 in
theorem line_any {w : World} {S : Nat → Prop} {p : Nat} {X : Src} {out : List UInt8} {k : Nat} (h : ScQ w S p X out k) :
    Calls Try.prog 43 #[.pointer (some ⟨p, 0, none⟩), .int .u8 13] w (StepEnd w S p X ((lineV X.last (X.bs.drop k)).map fun j => (out, k + j))) := by
  have hP := peek_any h
  obtain ⟨V, hV⟩ : ∃ V, V = (lineV X.last (X.bs.drop k)).map fun j => (out, k + j) := ⟨_, rfl⟩
  rw [← hV]
  unfold peekV at hP
  by_cases hk : k < X.bs.length
  · rw [if_pos hk] at hP
    rw [drop_cons hk] at hV
    simp only [lineV, Option.map_some] at hV
    have HQ := Lib.hid h
    have HP := Lib.hid hP
    have hsm : X.bs.length ≤ 100000 := by obtain ⟨_, _, h⟩ := h; exact h.small
    unfold u8C at HP
    by_cases h10 : X.bs.getD k 0 = 10
    · rw [if_pos h10] at hV
      have HV := Lib.hid hV
      rw [h10] at HP
      clear hV hP h h10
      go_enter Try.func43, Try.ntmps43
      go_wp2_with fail
      refine HP.out.mono ?_
      rintro e w1 ⟨rfl, q, rfl⟩
      have h1 := HQ.out.drewN q
      obtain ⟨ad, v, h1⟩ := h1
      obtain ⟨-, -, -, c3, -⟩ := h1.cells
      have f3 := h1.free 3
      have HM := Lib.hid (ScNext.drew q (h1.move (k + 1) (by omega) (by omega)))
      clear h1
      go_wp2
      go_ret
      rw [HV.out]
      exact ⟨rfl, HM.out⟩
    · rw [if_neg h10] at hV
      have HV := Lib.hid hV
      have h10d : (((X.bs.getD k 0).toNat : Int) == 10) = false := by
        rw [beq_eq_false_iff_ne]; intro e; exact h10 (UInt8.toNat_inj.1 (Int.ofNat_inj.1 e))
      generalize (X.bs.getD k 0).toNat = x at *
      clear hV hP h h10
      go_enter Try.func43, Try.ntmps43
      go_wp2_with fail
      refine HP.out.mono ?_
      rintro e w1 ⟨rfl, q, rfl⟩
      have HN := Lib.hid (ScNext.drew q (ScNext.refl (HQ.out.drewN q)))
      go_wp2
      go_ret
      rw [HV.out]
      exact ⟨rfl, HN.out⟩
  · rw [if_neg hk] at hP
    rw [drop_nil hk] at hV
    simp only [lineV] at hV
    have HV := Lib.hid hV
    have HQ := Lib.hid h
    have HP := Lib.hid hP
    clear hV hP h hk
    obtain ⟨l, hl⟩ : ∃ l, X.last = l := ⟨_, rfl⟩
    rw [hl] at HV
    have HL := Lib.hid hl
    clear hl
    cases l
    all_goals
      go_enter Try.func43, Try.ntmps43
      go_wp2_with fail
      refine HP.out.mono ?_
      rintro e w1 ⟨rfl, q, rfl⟩
      have h1 := HQ.out.drewN q
      have HN := Lib.hid (ScNext.drew q (ScNext.refl h1))
      obtain ⟨ad, v, h1⟩ := h1
      obtain ⟨-, -, -, -, c4⟩ := h1.cells
      rw [HL.out] at c4
      clear h1
      go_wp2
      go_ret
      rw [HV.out]
    · exact ⟨rfl, _, _, HN.out⟩
    · exact ⟨rfl, HN.out⟩
end Go.Proofs.Ytkolfecjlbnfkaa
