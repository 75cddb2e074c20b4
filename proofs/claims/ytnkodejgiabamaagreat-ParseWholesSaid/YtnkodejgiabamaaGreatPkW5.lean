/-
  Our texts Lex4 to Num3, in one.
-/
import Derived.Test.YtnkodejgiabamaaGreatPkW4
import Derived.StillTailTactics
import Derived.ScopeJumps
import Derived.WalkMore
import Derived.Deep.LoopGhost
/-
  Walks of layer 10: what a scanner has put together; a line's end; octal digits.
-/
namespace Go.Proofs.YtnkodejgiabamaaGreat
open Go.RowKit

def mkB (l : List UInt8) : ByteArray := ⟨l.toArray⟩
theorem bl_mkB (l : List UInt8) : bl (mkB l) = l := rfl
theorem mkB_bl (s : ByteArray) : mkB (bl s) = s := rfl
theorem mkB_size (l : List UInt8) : (mkB l).size = l.length := by unfold mkB; simp [ByteArray.size]
theorem mkB_ext {a b : ByteArray} (h : bl a = bl b) : a = b := by rw [← mkB_bl a, ← mkB_bl b, h]

theorem keeps_freeze {S : Nat → Prop} {w : World} {a : Addr} (h : S a.block) (n : Nat) : Keeps S w (w.freeze a n) := by
  unfold World.freeze
  split
  · exact Keeps.refl _ _
  · exact ⟨rfl, rfl, rfl, by simp, fun b _ hn => by
      simp only [Array.getElem?_modify]
      rw [if_neg (fun e : a.block = b => hn (e ▸ h))]⟩

set_option maxRecDepth 100000 in
set_option maxHeartbeats 2000000 in
theorem string_any {w : World} {S : Nat → Prop} {p : Nat} {X : Src} {out : List UInt8} {k : Nat} (h : ScQ w S p X out k) :
    Calls Tryz.prog 63 #[.pointer (some ⟨p, 0, none⟩)] w fun e w' => e = .returned (.string (mkB out)) ∧ Keeps S w w' ∧ w'.heap[p]? = w.heap[p]? := by
  obtain ⟨ad, v, h⟩ := h
  obtain ⟨-, c1, -⟩ := h.cells
  by_cases h0 : out = []
  · have hv := h.nil_ h0
    subst h0
    subst hv
    have hUS := fun (W : World) (q : Option Addr) => Lib.run_unsafeString_none (P := Tryz.prog) W 126 3 9 q
    have c1' : w.drew.cell? ⟨p, 1, none⟩ = some (.slice none 0 0) := c1
    have hSD : (Builtin.unsafeSliceData_ #[22] 126 #[.slice none 0 0]).run Tryz.prog w.drew = .ok (.pointer none) w.drew := rfl
    have HK := Lib.hid (show Keeps S w w.drew ∧ w.drew.heap[p]? = w.heap[p]? from ⟨(Keeps.refl S w).drewN 1, rfl⟩)
    clear h
    go_enter Tryz.func63, Tryz.ntmps63
    go_wp2
    go_region
    all_goals
      go_wp2
      go_ret
      exact ⟨rfl, HK.out⟩
  · have hl0 : out.length ≠ 0 := by simpa using h0
    obtain ⟨g, cap, cur, rfl, hbg, hg, hnc, hcm, hcs, htake⟩ : ∃ g cap cur, v = .slice (some ⟨g, 0, none⟩) out.length cap ∧ p + 1 ≤ g ∧ w.heap[g]? = some (.cells cur 5 (0, 0)) ∧ out.length ≤ cap ∧ cap ≤ maxLen ∧ cur.size = cap * 1 ∧ cur.toList.take (out.length * 1) = out.map u8C := by
      rcases h.row.2 with ⟨_, hz⟩ | ⟨g, cap, cur, hv, r⟩
      · exact absurd hz hl0
      · exact ⟨g, cap, cur, hv, r⟩
    have c1' : w.drew.cell? ⟨p, 1, none⟩ = some (.slice (some ⟨g, 0, none⟩) out.length cap) := c1
    have hSD : (Builtin.unsafeSliceData_ #[22] 126 #[.slice (some ⟨g, 0, none⟩) out.length cap]).run Tryz.prog w.drew = .ok (.pointer (some ⟨g, 0, none⟩)) w.drew :=
      Lib.run_unsafeSliceData_row _ _ _ _ _ _ (by omega)
    have hUS : (Builtin.unsafeString_ #[126, 3] 9 #[.pointer (some ⟨g, 0, none⟩), .int .i64 out.length]).run Tryz.prog w.drew = .ok (.string ⟨out.toArray⟩) (w.drew.freeze ⟨g, 0, none⟩ out.length) := by
      refine Lib.run_unsafeString_row w.drew 126 3 9 5 Tryz.underlying126 cellsByte g cur.size (by have hg' : w.drew.heap[g]? = some (.cells cur 5 (0, 0)) := hg; simp [World.shape?, hg']) out h0 (by omega) (by unfold maxLen at hcm; omega) ?_
      intro j x hx
      exact h.row.cells (g := g) rfl j (u8C x) (by simp [hx])
    have HK := Lib.hid (show Keeps S w (w.drew.freeze ⟨g, 0, none⟩ out.length) ∧ (w.drew.freeze ⟨g, 0, none⟩ out.length).heap[p]? = w.heap[p]? from ⟨Keeps.trans ((Keeps.refl S w).drewN 1) (keeps_freeze (S := S) (h.at_ g rfl) _) (fun _ hx => .inl hx), ((keeps_freeze (S := fun b => b = g) (w := w.drew) (a := ⟨g, 0, none⟩) rfl out.length).block p (h.lt p h.own).2 (fun e => by omega)).trans rfl⟩)
    clear h htake hcs hg
    go_enter Tryz.func63, Tryz.ntmps63
    go_wp2
    go_region
    all_goals
      go_wp2
      go_ret
      exact ⟨rfl, HK.out⟩

/-- What a step leaves: a truth, and a scanner. -/
def StepEnd (w : World) (S : Nat → Prop) (p : Nat) (X : Src) (V : Option (List UInt8 × Nat)) (e : Ending) (w' : World) : Prop :=
  match V with
  | none => e = .returned (.bool false) ∧ ∃ out k, ScNext w S p X out k w'
  | some (out, k) => e = .returned (.bool true) ∧ ScNext w S p X out k w'

theorem drop_cons {l : List UInt8} {k : Nat} (h : k < l.length) : l.drop k = l.getD k 0 :: l.drop (k + 1) := by rw [List.drop_eq_getElem_cons h]; simp [List.getD, h]
theorem drop_nil {l : List UInt8} {k : Nat} (h : ¬ k < l.length) : l.drop k = [] := List.drop_of_length_le (by omega)
theorem ScNext.drew {w : World} {S : Nat → Prop} {p : Nat} {X : Src} {out : List UInt8} {k : Nat} (q : Nat) {w' : World} (h : ScNext (w.drewN q) S p X out k w') : ScNext w S p X out k w' :=
  ScNext.trans ((Keeps.refl S w).drewN q) (fun _ h => .inl h) h

set_option maxHeartbeats 1000000 in
theorem line_any {w : World} {S : Nat → Prop} {p : Nat} {X : Src} {out : List UInt8} {k : Nat} (h : ScQ w S p X out k) :
    Calls Tryz.prog 62 #[.pointer (some ⟨p, 0, none⟩), .int .u8 13] w (StepEnd w S p X ((lineV X.last (X.bs.drop k)).map fun j => (out, k + j))) := by
  have hP := peek_any h
  obtain ⟨V, hV⟩ : ∃ V, V = (lineV X.last (X.bs.drop k)).map fun j => (out, k + j) := ⟨_, rfl⟩
  rw [← hV]
  unfold peekV at hP
  by_cases hk : k < X.bs.length
  · rw [if_pos hk] at hP
    rw [drop_cons hk] at hV
    simp only [lineV, Option.map_some] at hV
    have HQ := Lib.hid h
    have HP := Lib.hid hP
    have hsm : X.bs.length ≤ 100000 := by obtain ⟨_, _, h⟩ := h; exact h.small
    unfold u8C at HP
    by_cases h10 : X.bs.getD k 0 = 10
    · rw [if_pos h10] at hV
      have HV := Lib.hid hV
      rw [h10] at HP
      clear hV hP h h10
      go_enter Tryz.func62, Tryz.ntmps62
      go_wp2_with fail
      refine HP.out.mono ?_
      rintro e w1 ⟨rfl, q, rfl⟩
      have h1 := HQ.out.drewN q
      obtain ⟨ad, v, h1⟩ := h1
      obtain ⟨-, -, -, c3, -⟩ := h1.cells
      have f3 := h1.free 3
      have HM := Lib.hid (ScNext.drew q (h1.move (k + 1) (by omega) (by omega)))
      clear h1
      go_wp2
      go_ret
      rw [HV.out]
      exact ⟨rfl, HM.out⟩
    · rw [if_neg h10] at hV
      have HV := Lib.hid hV
      have h10d : (((X.bs.getD k 0).toNat : Int) == 10) = false := by
        rw [beq_eq_false_iff_ne]; intro e; exact h10 (UInt8.toNat_inj.1 (Int.ofNat_inj.1 e))
      generalize (X.bs.getD k 0).toNat = x at *
      clear hV hP h h10
      go_enter Tryz.func62, Tryz.ntmps62
      go_wp2_with fail
      refine HP.out.mono ?_
      rintro e w1 ⟨rfl, q, rfl⟩
      have HN := Lib.hid (ScNext.drew q (ScNext.refl (HQ.out.drewN q)))
      go_wp2
      go_ret
      rw [HV.out]
      exact ⟨rfl, HN.out⟩
  · rw [if_neg hk] at hP
    rw [drop_nil hk] at hV
    simp only [lineV] at hV
    have HV := Lib.hid hV
    have HQ := Lib.hid h
    have HP := Lib.hid hP
    clear hV hP h hk
    obtain ⟨l, hl⟩ : ∃ l, X.last = l := ⟨_, rfl⟩
    rw [hl] at HV
    have HL := Lib.hid hl
    clear hl
    cases l
    all_goals
      go_enter Tryz.func62, Tryz.ntmps62
      go_wp2_with fail
      refine HP.out.mono ?_
      rintro e w1 ⟨rfl, q, rfl⟩
      have h1 := HQ.out.drewN q
      have HN := Lib.hid (ScNext.drew q (ScNext.refl h1))
      obtain ⟨ad, v, h1⟩ := h1
      obtain ⟨-, -, -, -, c4⟩ := h1.cells
      rw [HL.out] at c4
      clear h1
      go_wp2
      go_ret
      rw [HV.out]
    · exact ⟨rfl, _, _, HN.out⟩
    · exact ⟨rfl, HN.out⟩
end Go.Proofs.YtnkodejgiabamaaGreat
/-
  Values (trees of four cells) in memory: words that name no function.
-/
namespace Go.Proofs.YtnkodejgiabamaaGreat
open Go.RowKit

/-- The four cells of a value whose last field is sl. -/
def pvC (v : PV) (sl : Value) : List Value := [.int .i64 v.kind, .int .i64 v.n, .string (mkB v.s), sl]
def pvA (v : PV) (sl : Value) : Value := .agg #[.int .i64 v.kind, .int .i64 v.n, .string (mkB v.s), sl]
mutual
/-- sl is the slice of the values in v, in memory that F knows. -/
def IsV (w : World) (F : Nat → Prop) : PV → Value → Prop
  | .mk _ _ _ l, sl => ∃ a cap cs, sl = .slice a l.length cap ∧ Row w 4 a l.length cap cs ∧ (0 < l.length → ∀ x, a = some x → F x.block) ∧ IsVs w F l cs
def IsVs (w : World) (F : Nat → Prop) : List PV → List Value → Prop
  | [], cs => cs = []
  | v :: l, cs => ∃ sl t, cs = pvC v sl ++ t ∧ IsV w F v sl ∧ IsVs w F l t
end

theorem pv_eta (v : PV) : PV.mk v.kind v.n v.s v.l = v := by cases v; rfl
theorem IsV.mk {w : World} {F : Nat → Prop} {v : PV} {a : Option Addr} {cap : Nat} {cs : List Value} (hr : Row w 4 a v.l.length cap cs) (hF : 0 < v.l.length → ∀ x, a = some x → F x.block) (h : IsVs w F v.l cs) : IsV w F v (.slice a v.l.length cap) := by
  cases v; exact ⟨a, cap, cs, rfl, hr, hF, h⟩
theorem IsV.out {w : World} {F : Nat → Prop} {v : PV} {sl : Value} (h : IsV w F v sl) : ∃ a cap cs, sl = .slice a v.l.length cap ∧ Row w 4 a v.l.length cap cs ∧ (0 < v.l.length → ∀ x, a = some x → F x.block) ∧ IsVs w F v.l cs := by
  cases v; exact h
theorem IsV.leaf (w : World) (F : Nat → Prop) (v : PV) (h : v.l = []) : IsV w F v (.slice none 0 0) := by
  have := IsV.mk (w := w) (F := F) (v := v) (a := none) (cap := 0) (cs := []) (by rw [h]; exact Row.nil w 4) (by rw [h]; intro h; cases h) (by rw [h]; rfl)
  rw [h] at this; exact this
theorem IsVs.length {w : World} {F : Nat → Prop} : ∀ {l : List PV} {cs : List Value}, IsVs w F l cs → cs.length = l.length * 4
  | [], _, h => by cases h; rfl
  | v :: l, _, ⟨sl, t, h, _, ht⟩ => by subst h; have := IsVs.length ht; simp [pvC]; omega

/-- What was there stays, in the blocks that F knows. -/
def Stays (F : Nat → Prop) (w w' : World) : Prop := w.heap.size ≤ w'.heap.size ∧ ∀ b, b < w.heap.size → F b → w'.heap[b]? = w.heap[b]?
theorem Row.stays {F : Nat → Prop} {w w' : World} {sz : Nat} {a : Option Addr} {n cap : Nat} {xs : List Value} (h : Row w sz a n cap xs) (hk : Stays F w w') (hne : 0 < n → ∀ x, a = some x → F x.block) : Row w' sz a n cap xs := by
  obtain ⟨h1, h2, h3, h4, h5⟩ := h
  refine ⟨h1, h2, h3, h4, fun hn => ?_⟩
  obtain ⟨b, off, ha, hlt, hc⟩ := h5 hn
  refine ⟨b, off, ha, Nat.lt_of_lt_of_le hlt hk.1, fun j u hj => ?_⟩
  rw [World.cell?_of_block (w := w) (a := ⟨b, off + j, none⟩) (hk.2 b hlt (hne hn _ ha))]
  exact hc j u hj
mutual
theorem IsV.keep {w w' : World} {F G : Nat → Prop} (hk : Stays F w w') (hG : ∀ b, F b → G b) : ∀ (v : PV) {sl : Value}, IsV w F v sl → IsV w' G v sl
  | .mk _ _ _ l, _, ⟨a, cap, cs, h, hr, hF, hs⟩ => ⟨a, cap, cs, h, hr.stays hk hF, fun h0 x hx => hG _ (hF h0 x hx), IsVs.keep hk hG l hs⟩
theorem IsVs.keep {w w' : World} {F G : Nat → Prop} (hk : Stays F w w') (hG : ∀ b, F b → G b) : ∀ (l : List PV) {cs : List Value}, IsVs w F l cs → IsVs w' G l cs
  | [], _, h => h
  | v :: l, _, ⟨sl, t, h, hv, ht⟩ => ⟨sl, t, h, IsV.keep hk hG v hv, IsVs.keep hk hG l ht⟩
end
theorem Stays.refl (F : Nat → Prop) (w : World) : Stays F w w := ⟨Nat.le_refl _, fun _ _ _ => rfl⟩
theorem Stays.of_below {F : Nat → Prop} {w w' : World} (h : Below w.heap.size w w') : Stays F w w' := ⟨h.size, fun b hb _ => h.block b hb⟩
theorem Stays.of_keeps {F S : Nat → Prop} {w w' : World} (h : Keeps S w w') (hn : ∀ b, F b → ¬ S b) : Stays F w w' := ⟨h.size, fun b hb hF => h.block b hb (hn b hF)⟩
theorem Stays.trans {F : Nat → Prop} {a b c : World} (h : Stays F a b) (k : Stays F b c) : Stays F a c := ⟨Nat.le_trans h.1 k.1, fun x hx hF => (k.2 x (Nat.lt_of_lt_of_le hx h.1) hF).trans (h.2 x hx hF)⟩
theorem IsV.below {w w' : World} {F : Nat → Prop} {v : PV} {sl : Value} (h : IsV w F v sl) (hb : Below w.heap.size w w') : IsV w' F v sl := IsV.keep (Stays.of_below hb) (fun _ h => h) v h
theorem IsVs.below {w w' : World} {F : Nat → Prop} {l : List PV} {cs : List Value} (h : IsVs w F l cs) (hb : Below w.heap.size w w') : IsVs w' F l cs := IsVs.keep (Stays.of_below hb) (fun _ h => h) l h
theorem IsV.weaken {w : World} {F G : Nat → Prop} {v : PV} {sl : Value} (h : IsV w F v sl) (hG : ∀ b, F b → G b) : IsV w G v sl := IsV.keep (Stays.refl F w) hG v h
theorem IsVs.weaken {w : World} {F G : Nat → Prop} {l : List PV} {cs : List Value} (h : IsVs w F l cs) (hG : ∀ b, F b → G b) : IsVs w G l cs := IsVs.keep (Stays.refl F w) hG l h
theorem IsVs.append {w : World} {F : Nat → Prop} : ∀ {l m : List PV} {cs ds : List Value}, IsVs w F l cs → IsVs w F m ds → IsVs w F (l ++ m) (cs ++ ds)
  | [], _, _, _, h, hm => by cases h; exact hm
  | v :: l, _, _, _, ⟨sl, t, h, hv, ht⟩, hm => ⟨sl, t ++ _, by subst h; simp, hv, IsVs.append ht hm⟩
theorem IsVs.one {w : World} {F : Nat → Prop} {v : PV} {sl : Value} (h : IsV w F v sl) : IsVs w F [v] (pvC v sl) := ⟨sl, [], by simp, h, rfl⟩
theorem IsVs.snoc {w : World} {F : Nat → Prop} {l : List PV} {cs : List Value} {v : PV} {sl : Value} (h : IsVs w F l cs) (hv : IsV w F v sl) : IsVs w F (l ++ [v]) (cs ++ pvC v sl) := h.append (IsVs.one hv)
/-- One of them. -/
theorem IsVs.get {w : World} {F : Nat → Prop} : ∀ {l : List PV} {cs : List Value}, IsVs w F l cs → ∀ (k : Nat) (v : PV), l[k]? = some v → ∃ sl, IsV w F v sl ∧ cs[k * 4]? = some (.int .i64 v.kind) ∧ cs[k * 4 + 1]? = some (.int .i64 v.n) ∧ cs[k * 4 + 2]? = some (.string (mkB v.s)) ∧ cs[k * 4 + 3]? = some sl
  | [], _, _, _, _, hk => by simp at hk
  | x :: l, _, ⟨sl, t, h, hv, ht⟩, 0, v, hk => by
    simp at hk; subst hk h
    exact ⟨sl, hv, rfl, rfl, rfl, rfl⟩
  | x :: l, _, ⟨sl, t, h, hv, ht⟩, k + 1, v, hk => by
    subst h
    obtain ⟨s2, h1, h2, h3, h4, h5⟩ := ht.get k v (by simpa using hk)
    refine ⟨s2, h1, ?_, ?_, ?_, ?_⟩
    · rw [show (k + 1) * 4 = 4 + k * 4 by omega, List.getElem?_append_right (by simp [pvC])]; simpa [pvC] using h2
    · rw [show (k + 1) * 4 + 1 = 4 + (k * 4 + 1) by omega, List.getElem?_append_right (by simp [pvC])]; simpa [pvC] using h3
    · rw [show (k + 1) * 4 + 2 = 4 + (k * 4 + 2) by omega, List.getElem?_append_right (by simp [pvC])]; simpa [pvC] using h4
    · rw [show (k + 1) * 4 + 3 = 4 + (k * 4 + 3) by omega, List.getElem?_append_right (by simp [pvC])]; simpa [pvC] using h5
/-- The cells of one of them, in memory. -/
theorem IsV.at {w : World} {F : Nat → Prop} {v : PV} {a : Option Addr} {n cap : Nat} (h : IsV w F v (.slice a n cap)) (hn : 0 < n) :
    n = v.l.length ∧ n ≤ cap ∧ cap ≤ maxLen ∧ ∃ b off, a = some ⟨b, off, none⟩ ∧ b < w.heap.size ∧ F b ∧ ∀ k x, v.l[k]? = some x → ∃ sl, IsV w F x sl ∧ w.cell? ⟨b, off + k * 4, none⟩ = some (.int .i64 x.kind) ∧
      w.cell? ⟨b, off + k * 4 + 1, none⟩ = some (.int .i64 x.n) ∧ w.cell? ⟨b, off + k * 4 + 2, none⟩ = some (.string (mkB x.s)) ∧ w.cell? ⟨b, off + k * 4 + 3, none⟩ = some sl := by
  obtain ⟨a', cap', cs, e, hr, hF, hs⟩ := h.out
  simp only [Value.slice.injEq] at e
  obtain ⟨rfl, rfl, rfl⟩ := e
  obtain ⟨b, off, rfl, hb, hc⟩ := hr.2.2.2.2 hn
  refine ⟨rfl, hr.2.1, hr.2.2.1, b, off, rfl, hb, hF hn _ rfl, fun k x hx => ?_⟩
  obtain ⟨sl, h1, h2, h3, h4, h5⟩ := hs.get k x hx
  exact ⟨sl, h1, hc _ _ h2, (Nat.add_assoc off (k * 4) 1).symm ▸ hc _ _ h3, (Nat.add_assoc off (k * 4) 2).symm ▸ hc _ _ h4, (Nat.add_assoc off (k * 4) 3).symm ▸ hc _ _ h5⟩
theorem IsV.len {w : World} {F : Nat → Prop} {v : PV} {sl : Value} (h : IsV w F v sl) : ∃ a cap, sl = .slice a v.l.length cap ∧ v.l.length ≤ cap ∧ cap ≤ maxLen ∧ (a = none → cap = 0) := by
  obtain ⟨a, cap, cs, e, hr, _⟩ := h.out
  exact ⟨a, cap, e, hr.2.1, hr.2.2.1, hr.2.2.2.1⟩
end Go.Proofs.YtnkodejgiabamaaGreat
/-
  Walks of layer 10: octal digits, and what stands behind a backslash.
-/
namespace Go.Proofs.YtnkodejgiabamaaGreat
open Go.RowKit

def octGo (last : Bool) : Nat → Nat → List UInt8 → Option (Nat × Nat)
  | 0, N, _ => some (N, 0)
  | _ + 1, N, [] => if last then some (N, 0) else none
  | m + 1, N, d :: t => if isOc d = true then (octGo last m (8 * N + (d.toNat - 48)) t).map (fun x => (x.1, x.2 + 1)) else some (N, 0)
theorem octV_go (last : Bool) (c : UInt8) (l : List UInt8) : octV last c l = (octGo last 2 (c.toNat - 48) l).map fun x => (x.1, x.2 + 1) := by
  cases l with
  | nil => cases last <;> rfl
  | cons d t =>
    by_cases hd : isOc d = true
    · cases t with
      | nil => cases last <;> simp [octV, octGo, hd]
      | cons e u =>
        by_cases he : isOc e = true
        · simp [octV, octGo, hd, he]
        · simp [octV, octGo, hd, he]
    · simp [octV, octGo, hd]
theorem isOc_iff {c : UInt8} : isOc c = true ↔ 48 ≤ c.toNat ∧ c.toNat ≤ 55 := by unfold isOc; simp
theorem wrap_byte (N : Nat) : IntKind.u8.wrap (N : Int) = ((UInt8.ofNat N).toNat : Int) := by rw [IntKind.wrap_u8, UInt8.toNat_ofNat']; omega

/-- A byte is put, and a truth told. -/
theorem put_end {w w1 w2 : World} {S S1 : Nat → Prop} {p : Nat} {X : Src} {o2 : List UInt8} {k2 : Nat} (hk : Keeps S w w1) (hs : ∀ b, S1 b → S b ∨ w.heap.size ≤ b) (hN : ScNext w1 S1 p X o2 k2 w2) (V : Option (List UInt8 × Nat)) (hV : V = some (o2, k2)) :
    StepEnd w S p X V (.returned (.bool true)) w2 := by
  subst hV
  exact ⟨rfl, ScNext.trans hk hs hN⟩

set_option maxRecDepth 8000 in
set_option maxHeartbeats 4000000 in
theorem octal_any {w : World} {S : Nat → Prop} {p : Nat} {X : Src} {out : List UInt8} {k : Nat} (h : ScQ w S p X out k) (c : UInt8) (hc : isOc c = true) (hk : out.length < k) :
    Calls Tryz.prog 82 #[.pointer (some ⟨p, 0, none⟩), .int .u8 c.toNat] w (StepEnd w S p X ((octGo X.last 2 (c.toNat - 48) (X.bs.drop k)).map fun x => (out ++ [UInt8.ofNat x.1], k + x.2))) := by
  obtain ⟨V, hV⟩ : ∃ V, V = (octGo X.last 2 (c.toNat - 48) (X.bs.drop k)).map fun x => (out ++ [UInt8.ofNat x.1], k + x.2) := ⟨_, rfl⟩
  rw [← hV]
  have hc2 := isOc_iff.1 hc
  have HV := Lib.hid hV
  have HN := Lib.hid (ScNext.refl h)
  have hsm : X.bs.length ≤ 100000 := by obtain ⟨_, _, h⟩ := h; exact h.small
  obtain ⟨n0, hn0⟩ : ∃ n0, n0 = c.toNat - 48 := ⟨_, rfl⟩
  have hci : (c.toNat : Int) = (n0 : Int) + 48 := by omega
  have hn7 : n0 ≤ 7 := by omega
  rw [← hn0] at HV
  rw [hci]
  clear hV h hc hc2 hn0 hci
  go_enter Tryz.func82, Tryz.ntmps82
  go_wp2
  go_loopw [5, 6] (fun n i wr => ∃ (j N k' : Nat), j ≤ 2 ∧ n = .int .i64 N ∧ i = .int .i64 j ∧ N + 1 ≤ 8 ^ (j + 1) ∧ k ≤ k' ∧ Hid (ScNext w S p X out k' wr) ∧ Hid (V = (octGo X.last (2 - j) N (X.bs.drop k')).map fun x => (out ++ [UInt8.ofNat x.1], k' + x.2))) (fun _ i _ => 2 - (intOf i).toNat)
  case atStart => exact ⟨0, n0, k, by omega, by go_num, rfl, by omega, Nat.le_refl _, HN, HV⟩
  case round =>
    obtain ⟨j, N, k', hj, rfl, rfl, hN, hkk, HS, HG⟩ := hrel
    obtain ⟨S1, hq1, hk1, hs1⟩ := HS.out
    have HQ1 := Lib.hid hq1
    have HK1 := Lib.hid hk1
    have HS1 := Lib.hid hs1
    have hP := peek_any hq1
    unfold peekV u8C at hP
    have hN5 : N ≤ 511 := by
      have : j = 0 ∨ j = 1 ∨ j = 2 := by omega
      rcases this with rfl | rfl | rfl <;> omega
    have HWB := Lib.hid (fun (q : Nat) (x : Int) (hx : x = ((UInt8.ofNat N).toNat : Int)) => writeByte_any (hq1.drewN q) (UInt8.ofNat N) x hx (by omega))
    have HWB0 := Lib.hid (fun (x : Int) (hx : x = ((UInt8.ofNat N).toNat : Int)) => writeByte_any hq1 (UInt8.ofNat N) x hx (by omega))
    clear hq1 hk1 hs1
    by_cases hj2 : j < 2
    · obtain ⟨m, hm⟩ : ∃ m, 2 - j = m + 1 := ⟨1 - j, by omega⟩
      have hg := HG.out
      rw [hm] at hg
      have HM := Lib.hid hm
      have hjd : decide ((j : Int) < 2) = true := by simp; omega
      clear hm
      by_cases hk2 : k' < X.bs.length
      · rw [if_pos hk2] at hP
        rw [drop_cons hk2, octGo] at hg
        by_cases hd : isOc (X.bs.getD k' 0) = true
        · have hd2 := isOc_iff.1 hd
          rw [if_pos hd] at hg
          have HP := Lib.hid hP
          have HG2 := Lib.hid hg
          obtain ⟨d, hd3⟩ : ∃ d, d = (X.bs.getD k' 0).toNat - 48 := ⟨_, rfl⟩
          have hdi : ((X.bs.getD k' 0).toNat : Int) = (d : Int) + 48 := by omega
          have hd7 : d ≤ 7 := by omega
          rw [hdi] at HP
          rw [← hd3] at HG2
          clear hg hP hd hd2 hd3 hdi
          go_wp2_with fail
          refine HP.out.mono ?_
          rintro e w1 ⟨rfl, q, rfl⟩
          have h1 := HQ1.out.drewN q
          obtain ⟨ad, v, h1⟩ := h1
          obtain ⟨-, -, -, c3, -⟩ := h1.cells
          have f3 := h1.free 3
          have HM3 := Lib.hid (ScNext.trans HK1.out HS1.out (ScNext.drew q (h1.move (k' + 1) (by omega) (by omega))))
          clear h1
          go_wp2
          go_roundw
          case rel =>
            refine ⟨j + 1, 8 * N + d, k' + 1, by omega, by go_num, by go_num, by rw [Nat.pow_succ]; omega, by omega, HM3, Lib.hid ?_⟩
            rw [HG2.out, show 2 - (j + 1) = m from by have := HM.out; omega, Option.map_map]
            congr 1
            funext x
            simp only [Function.comp]
            rw [show k' + 1 + x.2 = k' + (x.2 + 1) from by omega]
          case measure => simp [intOf]; omega
        · rw [if_neg hd] at hg
          simp only [Option.map_some] at hg
          have HG2 := Lib.hid hg
          have HP := Lib.hid hP
          have hd2 : ¬ (48 ≤ (X.bs.getD k' 0).toNat ∧ (X.bs.getD k' 0).toNat ≤ 55) := fun e => hd (isOc_iff.2 e)
          generalize (X.bs.getD k' 0).toNat = x at *
          by_cases hx : (x : Int) < 48
          · have hxd : decide ((x : Int) < 48) = true := by simpa using hx
            clear hg hP hd hd2
            go_wp2_with fail
            refine HP.out.mono ?_
            rintro e w1 ⟨rfl, q, rfl⟩
            go_wp2_with fail
            refine (HWB.out q _ (wrap_byte N)).mono ?_
            rintro e w2 ⟨rfl, hn2⟩
            have HN2 := Lib.hid hn2
            clear hn2
            go_wp2
            go_ret
            exact put_end ((HK1.out).drewN q) HS1.out HN2.out _ HG2.out
          · have hxd : decide ((x : Int) < 48) = false := by simpa using hx
            have hx2 : decide ((55 : Int) < x) = true := by simp; omega
            clear hg hP hd hd2 hx
            go_wp2_with fail
            refine HP.out.mono ?_
            rintro e w1 ⟨rfl, q, rfl⟩
            go_wp2_with fail
            refine (HWB.out q _ (wrap_byte N)).mono ?_
            rintro e w2 ⟨rfl, hn2⟩
            have HN2 := Lib.hid hn2
            clear hn2
            go_wp2
            go_ret
            exact put_end ((HK1.out).drewN q) HS1.out HN2.out _ HG2.out
      · rw [if_neg hk2] at hP
        rw [drop_nil hk2, octGo] at hg
        have HP := Lib.hid hP
        have hlast := fun (q : Nat) => (let ⟨ad, v, h⟩ := HQ1.out.drewN q; h.cells.2.2.2.2)
        obtain ⟨l, hl⟩ : ∃ l, X.last = l := ⟨_, rfl⟩
        rw [hl] at hg hlast
        have HL := Lib.hid hlast
        have HG2 := Lib.hid hg
        clear hg hP hl hlast hk2
        cases l
        · go_wp2_with fail
          refine HP.out.mono ?_
          rintro e w1 ⟨rfl, q, rfl⟩
          have c4 := HL.out q
          have HN2 := Lib.hid (ScNext.trans HK1.out HS1.out (ScNext.drew q (ScNext.refl (HQ1.out.drewN q))))
          go_wp2
          go_ret
          rw [HG2.out]
          exact ⟨rfl, _, _, HN2.out⟩
        · go_wp2_with fail
          refine HP.out.mono ?_
          rintro e w1 ⟨rfl, q, rfl⟩
          have c4 := HL.out q
          go_wp2_with fail
          refine (HWB.out q _ (wrap_byte N)).mono ?_
          rintro e w2 ⟨rfl, hn2⟩
          have HN2 := Lib.hid hn2
          clear hn2
          go_wp2
          go_ret
          exact put_end ((HK1.out).drewN q) HS1.out HN2.out _ HG2.out
    · obtain rfl : j = 2 := by omega
      have hg := HG.out
      rw [Nat.sub_self, octGo, Option.map_some] at hg
      have HG2 := Lib.hid hg
      clear hg hP
      go_wp2_with fail
      refine (HWB0.out _ (wrap_byte N)).mono ?_
      rintro e w2 ⟨rfl, hn2⟩
      have HN2 := Lib.hid hn2
      clear hn2
      go_wp2
      go_ret
      exact put_end HK1.out HS1.out HN2.out _ HG2.out

/-- What stands behind a backslash, as a step. -/
def escStep (X : Src) (out : List UInt8) (k : Nat) : Option (List UInt8 × Nat) := (escV X.last (X.bs.drop k)).map fun x => (out ++ x.1, k + x.2)

theorem esc_idx (c : UInt8) : (Lib.indexByte [110, 114, 116, 98, 102] c = -1 ∧ c ≠ 110 ∧ c ≠ 114 ∧ c ≠ 116 ∧ c ≠ 98 ∧ c ≠ 102) ∨ (c = 110 ∨ c = 114 ∨ c = 116 ∨ c = 98 ∨ c = 102) := by
  by_cases h : Lib.indexByte [110, 114, 116, 98, 102] c = -1
  · have := idx_none _ _ h
    simp at this
    exact .inl ⟨h, this⟩
  · have hg := Lib.indexByte_ge [110, 114, 116, 98, 102] c
    obtain ⟨i, hi⟩ := Int.eq_ofNat_of_zero_le (show 0 ≤ Lib.indexByte [110, 114, 116, 98, 102] c by omega)
    obtain ⟨a, t, e, -, -⟩ := idx_some _ _ _ hi
    have hm : c ∈ ([110, 114, 116, 98, 102] : List UInt8) := by rw [e]; simp
    simp at hm
    exact .inr hm
end Go.Proofs.YtnkodejgiabamaaGreat
/-
  The walk of layer 10: what stands behind a backslash.
-/
namespace Go.Proofs.YtnkodejgiabamaaGreat
open Go.RowKit

theorem escStep_of {X : Src} {out : List UInt8} {k : Nat} (hk : k < X.bs.length) (r : Option (List UInt8 × Nat)) (h : escV X.last (X.bs.getD k 0 :: X.bs.drop (k + 1)) = r) : escStep X out k = r.map fun x => (out ++ x.1, k + x.2) := by
  unfold escStep; rw [drop_cons hk, h]

theorem escV_far (last : Bool) (c : UInt8) (t : List UInt8) (n1 : c ≠ 110) (n2 : c ≠ 114) (n3 : c ≠ 116) (n4 : c ≠ 98) (n5 : c ≠ 102) : escV last (c :: t) =
    if isOc c = true then (octV last c t).map (fun x => ([UInt8.ofNat x.1], x.2)) else if c = 10 then some ([], 1) else if c = 13 then (lineV last t).map (fun k => ([], k + 1)) else some ([c], 1) := by
  simp only [escV]
  rw [if_neg n1, if_neg n2, if_neg n3, if_neg n4, if_neg n5]
theorem step_none {w w2 : World} {S : Nat → Prop} {p : Nat} {X : Src} {V : Option (List UInt8 × Nat)} (hV : V = none) (h : ∃ out k, ScNext w S p X out k w2) : StepEnd w S p X V (.returned (.bool false)) w2 := by
  subst hV; exact ⟨rfl, h⟩
theorem step_some {w w2 : World} {S : Nat → Prop} {p : Nat} {X : Src} {V : Option (List UInt8 × Nat)} {o2 : List UInt8} {k2 : Nat} (hV : V = some (o2, k2)) (h : ScNext w S p X o2 k2 w2) : StepEnd w S p X V (.returned (.bool true)) w2 := by
  subst hV; exact ⟨rfl, h⟩
theorem line_other (a : Value) (x : Int) (hx : (x != 13) = true) (w : World) : Calls Tryz.prog 62 #[a, .int .u8 x] w fun e w' => e = .returned (.bool true) ∧ w = w' := by
  go_enter Tryz.func62, Tryz.ntmps62
  go_wp2
  go_ret
  exact ⟨rfl, rfl⟩

set_option maxRecDepth 8000 in
set_option maxHeartbeats 8000000 in
theorem escape_any {w : World} {S : Nat → Prop} {p : Nat} {X : Src} {out : List UInt8} {k : Nat} (h : ScQ w S p X out k) (hok : out.length ≤ k) :
    Calls Tryz.prog 61 #[.pointer (some ⟨p, 0, none⟩)] w (StepEnd w S p X (escStep X out k)) := by
  obtain ⟨V, hV⟩ : ∃ V, V = escStep X out k := ⟨_, rfl⟩
  rw [← hV]
  have hP := peek_any h
  unfold peekV u8C at hP
  have hsm : X.bs.length ≤ 100000 := by obtain ⟨_, _, h⟩ := h; exact h.small
  by_cases hk : k < X.bs.length
  case neg =>
    rw [if_neg hk] at hP
    have HP := Lib.hid hP
    have HL := Lib.hid (show V = none by rw [hV]; unfold escStep; rw [drop_nil hk]; rfl)
    have HQ := Lib.hid h
    clear hV hP h hk
    go_enter Tryz.func61, Tryz.ntmps61
    go_wp2_with fail
    refine HP.out.mono ?_
    rintro e w1 ⟨rfl, q, rfl⟩
    have HN2 := Lib.hid (ScNext.drew q (ScNext.refl (HQ.out.drewN q)))
    go_wp2
    go_ret
    rw [HL.out]
    exact ⟨rfl, _, _, HN2.out⟩
  rw [if_pos hk] at hP
  have HMV := Lib.hid (fun q => (let ⟨_, _, h1⟩ := h.drewN q; h1.move (k + 1) (by omega) (by omega)))
  have HC3 := Lib.hid (fun q => (let ⟨_, _, h1⟩ := h.drewN q; (And.intro h1.cells.2.2.2.1 (h1.free 3))))
  have hSI := fun (c : UInt8) W => sidx2_any ⟨#[110, 114, 116, 98, 102]⟩ (c.toNat : Int) W
  have hSI2 : ∀ (c : UInt8) W, Calls Tryz.prog 75 #[.string ⟨#[110, 114, 116, 98, 102]⟩, .int .u8 c.toNat] W fun e w' => e = .returned (.int .i64 (Lib.indexByte [110, 114, 116, 98, 102] c)) ∧ W = w' := fun c W => by
    have := hSI c W; rw [u8_back] at this; exact this
  have hE := fun r hr => hV.trans (escStep_of (X := X) (out := out) (k := k) hk r hr)
  obtain ⟨c, hc⟩ : ∃ c, c = X.bs.getD k 0 := ⟨_, rfl⟩
  rw [← hc] at hP hE
  clear hSI hV hc
  rcases esc_idx c with ⟨hix, n1, n2, n3, n4, n5⟩ | hlit
  · have hIX := hSI2 c
    rw [hix] at hIX
    have HIX := Lib.hid hIX
    have HP := Lib.hid hP
    clear hIX hSI2 hP
    by_cases hoc : isOc c = true
    · have HV := Lib.hid (hE _ (show escV X.last (c :: X.bs.drop (k + 1)) = (octV X.last c (X.bs.drop (k + 1))).map fun x => ([UInt8.ofNat x.1], x.2) by
        rw [escV_far _ _ _ n1 n2 n3 n4 n5, if_pos hoc]))
      have hoc2 := isOc_iff.1 hoc
      have h48 : decide ((48 : Int) ≤ c.toNat) = true := by simp; omega
      have h55 : decide ((c.toNat : Int) ≤ 55) = true := by simp; omega
      clear hE n1 n2 n3 n4 n5 hix hoc2
      go_enter Tryz.func61, Tryz.ntmps61
      go_wp2_with fail
      refine HP.out.mono ?_
      rintro e w1 ⟨rfl, q, rfl⟩
      obtain ⟨c3, f3⟩ := HC3.out q
      obtain ⟨S1, q1, k1, s1⟩ := HMV.out q
      have HQ1 := Lib.hid q1
      have HK1 := Lib.hid (Keeps.trans ((Keeps.refl S w).drewN q) k1 (fun _ h => .inl h))
      have HS1 := Lib.hid s1
      clear q1 k1 s1
      go_wp2_with fail
      refine (HIX.out _).mono ?_
      rintro e w2 ⟨rfl, rfl⟩
      rw [show ((k : Int) + 1) = ((k + 1 : Nat) : Int) from rfl]
      generalize (w.drewN q).setCell ⟨p, 3, none⟩ (.int .i64 ((k + 1 : Nat) : Int)) = w2 at *
      clear c3 f3
      have HO := Lib.hid (octal_any HQ1.out c hoc (by omega))
      go_wp2_with fail
      refine HO.out.mono ?_
      rintro e w3 hstep
      have HST := Lib.hid hstep
      clear hstep
      have HG := Lib.hid (show V = (octGo X.last 2 (c.toNat - 48) (X.bs.drop (k + 1))).map fun x => (out ++ [UInt8.ofNat x.1], k + 1 + x.2) by
        rw [HV.out, octV_go, Option.map_map, Option.map_map]
        congr 1
        funext x
        simp only [Function.comp]
        rw [show k + (x.2 + 1) = k + 1 + x.2 from by omega])
      rw [← HG.out] at HST
      cases hVV : V with
      | none =>
        rw [hVV] at HST
        obtain ⟨rfl, o2, k2, hn⟩ := HST.out
        have HN := Lib.hid hn
        clear HST hn
        go_wp2
        go_ret
        exact step_none hVV ⟨o2, k2, ScNext.trans HK1.out HS1.out HN.out⟩
      | some ok =>
        obtain ⟨o2, k2⟩ := ok
        rw [hVV] at HST
        obtain ⟨rfl, hn⟩ := HST.out
        have HN := Lib.hid hn
        clear HST hn
        go_wp2
        go_ret
        exact step_some hVV (ScNext.trans HK1.out HS1.out HN.out)
    · have hoc2 : ¬ (48 ≤ c.toNat ∧ c.toNat ≤ 55) := fun e => hoc (isOc_iff.2 e)
      by_cases h10 : c = 10
      · subst h10
        have HV := Lib.hid (show V = some (out ++ [], k + 1) from hE _ (show escV X.last (10 :: X.bs.drop (k + 1)) = some ([], 1) from rfl))
        clear hE n1 n2 n3 n4 n5 hix hoc hoc2
        go_enter Tryz.func61, Tryz.ntmps61
        go_wp2_with fail
        refine HP.out.mono ?_
        rintro e w1 ⟨rfl, q, rfl⟩
        obtain ⟨c3, f3⟩ := HC3.out q
        obtain ⟨S1, q1, k1, s1⟩ := HMV.out q
        have HQ1 := Lib.hid q1
        have HK1 := Lib.hid (Keeps.trans ((Keeps.refl S w).drewN q) k1 (fun _ h => .inl h))
        have HS1 := Lib.hid s1
        clear q1 k1 s1
        go_wp2_with fail
        refine (HIX.out _).mono ?_
        rintro e w2 ⟨rfl, rfl⟩
        rw [show ((k : Int) + 1) = ((k + 1 : Nat) : Int) from rfl]
        generalize (w.drewN q).setCell ⟨p, 3, none⟩ (.int .i64 ((k + 1 : Nat) : Int)) = w2 at *
        clear c3 f3
        go_wp2_with (go_at_call 62; refine (line_other _ _ rfl _).mono ?_; rintro e w3 ⟨rfl, rfl⟩)
        go_ret
        exact step_some (by rw [HV.out, List.append_nil]) (ScNext.trans HK1.out HS1.out (ScNext.refl HQ1.out))
      · by_cases h13 : c = 13
        · subst h13
          have HV := Lib.hid (hE _ (show escV X.last (13 :: X.bs.drop (k + 1)) = (lineV X.last (X.bs.drop (k + 1))).map fun j => ([], j + 1) from rfl))
          clear hE n1 n2 n3 n4 n5 hix hoc hoc2 h10
          go_enter Tryz.func61, Tryz.ntmps61
          go_wp2_with fail
          refine HP.out.mono ?_
          rintro e w1 ⟨rfl, q, rfl⟩
          obtain ⟨c3, f3⟩ := HC3.out q
          obtain ⟨S1, q1, k1, s1⟩ := HMV.out q
          have HQ1 := Lib.hid q1
          have HK1 := Lib.hid (Keeps.trans ((Keeps.refl S w).drewN q) k1 (fun _ h => .inl h))
          have HS1 := Lib.hid s1
          clear q1 k1 s1
          go_wp2_with fail
          refine (HIX.out _).mono ?_
          rintro e w2 ⟨rfl, rfl⟩
          rw [show ((k : Int) + 1) = ((k + 1 : Nat) : Int) from rfl]
          generalize (w.drewN q).setCell ⟨p, 3, none⟩ (.int .i64 ((k + 1 : Nat) : Int)) = w2 at *
          clear c3 f3
          have HO := Lib.hid (line_any HQ1.out)
          go_wp2_with fail
          refine HO.out.mono ?_
          rintro e w3 hstep
          have HST := Lib.hid hstep
          clear hstep
          have HG := Lib.hid (show V = (lineV X.last (X.bs.drop (k + 1))).map fun j => (out, k + 1 + j) by
            rw [HV.out, Option.map_map]
            congr 1
            funext x
            simp only [Function.comp, List.append_nil]
            rw [show k + (x + 1) = k + 1 + x from by omega])
          rw [← HG.out] at HST
          cases hVV : V with
          | none =>
            rw [hVV] at HST
            obtain ⟨rfl, o2, k2, hn⟩ := HST.out
            have HN := Lib.hid hn
            clear HST hn
            go_wp2
            go_ret
            exact step_none hVV ⟨o2, k2, ScNext.trans HK1.out HS1.out HN.out⟩
          | some ok =>
            obtain ⟨o2, k2⟩ := ok
            rw [hVV] at HST
            obtain ⟨rfl, hn⟩ := HST.out
            have HN := Lib.hid hn
            clear HST hn
            go_wp2
            go_ret
            exact step_some hVV (ScNext.trans HK1.out HS1.out HN.out)
        · have HV := Lib.hid (show V = some (out ++ [c], k + 1) from hE (some ([c], 1)) (by rw [escV_far _ _ _ n1 n2 n3 n4 n5, if_neg hoc, if_neg h10, if_neg h13]))
          have h10d : ((c.toNat : Int) == 10) = false := by rw [beq_eq_false_iff_ne]; intro e; exact h10 (UInt8.toNat_inj.1 (Int.ofNat_inj.1 e))
          have h13d : ((c.toNat : Int) == 13) = false := by rw [beq_eq_false_iff_ne]; intro e; exact h13 (UInt8.toNat_inj.1 (Int.ofNat_inj.1 e))
          have HWB := Lib.hid (fun W S1 (h : ScQ W S1 p X out (k + 1)) => writeByte_any h c (c.toNat : Int) rfl (by omega))
          by_cases h48 : (48 : Int) ≤ c.toNat
          · have h48d : decide ((48 : Int) ≤ c.toNat) = true := by simpa using h48
            have h55d : decide ((c.toNat : Int) ≤ 55) = false := by simp; omega
            clear hE n1 n2 n3 n4 n5 hix hoc hoc2 h10 h13 h48
            generalize (c.toNat : Int) = x at *
            go_enter Tryz.func61, Tryz.ntmps61
            go_wp2_with fail
            refine HP.out.mono ?_
            rintro e w1 ⟨rfl, q, rfl⟩
            obtain ⟨c3, f3⟩ := HC3.out q
            obtain ⟨S1, q1, k1, s1⟩ := HMV.out q
            have HQ1 := Lib.hid q1
            have HK1 := Lib.hid (Keeps.trans ((Keeps.refl S w).drewN q) k1 (fun _ h => .inl h))
            have HS1 := Lib.hid s1
            clear q1 k1 s1
            go_wp2_with fail
            refine (HIX.out _).mono ?_
            rintro e w2 ⟨rfl, rfl⟩
            rw [show ((k : Int) + 1) = ((k + 1 : Nat) : Int) from rfl]
            generalize (w.drewN q).setCell ⟨p, 3, none⟩ (.int .i64 ((k + 1 : Nat) : Int)) = w2 at *
            clear c3 f3
            go_wp2_with fail
            refine (HWB.out _ _ HQ1.out).mono ?_
            rintro e w3 ⟨rfl, hn⟩
            have HN := Lib.hid hn
            clear hn
            go_wp2
            go_ret
            exact step_some HV.out (ScNext.trans HK1.out HS1.out HN.out)
          · have h48d : decide ((48 : Int) ≤ c.toNat) = false := by simpa using h48
            clear hE n1 n2 n3 n4 n5 hix hoc hoc2 h10 h13 h48
            generalize (c.toNat : Int) = x at *
            go_enter Tryz.func61, Tryz.ntmps61
            go_wp2_with fail
            refine HP.out.mono ?_
            rintro e w1 ⟨rfl, q, rfl⟩
            obtain ⟨c3, f3⟩ := HC3.out q
            obtain ⟨S1, q1, k1, s1⟩ := HMV.out q
            have HQ1 := Lib.hid q1
            have HK1 := Lib.hid (Keeps.trans ((Keeps.refl S w).drewN q) k1 (fun _ h => .inl h))
            have HS1 := Lib.hid s1
            clear q1 k1 s1
            go_wp2_with fail
            refine (HIX.out _).mono ?_
            rintro e w2 ⟨rfl, rfl⟩
            rw [show ((k : Int) + 1) = ((k + 1 : Nat) : Int) from rfl]
            generalize (w.drewN q).setCell ⟨p, 3, none⟩ (.int .i64 ((k + 1 : Nat) : Int)) = w2 at *
            clear c3 f3
            go_wp2_with fail
            refine (HWB.out _ _ HQ1.out).mono ?_
            rintro e w3 ⟨rfl, hn⟩
            have HN := Lib.hid hn
            clear hn
            go_wp2
            go_ret
            exact step_some HV.out (ScNext.trans HK1.out HS1.out HN.out)
  · have hall : ∀ d : UInt8, (c = 110 ∧ d = 10) ∨ (c = 114 ∧ d = 13) ∨ (c = 116 ∧ d = 9) ∨ (c = 98 ∧ d = 8) ∨ (c = 102 ∧ d = 12) → V = some (out ++ [d], k + 1) := by
      rintro d (⟨rfl, rfl⟩ | ⟨rfl, rfl⟩ | ⟨rfl, rfl⟩ | ⟨rfl, rfl⟩ | ⟨rfl, rfl⟩)
      all_goals exact hE _ rfl
    have HALL := Lib.hid hall
    have HWB := Lib.hid (fun W S1 (h : ScQ W S1 p X out (k + 1)) (d : UInt8) => writeByte_any h d (d.toNat : Int) rfl (by omega))
    clear hall hE
    rcases hlit with rfl | rfl | rfl | rfl | rfl
    · have hIX := hSI2 110
      rw [show Lib.indexByte [110, 114, 116, 98, 102] 110 = 0 from rfl] at hIX
      have HIX := Lib.hid hIX
      have HP := Lib.hid hP
      clear hIX hSI2 hP
      go_enter Tryz.func61, Tryz.ntmps61
      go_wp2_with fail
      refine HP.out.mono ?_
      rintro e w1 ⟨rfl, q, rfl⟩
      obtain ⟨c3, f3⟩ := HC3.out q
      obtain ⟨S1, q1, k1, s1⟩ := HMV.out q
      have HQ1 := Lib.hid q1
      have HK1 := Lib.hid (Keeps.trans ((Keeps.refl S w).drewN q) k1 (fun _ h => .inl h))
      have HS1 := Lib.hid s1
      clear q1 k1 s1
      go_wp2_with fail
      refine (HIX.out _).mono ?_
      rintro e w2 ⟨rfl, rfl⟩
      rw [show ((k : Int) + 1) = ((k + 1 : Nat) : Int) from rfl]
      generalize (w.drewN q).setCell ⟨p, 3, none⟩ (.int .i64 ((k + 1 : Nat) : Int)) = w2 at *
      clear c3 f3
      go_wp2_with fail
      go_still_tail 5, (by kernel_rfl)
      go_wp2_with fail
      refine (HWB.out _ _ (HQ1.out.drewN 1) 10).mono ?_
      rintro e w3 ⟨rfl, hn⟩
      have HN := Lib.hid hn
      clear hn
      go_wp2
      go_ret
      exact step_some (HALL.out 10 (by simp)) (ScNext.trans (HK1.out.drewN 1) HS1.out HN.out)
    · have hIX := hSI2 114
      rw [show Lib.indexByte [110, 114, 116, 98, 102] 114 = 1 from rfl] at hIX
      have HIX := Lib.hid hIX
      have HP := Lib.hid hP
      clear hIX hSI2 hP
      go_enter Tryz.func61, Tryz.ntmps61
      go_wp2_with fail
      refine HP.out.mono ?_
      rintro e w1 ⟨rfl, q, rfl⟩
      obtain ⟨c3, f3⟩ := HC3.out q
      obtain ⟨S1, q1, k1, s1⟩ := HMV.out q
      have HQ1 := Lib.hid q1
      have HK1 := Lib.hid (Keeps.trans ((Keeps.refl S w).drewN q) k1 (fun _ h => .inl h))
      have HS1 := Lib.hid s1
      clear q1 k1 s1
      go_wp2_with fail
      refine (HIX.out _).mono ?_
      rintro e w2 ⟨rfl, rfl⟩
      rw [show ((k : Int) + 1) = ((k + 1 : Nat) : Int) from rfl]
      generalize (w.drewN q).setCell ⟨p, 3, none⟩ (.int .i64 ((k + 1 : Nat) : Int)) = w2 at *
      clear c3 f3
      go_wp2_with fail
      go_still_tail 5, (by kernel_rfl)
      go_wp2_with fail
      refine (HWB.out _ _ (HQ1.out.drewN 1) 13).mono ?_
      rintro e w3 ⟨rfl, hn⟩
      have HN := Lib.hid hn
      clear hn
      go_wp2
      go_ret
      exact step_some (HALL.out 13 (by simp)) (ScNext.trans (HK1.out.drewN 1) HS1.out HN.out)
    · have hIX := hSI2 116
      rw [show Lib.indexByte [110, 114, 116, 98, 102] 116 = 2 from rfl] at hIX
      have HIX := Lib.hid hIX
      have HP := Lib.hid hP
      clear hIX hSI2 hP
      go_enter Tryz.func61, Tryz.ntmps61
      go_wp2_with fail
      refine HP.out.mono ?_
      rintro e w1 ⟨rfl, q, rfl⟩
      obtain ⟨c3, f3⟩ := HC3.out q
      obtain ⟨S1, q1, k1, s1⟩ := HMV.out q
      have HQ1 := Lib.hid q1
      have HK1 := Lib.hid (Keeps.trans ((Keeps.refl S w).drewN q) k1 (fun _ h => .inl h))
      have HS1 := Lib.hid s1
      clear q1 k1 s1
      go_wp2_with fail
      refine (HIX.out _).mono ?_
      rintro e w2 ⟨rfl, rfl⟩
      rw [show ((k : Int) + 1) = ((k + 1 : Nat) : Int) from rfl]
      generalize (w.drewN q).setCell ⟨p, 3, none⟩ (.int .i64 ((k + 1 : Nat) : Int)) = w2 at *
      clear c3 f3
      go_wp2_with fail
      go_still_tail 5, (by kernel_rfl)
      go_wp2_with fail
      refine (HWB.out _ _ (HQ1.out.drewN 1) 9).mono ?_
      rintro e w3 ⟨rfl, hn⟩
      have HN := Lib.hid hn
      clear hn
      go_wp2
      go_ret
      exact step_some (HALL.out 9 (by simp)) (ScNext.trans (HK1.out.drewN 1) HS1.out HN.out)
    · have hIX := hSI2 98
      rw [show Lib.indexByte [110, 114, 116, 98, 102] 98 = 3 from rfl] at hIX
      have HIX := Lib.hid hIX
      have HP := Lib.hid hP
      clear hIX hSI2 hP
      go_enter Tryz.func61, Tryz.ntmps61
      go_wp2_with fail
      refine HP.out.mono ?_
      rintro e w1 ⟨rfl, q, rfl⟩
      obtain ⟨c3, f3⟩ := HC3.out q
      obtain ⟨S1, q1, k1, s1⟩ := HMV.out q
      have HQ1 := Lib.hid q1
      have HK1 := Lib.hid (Keeps.trans ((Keeps.refl S w).drewN q) k1 (fun _ h => .inl h))
      have HS1 := Lib.hid s1
      clear q1 k1 s1
      go_wp2_with fail
      refine (HIX.out _).mono ?_
      rintro e w2 ⟨rfl, rfl⟩
      rw [show ((k : Int) + 1) = ((k + 1 : Nat) : Int) from rfl]
      generalize (w.drewN q).setCell ⟨p, 3, none⟩ (.int .i64 ((k + 1 : Nat) : Int)) = w2 at *
      clear c3 f3
      go_wp2_with fail
      go_still_tail 5, (by kernel_rfl)
      go_wp2_with fail
      refine (HWB.out _ _ (HQ1.out.drewN 1) 8).mono ?_
      rintro e w3 ⟨rfl, hn⟩
      have HN := Lib.hid hn
      clear hn
      go_wp2
      go_ret
      exact step_some (HALL.out 8 (by simp)) (ScNext.trans (HK1.out.drewN 1) HS1.out HN.out)
    · have hIX := hSI2 102
      rw [show Lib.indexByte [110, 114, 116, 98, 102] 102 = 4 from rfl] at hIX
      have HIX := Lib.hid hIX
      have HP := Lib.hid hP
      clear hIX hSI2 hP
      go_enter Tryz.func61, Tryz.ntmps61
      go_wp2_with fail
      refine HP.out.mono ?_
      rintro e w1 ⟨rfl, q, rfl⟩
      obtain ⟨c3, f3⟩ := HC3.out q
      obtain ⟨S1, q1, k1, s1⟩ := HMV.out q
      have HQ1 := Lib.hid q1
      have HK1 := Lib.hid (Keeps.trans ((Keeps.refl S w).drewN q) k1 (fun _ h => .inl h))
      have HS1 := Lib.hid s1
      clear q1 k1 s1
      go_wp2_with fail
      refine (HIX.out _).mono ?_
      rintro e w2 ⟨rfl, rfl⟩
      rw [show ((k : Int) + 1) = ((k + 1 : Nat) : Int) from rfl]
      generalize (w.drewN q).setCell ⟨p, 3, none⟩ (.int .i64 ((k + 1 : Nat) : Int)) = w2 at *
      clear c3 f3
      go_wp2_with fail
      go_still_tail 5, (by kernel_rfl)
      go_wp2_with fail
      refine (HWB.out _ _ (HQ1.out.drewN 1) 12).mono ?_
      rintro e w3 ⟨rfl, hn⟩
      have HN := Lib.hid hn
      clear hn
      go_wp2
      go_ret
      exact step_some (HALL.out 12 (by simp)) (ScNext.trans (HK1.out.drewN 1) HS1.out HN.out)
end Go.Proofs.YtnkodejgiabamaaGreat
/-
  A scope in which the run jumps back to one label: the relation at every jump bears a number, which every pass lowers.
-/
namespace Go.Proofs.YtnkodejgiabamaaGreat
open Go

/-- From a pass at one number to the first way. -/
theorem jump_mono {P : Program} {Q : Exit → Act → World → Prop} {a : Act} {w : World} {c : Code} {l : Nat} {J J' : Act → World → Prop} (h : c.wp P (Exit.jump l J Q) a w) (hJ : ∀ a w, J a w → J' a w) : c.wp P (Exit.jump l J' Q) a w := by
  refine wp_mono h ?_
  intro e a' w' hq
  cases e with
  | goto l' => exact ⟨hq.1, hJ _ _ hq.2⟩
  | normal => exact hq
  | exit id => exact hq
  | ret => exact hq
  | panic ch => exact hq
  | outgrown => exact hq
theorem wp_scope_ghost {P : Program} {Q : Exit → Act → World → Prop} {a : Act} {w : World} {c body : Code} (l : Nat) (I : Nat → Act → World → Prop) (hf : findLabel c l = some (Code.skip.seq body))
    (first : (∀ n a w, I n a w → body.wp P (Exit.jump l (fun a w => ∃ n, I n a w) Q) a w) → c.wp P (Exit.jump l (fun a w => ∃ n, I n a w) Q) a w)
    (pass : ∀ n a w, I n a w → body.wp P (Exit.jump l (fun a' w' => ∃ n', n' < n ∧ I n' a' w') Q) a w) : (Code.scope c).wp P Q a w := by
  refine wp_scope_jumps l (fun a w => ∃ n, I n a w) (fun a w => leastOf (fun n => I n a w)) hf (first fun n a w hI => jump_mono (pass n a w hI) fun a w ⟨n', _, h⟩ => ⟨n', h⟩) ?_
  intro a w hI
  refine wp_seq (wp_skip ?_)
  refine wp_mono (pass _ a w (leastOf_spec hI).1) ?_
  intro e a' w' hq
  cases e with
  | goto l' =>
    obtain ⟨h1, n', hlt, hI'⟩ := hq
    exact ⟨h1, ⟨n', hI'⟩, Nat.lt_of_le_of_lt ((leastOf_spec ⟨n', hI'⟩).2 n' hI') hlt⟩
  | normal => exact hq
  | exit id => exact hq
  | ret => exact hq
  | panic ch => exact hq
  | outgrown => exact hq
end Go.Proofs.YtnkodejgiabamaaGreat
/-
  Walks of layer 9: may a number be; millionths; the number of a text.
-/
namespace Go.Proofs.YtnkodejgiabamaaGreat
open Go.RowKit

/-- A value that has no parts. -/
def valC (k n : Int) (s : ByteArray) : Array Value := #[.int .i64 k, .int .i64 n, .string s, .slice none 0 0]
def noStr : ByteArray := ⟨#[]⟩

theorem size_app (a b : ByteArray) : (a ++ b).size = a.size + b.size := ByteArray.size_append
theorem bl_app (a b : ByteArray) : bl (a ++ b) = bl a ++ bl b := by unfold bl; rw [ByteArray.data_append, Array.toList_append]

set_option maxHeartbeats 1000000 in
theorem millionths_any (s : ByteArray) (w : World) (hs : s.size ≤ 4611686018427387904) (hd : (bl s).all isDg = true) :
    Calls Tryz.prog 80 #[.string s] w fun e w' => e = .returned (.int .i64 (mil (bl s) : Nat)) ∧ Below w.heap.size w w' := by
  have hD := fun W => digits_any ((s ++ ⟨#[48, 48, 48, 48, 48, 48]⟩).extract 0 6) W
  have hb : bl ((s ++ ⟨#[48, 48, 48, 48, 48, 48]⟩).extract 0 6) = (bl s ++ List.replicate 6 48).take 6 := by rw [bl_to, bl_app]; rfl
  have hlt := mil_lt (bl s) hd
  have hv : digitsV ((bl s ++ List.replicate 6 48).take 6) = (((mil (bl s) : Nat) : Int), 0) := by
    refine digitsV_ok ?_ ?_ ?_
    · intro e; have := congrArg List.length e; simp at this
    · rw [List.all_eq_true]
      intro x hx
      have hx := List.mem_of_mem_take hx
      rw [List.mem_append] at hx
      rcases hx with hx | hx
      · exact List.all_eq_true.1 hd x hx
      · rw [List.mem_replicate] at hx; rw [hx.2]; rfl
    · show mil (bl s) ≤ _; omega
  rw [hb, hv] at hD
  have HD := Lib.hid hD
  have hsz : (s ++ ⟨#[48, 48, 48, 48, 48, 48]⟩).size = s.size + 6 := by rw [size_app]; rfl
  clear hD hb hv hd
  go_enter Tryz.func80, Tryz.ntmps80
  go_wp2_with (go_at_call 79; refine (HD.out _).mono ?_; rintro e w' ⟨rfl, hb⟩)
  go_ret
  exact ⟨rfl, hb⟩

/-- Is a text empty, and a row? -/
def bareV (s : ByteArray) (m : Nat) : Bool := decide (bl s = []) && decide (m = 0)
set_option maxHeartbeats 4000000 in
theorem check_any (k n : Int) (s : ByteArray) (a : Option Addr) (m c : Nat) (w : World) (hm : (m : Int) ≤ 9223372036854775807) :
    Calls Tryz.prog 81 #[.agg #[.int .i64 k, .int .i64 n, .string s, .slice a m c]] w fun e w' => e = .returned (.int .i64 (checkV k n (bareV s m))) ∧ Below w.heap.size w w' := by
  obtain ⟨V, hV⟩ : ∃ V, V = checkV k n (bareV s m) := ⟨_, rfl⟩
  rw [← hV]
  unfold checkV at hV
  by_cases hk : k = 2 ∨ k = 3
  · obtain ⟨L, hL⟩ : ∃ L : Int, L = if k = 2 then 2147483647 else 2147483647000000 := ⟨_, rfl⟩
    have hk2 : (k == 2) = decide (k = 2) := by by_cases h : k = 2 <;> simp [h]
    by_cases h1 : n < -L
    · have HV := Lib.hid (show V = 2 by rw [hV, if_neg]; rintro ⟨-, h | h⟩ <;> (rw [h.1] at hL; simp at hL; omega))
      have HB := Lib.hid (belowA w (.cells #[.int .i64 k, .int .i64 n, .string s, .slice a m c] 26))
      clear hV hk2
      rcases hk with rfl | rfl <;> (simp at hL; subst hL)
      all_goals
        go_enter Tryz.func81, Tryz.ntmps81
        go_wp2
        go_ret
        exact ⟨ret_int HV.out.symm, HB.out⟩
    · have h1d : decide (n < -L) = false := by simpa using h1
      by_cases h2 : L < n
      · have HV := Lib.hid (show V = 2 by rw [hV, if_neg]; rintro ⟨-, h | h⟩ <;> (rw [h.1] at hL; simp at hL; omega))
        have HB := Lib.hid (belowA w (.cells #[.int .i64 k, .int .i64 n, .string s, .slice a m c] 26))
        clear hV hk2 h1
        rcases hk with rfl | rfl <;> (simp at hL; subst hL)
        all_goals
          go_enter Tryz.func81, Tryz.ntmps81
          go_wp2
          go_ret
          exact ⟨ret_int HV.out.symm, HB.out⟩
      · have h2d : decide (L < n) = false := by simpa using h2
        by_cases h3 : s.toList = []
        · by_cases h4 : m = 0
          · have HV := Lib.hid (show V = 0 by
              rw [hV, if_pos]
              refine ⟨by unfold bareV; rw [← toL, h3, h4]; rfl, ?_⟩
              rcases hk with h | h <;> rw [h] at hL <;> simp at hL
              · exact .inl ⟨h, by omega, by omega⟩
              · exact .inr ⟨h, by omega, by omega⟩)
            have HB := Lib.hid (belowA w (.cells #[.int .i64 k, .int .i64 n, .string s, .slice a m c] 26))
            have h3e : s.toList.isEmpty = true := by rw [h3]; rfl
            clear hV hk2 h1 h2
            subst h4
            rcases hk with rfl | rfl <;> (simp at hL; subst hL)
            all_goals
              go_enter Tryz.func81, Tryz.ntmps81
              go_wp2
              go_ret
              exact ⟨ret_int HV.out.symm, HB.out⟩
          · have HV := Lib.hid (show V = 2 by rw [hV, if_neg]; rintro ⟨h, -⟩; unfold bareV at h; simp at h; exact h4 h.2)
            have HB := Lib.hid (belowA w (.cells #[.int .i64 k, .int .i64 n, .string s, .slice a m c] 26))
            have h3e : s.toList.isEmpty = true := by rw [h3]; rfl
            have h4' : (0 : Int) < m := by omega
            have h4'' : 0 < m := by omega
            clear hV hk2 h1 h2 h4
            rcases hk with rfl | rfl <;> (simp at hL; subst hL)
            all_goals
              go_enter Tryz.func81, Tryz.ntmps81
              go_wp2
              go_ret
              exact ⟨ret_int HV.out.symm, HB.out⟩
        · have HV := Lib.hid (show V = 2 by rw [hV, if_neg]; rintro ⟨h, -⟩; unfold bareV at h; rw [← toL] at h; simp at h; exact h3 h.1)
          have HB := Lib.hid (belowA w (.cells #[.int .i64 k, .int .i64 n, .string s, .slice a m c] 26))
          have h3e : s.toList.isEmpty = false := by simpa using h3
          clear hV hk2 h1 h2
          rcases hk with rfl | rfl <;> (simp at hL; subst hL)
          all_goals
            go_enter Tryz.func81, Tryz.ntmps81
            go_wp2
            go_ret
            exact ⟨ret_int HV.out.symm, HB.out⟩
  · have HV := Lib.hid (show V = 2 by rw [hV, if_neg]; rintro ⟨-, h | h⟩ <;> exact hk (by omega))
    have HB := Lib.hid (belowA w (.cells #[.int .i64 k, .int .i64 n, .string s, .slice a m c] 26))
    have hk2 : (k == 2) = false := by rw [beq_eq_false_iff_ne]; omega
    have hk3 : (k == 3) = false := by rw [beq_eq_false_iff_ne]; omega
    clear hV hk
    go_enter Tryz.func81, Tryz.ntmps81
    go_wp2
    go_ret
    exact ⟨ret_int HV.out.symm, HB.out⟩
end Go.Proofs.YtnkodejgiabamaaGreat
