/-
  Walks of layer 10: a byte is put behind what a scanner has put together; what it has put together.
-/
import Derived.Test.YtkolfecjlbnfkaaLex2
namespace Go.Proofs.Ytkolfecjlbnfkaa
open Go.RowKit

theorem infoBuilder : (Try.prog.info? 52).map (·.size) = some 2 := by kernel_rfl
theorem liesBuilder : liesAt Try.prog Try.prog.depth 54 (5 / Try.prog.cellsOf 54) 0 52 1 = true := by kernel_rfl
theorem EByte : ElemT Try.prog 22 5 (.int .u8 0) 1 1 := ⟨Try.underlying22, by kernel_rfl, rfl, by omega⟩
theorem cellsByte : Try.prog.cellsOf 5 = 1 := by kernel_rfl

/-- What copyCheck leaves. -/
def Chk (w : World) (S : Nat → Prop) (p : Nat) (X : Src) (out : List UInt8) (k : Nat) (v : Value) (e : Ending) (w' : World) : Prop :=
  e = .returned (.tuple #[]) ∧ IsSc w' S p X out k (.pointer (some ⟨p, 0, none⟩)) v ∧ Keeps S w w' ∧ w'.heap.size = w.heap.size

theorem IsSc.mark {w : World} {S : Nat → Prop} {p : Nat} {X : Src} {out : List UInt8} {k : Nat} {ad v : Value} (h : IsSc w S p X out k ad v) :
    IsSc (w.setCell ⟨p, 0, none⟩ (.pointer (some ⟨p, 0, none⟩))) S p X out k (.pointer (some ⟨p, 0, none⟩)) v := by
  have hp := (h.lt p h.own).2
  refine ⟨?_, .inr rfl, ownsRow_setCell_other h.row (a := ⟨p, 0, none⟩) (fun e => by have := (h.row.lt p e).1; omega) _, h.at_, h.own, fun b hS => by have := h.lt b hS; simpa using this, ?_, h.srcb, h.le, h.small, h.outl, h.nil_⟩
  · rw [heap_setCell_same _ _ 0 _ _ _ h.blk]; rfl
  · exact h.src.keeps (S := fun b => b = p) ((Keeps.refl (fun b => b = p) w).setCell (a := ⟨p, 0, none⟩) (.inl rfl) _) (fun x hx e => by have := h.srcb x hx; omega)

set_option maxRecDepth 100000 in
set_option maxHeartbeats 1000000 in
theorem copyCheck_any {w : World} {S : Nat → Prop} {p : Nat} {X : Src} {out : List UInt8} {k : Nat} {ad v : Value} (h : IsSc w S p X out k ad v) :
    Calls Try.prog 56 #[.pointer (some ⟨p, 0, none⟩)] w (Chk w S p X out k v) := by
  obtain ⟨j, hj, hjs⟩ := Option.map_eq_some_iff.1 infoBuilder
  obtain ⟨c0, -⟩ := h.cells
  have hfz := h.free 0
  have hsh : w.shape? p = some (54, 5) := by have := h.blk; simp [World.shape?, this, scV]
  rcases h.ad_ with rfl | rfl
  · have HM := Lib.hid h.mark
    have HK := Lib.hid ((Keeps.refl S w).setCell (a := ⟨p, 0, none⟩) (.inl h.own) (.pointer (some ⟨p, 0, none⟩)))
    clear h
    go_enter Try.func56, Try.ntmps56
    go_wp2
    rw [Lib.run_to_unsafe w ⟨p, 0, none⟩ Try.underlying50 Try.underlying91 hj (by rw [hjs]; decide) hsh (Nat.succ_pos 4)]
    simp only [Result.andThen]
    rw [Oper.upon_value]
    go_wp2
    rw [run_callFunc_extern Try.func61 (by kernel_rfl) (by kernel_rfl) (by kernel_rfl) (e := Extern.AbiNoEscape.same) (by kernel_rfl)]
    rw [Lib.run_noEscape]
    simp only [Result.andThen]
    rw [Oper.upon_value]
    go_wp2
    rw [Lib.run_from_unsafe w ⟨p, 0, none⟩ Try.underlying91 Try.underlying50 hj hsh liesBuilder]
    simp only [Result.andThen]
    rw [Oper.upon_value]
    go_wp2
    go_end0
    exact ⟨rfl, HM.out, HK.out, by simp⟩
  · have HM := Lib.hid h
    clear h
    go_enter Try.func56, Try.ntmps56
    go_wp2
    rw [Lib.run_neq_ptr_same w _ Try.underlying50 hj]
    go_wp2
    go_end0
    exact ⟨rfl, HM.out, Keeps.refl _ _, rfl⟩

theorem IsSc.put {w w2 : World} {S : Nat → Prop} {p : Nat} {X : Src} {out : List UInt8} {k : Nat} {v v' : Value} (c : UInt8) (hk : out.length < k) (h : IsSc w S p X out k (.pointer (some ⟨p, 0, none⟩)) v) (o : Obj)
    (hr : w2.ownsRow (p + 1) 5 1 v' (out.length + 1) (out.map u8C ++ [u8C c])) (hg : (w.alloc o).grownBy w2 v.ownBlock) (hn : NewAt (w.alloc o) v v') :
    ScNext w S p X (out ++ [c]) k (w2.setCell ⟨p, 1, none⟩ v') := by
  have hp := (h.lt p h.own).2
  have hvb : ∀ b, v.ownBlock = some b → p < b := fun b hb => (h.row.lt b hb).1
  have h1 : w2.heap[p]? = some (.cells (scV X (.pointer (some ⟨p, 0, none⟩)) v k) 54 (0, 0)) :=
    (hg.block p (by rw [sizeA]; omega) (fun e => by have := hvb p e.symm; omega)).trans ((Below.heap_alloc w o p hp).trans h.blk)
  have hk1 : Keeps S w w2 := ((Keeps.refl S w).alloc o).grown hg (fun k hk => .inl (h.at_ k hk))
  have hk2 := hk1.setCell (a := ⟨p, 1, none⟩) (.inl h.own) v'
  have hsz := hk2.size
  refine ⟨fun b => S b ∨ (p ≤ b ∧ w.heap.size ≤ b ∧ b < (w2.setCell ⟨p, 1, none⟩ v').heap.size), ⟨.pointer (some ⟨p, 0, none⟩), v', ⟨?_, .inr rfl, ?_, fun b hb => ?_, .inl h.own, fun b hb => ?_, ?_, h.srcb, h.le, h.small, by simp; omega, fun e => by simp at e⟩⟩, hk2, fun b hb => ?_⟩
  · rw [heap_setCell_same _ _ 1 _ _ _ h1]; rfl
  · have := ownsRow_setCell_other hr (a := ⟨p, 1, none⟩) (fun e => by have := (hr.lt p e).1; omega) v'
    simpa using this
  · have hlt := (hr.lt b hb)
    rcases hn b hb with h2 | h2
    · exact .inl (h.at_ b h2)
    · rw [sizeA] at h2
      exact .inr ⟨by omega, by omega, by simpa using hlt.2⟩
  · rcases hb with hb | hb
    · have := h.lt b hb; omega
    · exact ⟨hb.1, hb.2.2⟩
  · exact h.src.keeps hk2 (fun x hx e => by have h1 := h.srcb x hx; have h2 := (h.lt x.block e).1; omega)
  · rcases hb with hb | hb
    · exact .inl hb
    · exact .inr hb.2.1

set_option maxRecDepth 100000 in
set_option maxHeartbeats 1000000 in
theorem writeByte_any {w : World} {S : Nat → Prop} {p : Nat} {X : Src} {out : List UInt8} {k : Nat} (h : ScQ w S p X out k) (c : UInt8) (x : Int) (hx : x = (c.toNat : Int)) (hk : out.length < k) :
    Calls Try.prog 45 #[.pointer (some ⟨p, 0, none⟩), .int .u8 x] w fun e w' => e = .returned .nilIface ∧ ScNext w S p X (out ++ [c]) k w' := by
  obtain ⟨ad, v, h⟩ := h
  have HC := Lib.hid (copyCheck_any h)
  unfold Chk at HC
  have hXC : Value.int .u8 x = u8C c := by rw [hx]; rfl
  have HX := Lib.hid hXC
  have hsm := h.small
  have hle := h.le
  have hol := h.outl
  clear h hx hXC
  go_enter Try.func45, Try.ntmps45
  go_wp2_with fail
  refine HC.out.mono ?_
  rintro e w1 ⟨rfl, h1, hk1, hs1⟩
  have H1 := Lib.hid h1
  have HK1 := Lib.hid hk1
  have HS1 := Lib.hid hs1
  obtain ⟨-, c1, -⟩ := h1.cells
  have hf1 := h1.free 1
  have hp1 := (h1.lt p h1.own).2
  clear h1 hk1 hs1
  go_wp2_with (at_builtin; refine append_at EByte rfl (.tmp 11) (.tmp 13) rfl (p + 1) _ out.length _ rfl (H1.out.row.alloc _) _ 1 _ _ rfl (row_new1 _ _ _) (one_mem rfl) (by unfold maxLen; omega) (by omega) (by rw [sizeA]; omega) ?_; intro v' w2 hO2 hg2 hn2; obtain ⟨a', cap', hv', -⟩ := Row.of_owns hO2; subst hv'; rw [HX.out] at hO2; have HN := Lib.hid (H1.out.put c hk _ hO2 hg2 hn2); have hp2 : p < w2.heap.size := (by have := hg2.size; rw [sizeA] at this; omega); have hfz2 : w2.frozen? ⟨p, 1, none⟩ = false := (frozen_of_row w2 p 1 _ _ ((hg2.block p (by rw [sizeA]; omega) (fun e => by have := (H1.out.row.lt p e.symm).1; omega)).trans ((Below.heap_alloc w1 _ p hp1).trans H1.out.blk))); have hc2 : w2.cell? ⟨p, 1, none⟩ = some v := ((cell_of_row w2 p 1 _ _ _ ((hg2.block p (by rw [sizeA]; omega) (fun e => by have := (H1.out.row.lt p e.symm).1; omega)).trans ((Below.heap_alloc w1 _ p hp1).trans H1.out.blk))).trans rfl); clear hO2 hg2 hn2)
  go_ret
  exact ⟨rfl, ScNext.trans HK1.out (fun b hb => .inl hb) HN.out⟩
end Go.Proofs.Ytkolfecjlbnfkaa
