/-
  Walks of layer 5: tables of lengths; a byte more.
-/
import Derived.Test.YtlmdgaajkjbpgaaInf1
import Derived.Test.YtlmdgaajkjbpgaaStab2
import Derived.BigQuiet
namespace Go.Proofs.Ytlmdgaajkjbpgaa
open Go.RowKit Go.Sort

theorem EByte : ElemT Try.prog 22 5 (.int .u8 0) 1 1 := ⟨Try.underlying22, by kernel_rfl, rfl, by omega⟩
theorem IsTb.keeps {w w' : World} {Bl S : Nat → Prop} {p : Nat} {l : List Int} (h : IsTb w Bl p l) (hk : Keeps S w w') (hS : ∀ b, Bl b → ¬ S b) : IsTb w' Bl p l := by
  obtain ⟨⟨aL, cL, aC, cC, aS, cS, srt, hT, hL, hC, hS2, hso, b1, b2, b3, hnn⟩, hroom, hp⟩ := h
  exact ⟨⟨aL, cL, aC, cC, aS, cS, srt, hk.obj hT (hS p hp), hL.keeps hk (fun x hx => hS _ (b1 x hx)), hC.keeps hk (fun x hx => hS _ (b2 x hx)), hS2.keeps hk (fun x hx => hS _ (b3 x hx)), hso, b1, b2, b3, hnn⟩, hroom, hp⟩
theorem Keeps.any {S : Nat → Prop} {w w' : World} (hb : Below w.heap.size w w') : Keeps S w w' := ⟨hb.os, hb.tape, hb.output, hb.size, fun b h _ => hb.block b h⟩
theorem IsSt.blt {w : World} {U : Nat → Prop} {sb r : Nat} {bs : List UInt8} {most : Nat} {s : IS} (h : IsSt w U sb r bs most s) {b : Nat} (hb : U b) : b < w.heap.size := (h.ult b hb).2

set_option maxHeartbeats 1000000 in
theorem stab_ok {w : World} {U : Nat → Prop} {sb r : Nat} {bs : List UInt8} {most : Nat} {s : IS} (h : IsSt w U sb r bs most s) (he : s.e = 0) {a : Option Addr} {n cap : Nat} {l : List Int} (hr : Row w 1 a n cap (l.map (Value.int .i64))) (hroom : 0 ≤ roomV l) (hn : n ≤ 320) (ha : a ≠ none) :
    Calls Try.prog 33 #[.pointer (some ⟨sb, 0, none⟩), .slice a n cap] w fun x w' => ∃ (p : Nat) (Bl : Nat → Prop), x = .returned (.pointer (some ⟨p, 0, none⟩)) ∧ IsTb w' Bl p l ∧ (∀ b, Bl b → w.heap.size ≤ b ∧ b < w'.heap.size) ∧ IsSt w' U sb r bs most s ∧ Keeps U w w' := by
  obtain ⟨c0, c1, -, f1, -⟩ := h.cells
  have HS := Lib.hid h
  have HN := Lib.hid (new_ok 320 stable320 a n cap l w hr hroom hn ha)
  rw [he] at c1
  have HE := Lib.hid he
  clear h hr hroom ha
  go_enter Try.func33, Try.ntmps33
  go_wp2_with fail
  refine HN.out.mono ?_
  rintro e w1 ⟨p, rfl, hT, hb⟩
  have HT := Lib.hid hT
  have HB := Lib.hid hb
  have HF := Lib.hid (sfail_any (HS.out.mono hb) 0)
  clear c0 c1 f1 hT hb
  go_wp2_with fail
  refine HF.out.mono ?_
  rintro e w2 ⟨rfl, h2, k2⟩
  rw [failV_zero] at h2
  have H2 := Lib.hid h2
  have K2 := Lib.hid k2
  clear h2 k2
  go_wp2
  go_ret
  have hU : ∀ b, U b → b < w.heap.size := fun b hb => HS.out.blt hb
  exact ⟨p, _, rfl, HT.out.keeps K2.out (fun b hb hu => by have := hU b hu; omega), fun b hb => ⟨hb.1, Nat.lt_of_lt_of_le hb.2 K2.out.size⟩, H2.out, (Keeps.any HB.out).trans K2.out (fun b hb => .inl hb)⟩

/-- The bytes' slice is laid down anew. -/
theorem IsSt.putOut {w w1 : World} {U : Nat → Prop} {sb r : Nat} {bs : List UInt8} {most : Nat} {s : IS} {v v' : Value} {o : Obj} {c : UInt8} (h : IsSt w U sb r bs most s) (hv : w.heap[sb]? = some (.cells (stC r s.e v most) 47 (0, 0))) (hO : w.ownsRow (sb + 1) 5 1 v s.out.length (s.out.map u8C)) (hU : ∀ b, v.ownBlock = some b → U b)
    (hO' : w1.ownsRow (sb + 1) 5 1 v' (s.out.length + 1) (s.out.map u8C ++ [u8C c])) (hg : (w.alloc o).grownBy w1 v.ownBlock) (hN : NewAt (w.alloc o) v v') :
    StNext w U sb r bs most { s with out := s.out ++ [c] } (w1.setCell ⟨sb, 2, none⟩ v') := by
  have hk : Keeps (fun b => v.ownBlock = some b) w w1 := ((Keeps.refl _ w).alloc o).grown hg (fun k hk => .inl hk)
  have hk2 : Keeps (fun b => b = sb) w1 (w1.setCell ⟨sb, 2, none⟩ v') := Keeps.setCell (S := fun b => b = sb) (Keeps.refl _ w1) (a := ⟨sb, 2, none⟩) (.inl rfl) _
  have hsz := hk.size
  have hult := h.ult
  have hrs := h.lt
  have hsb1 : w1.heap[sb]? = some (.cells (stC r s.e v most) 47 (0, 0)) := hk.obj hv (fun e => by have := (hO.lt sb e).1; omega)
  have hkU : Keeps U w w1 := hk.weaken hU
  refine ⟨fun b => U b ∨ v'.ownBlock = some b, ⟨⟨v', ?_, ?_, fun b hb => .inr hb⟩, (h.rd.keeps hk (fun b hb e => by have := (hO.lt b e).1; omega)).keeps hk2 (fun b hb e => by omega), hrs, ⟨.inl h.own.1, .inl h.own.2⟩, fun b hb => ?_⟩, hkU.trans hk2 (fun b hb => .inl (hb ▸ h.own.1)), fun b hb => ?_⟩
  · have := blk_set (w := w1) (b := sb) (n := 4) (enc := fun i => if i = 0 then .pointer (some ⟨r, 0, none⟩) else if i = 1 then .int .i64 s.e else if i = 2 then v else .int .i64 most) (t := 47) hsb1 2 v'
    exact this
  · have h3 := owns_keeps hO' hk2 (fun b hb e => by have := (hO'.lt b hb).1; omega)
    show World.ownsRow _ _ _ _ v' (s.out ++ [c]).length ((s.out ++ [c]).map u8C)
    rw [List.length_append, List.map_append]
    exact h3
  · have hs2 := hk2.size
    rcases hb with hb | hb
    · have := hult b hb
      exact ⟨this.1, by omega⟩
    · have := hO'.lt b hb
      exact ⟨by omega, by omega⟩
  · rcases hb with hb | hb
    · exact .inl hb
    · rcases hN b hb with e | e
      · exact .inl (hU b e)
      · rw [sizeA] at e; exact .inr (by omega)

set_option maxHeartbeats 2000000 in
theorem sput5_any {w : World} {U : Nat → Prop} {sb r : Nat} {bs : List UInt8} {most : Nat} {s : IS} (h : IsSt w U sb r bs most s) (c : UInt8) (hb : s.out.length ≤ 100000000) :
    Calls Try.prog 45 #[.pointer (some ⟨sb, 0, none⟩), .int .u8 c.toNat] w fun x w' => x = .returned (.tuple #[]) ∧ StNext w U sb r bs most (putV5 most c s) w' := by
  obtain ⟨c0, c1, c3, f1, f2⟩ := h.cells
  have HS := Lib.hid h
  obtain ⟨v, hv, hO, hU⟩ := h.ex
  obtain ⟨a0, cap0, hva, -, -⟩ := Row.of_owns hO
  subst hva
  have c2 : w.cell? ⟨sb, 2, none⟩ = some (.slice a0 s.out.length cap0) := by rw [cell_of_row w sb _ _ _ _ hv]; rfl
  have HV := Lib.hid hv
  have HO := Lib.hid hO
  have HU := Lib.hid hU
  have hsb := h.blt h.own.1
  clear h hv hO hU
  by_cases hl : most ≤ s.out.length
  · have hd : decide (most ≤ s.out.length) = true := decide_eq_true hl
    have HP : Hid (putV5 most c s = failV 3 s) := Lib.hid (if_pos hl)
    go_enter Try.func45, Try.ntmps45
    go_wp2_with fail
    go_quiet (fail)
    have HF := Lib.hid (sfail_any (HS.out.drewN nq).1 3)
    go_wp2_with fail
    refine HF.out.mono ?_
    rintro e w2 ⟨rfl, h2, k2⟩
    have H2 := Lib.hid (And.intro h2 ((HS.out.drewN nq).2.trans k2 (fun b hb => .inl hb)))
    clear h2 k2
    go_wp2
    refine bodyPost_ret (results_none rfl _ _ _) rfl ?_
    exact ⟨rfl, by rw [HP.out]; exact IsSt.next H2.out⟩
  · have hd : decide (most ≤ s.out.length) = false := decide_eq_false hl
    have HP : Hid (putV5 most c s = { s with out := s.out ++ [c] }) := Lib.hid (if_neg hl)
    go_enter Try.func45, Try.ntmps45
    go_wp2_with fail
    go_quiet (fail)
    have HSD := Lib.hid (HS.out.drewN nq)
    have HOD := Lib.hid (show (w.drewN nq).ownsRow (sb + 1) 5 1 (.slice a0 s.out.length cap0) s.out.length (s.out.map u8C) from HO.out)
    have HVD := Lib.hid (show (w.drewN nq).heap[sb]? = some (.cells (stC r s.e (.slice a0 s.out.length cap0) most) 47 (0, 0)) from HV.out)
    have d2 : (w.drewN nq).cell? ⟨sb, 2, none⟩ = some (.slice a0 s.out.length cap0) := c2
    have hsbd : sb < (w.drewN nq).heap.size := hsb
    generalize w.drewN nq = W at *
    clear c0 c1 c2 c3 f1 f2
    obtain ⟨y, hy⟩ : ∃ y, y = c.toNat := ⟨_, rfl⟩
    have HY := Lib.hid hy
    rw [← hy]
    clear hy
    go_wp2_with (at_builtin; refine append_at EByte rfl (.tmp 22) (.tmp 24) rfl (sb + 1) _ s.out.length _ rfl (HOD.out.alloc _) _ 1 _ _ rfl (row_new1 _ _ _) (one_mem rfl) (by unfold maxLen; omega) (by omega) (by rw [sizeA]; omega) ?_; intro v' w5 hO5 hg5 hN5; obtain ⟨a5, c5, hv5, -, -⟩ := Row.of_owns hO5; subst hv5; have HN := Lib.hid (HSD.out.1.putOut (c := c) HVD.out HOD.out HU.out (by unfold u8C; rw [← HY.out]; exact hO5) hg5 hN5); have hf5 : w5.frozen? ⟨sb, 2, none⟩ = false := frozen_of_row w5 sb 2 _ _ ((((Keeps.refl _ W).alloc _).grown hg5 (fun k hk => .inl hk)).obj HVD.out (fun e => by have := (HOD.out.lt sb e).1; omega)); have hc5 : w5.cell? ⟨sb, 2, none⟩ = some (.slice a0 s.out.length cap0) := (((Keeps.refl _ W).alloc _).grown hg5 (fun k hk => .inl hk)).cell d2 (fun e => by have := (HOD.out.lt sb e).1; omega); clear hO5 hg5 hN5)
    go_end0
    refine ⟨rfl, ?_⟩
    rw [HP.out]
    exact StNext.trans HSD.out.2 (fun _ h => .inl h) HN.out
end Go.Proofs.Ytlmdgaajkjbpgaa
