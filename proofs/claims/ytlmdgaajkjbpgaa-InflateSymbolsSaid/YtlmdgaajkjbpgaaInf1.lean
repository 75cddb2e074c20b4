/-
  Walks of layer 5: a state in memory; the first error, numbers, symbols.
-/
import Derived.Test.YtlmdgaajkjbpgaaInfP
namespace Go.Proofs.Ytlmdgaajkjbpgaa
open Go.RowKit Go.Sort

def stC (r : Nat) (e : Int) (v : Value) (most : Nat) : Array Value := #[.pointer (some ⟨r, 0, none⟩), .int .i64 e, v, .int .i64 most]
/-- A state in memory; U knows its blocks but that of the reader's bytes. -/
structure IsSt (w : World) (U : Nat → Prop) (sb r : Nat) (bs : List UInt8) (most : Nat) (s : IS) : Prop where
  ex : ∃ v, w.heap[sb]? = some (.cells (stC r s.e v most) 47 (0, 0)) ∧ w.ownsRow (sb + 1) 5 1 v s.out.length (s.out.map u8C) ∧ ∀ b, v.ownBlock = some b → U b
  rd : IsRd w r bs false s.at_
  lt : r < sb
  own : U sb ∧ U r
  ult : ∀ b, U b → r ≤ b ∧ b < w.heap.size
def StNext (w : World) (U : Nat → Prop) (sb r : Nat) (bs : List UInt8) (most : Nat) (s : IS) (w' : World) : Prop := ∃ U', IsSt w' U' sb r bs most s ∧ Keeps U w w' ∧ ∀ b, U' b → U b ∨ w.heap.size ≤ b

theorem IsRd.keeps {w w' : World} {V : Nat → Prop} {r : Nat} {bs : List UInt8} {high : Bool} {at_ : Nat} (h : IsRd w r bs high at_) (hk : Keeps V w w') (hV : ∀ b, b ≤ r → ¬ V b) : IsRd w' r bs high at_ := by
  obtain ⟨⟨a, cap, h1, h2, h3⟩, h4, h5⟩ := h
  exact ⟨⟨a, cap, hk.obj h1 (hV r (Nat.le_refl _)), h2.keeps hk (fun x hx => hV _ (Nat.le_of_lt (h3 x hx))), h3⟩, h4, h5⟩
theorem IsSt.keeps {w w' : World} {U V : Nat → Prop} {sb r : Nat} {bs : List UInt8} {most : Nat} {s : IS} (h : IsSt w U sb r bs most s) (hk : Keeps V w w') (hV : ∀ b, b ≤ r ∨ U b → ¬ V b) : IsSt w' U sb r bs most s := by
  obtain ⟨⟨v, h1, h2, h3⟩, h4, h5, h6, h7⟩ := h
  exact ⟨⟨v, hk.obj h1 (hV sb (.inr h6.1)), owns_keeps h2 hk (fun b hb => hV b (.inr (h3 b hb))), h3⟩, h4.keeps hk (fun b hb => hV b (.inl hb)), h5, h6, fun b hb => ⟨(h7 b hb).1, Nat.lt_of_lt_of_le (h7 b hb).2 hk.size⟩⟩
theorem IsSt.mono {w w' : World} {U : Nat → Prop} {sb r : Nat} {bs : List UInt8} {most : Nat} {s : IS} (h : IsSt w U sb r bs most s) (hb : Below w.heap.size w w') : IsSt w' U sb r bs most s :=
  h.keeps (Keeps.of_below (S := fun b => w.heap.size ≤ b) hb (fun _ h => h)) (fun b hb2 hn => by
    have := (h.ult r h.own.2).2
    rcases hb2 with h1 | h1
    · omega
    · have := (h.ult b h1).2; omega)
theorem IsSt.got {w w' : World} {U : Nat → Prop} {sb r : Nat} {bs : List UInt8} {most : Nat} {s : IS} {at2 : Nat} (h : IsSt w U sb r bs most s) (hR : IsRd w' r bs false at2) (hg : w.grownBy w' (some r)) : IsSt w' U sb r bs most { s with at_ := at2 } ∧ Keeps U w w' := by
  have hk : Keeps (fun b => b = r) w w' := Keeps.of_grown (S := fun b => b = r) hg (fun k hk => by simpa using hk.symm)
  obtain ⟨⟨v, h1, h2, h3⟩, h4, h5, h6, h7⟩ := h
  have hne : sb ≠ r := by omega
  exact ⟨⟨⟨v, hk.obj h1 hne, owns_keeps h2 hk (fun b hb e => by have := (h2.lt b hb).1; omega), h3⟩, hR, h5, h6, fun b hb => ⟨(h7 b hb).1, Nat.lt_of_lt_of_le (h7 b hb).2 hk.size⟩⟩, hk.weaken (fun b hb => hb ▸ h6.2)⟩
theorem IsSt.cells {w : World} {U : Nat → Prop} {sb r : Nat} {bs : List UInt8} {most : Nat} {s : IS} (h : IsSt w U sb r bs most s) :
    w.cell? ⟨sb, 0, none⟩ = some (.pointer (some ⟨r, 0, none⟩)) ∧ w.cell? ⟨sb, 1, none⟩ = some (.int .i64 s.e) ∧ w.cell? ⟨sb, 3, none⟩ = some (.int .i64 most) ∧ w.frozen? ⟨sb, 1, none⟩ = false ∧ w.frozen? ⟨sb, 2, none⟩ = false := by
  obtain ⟨⟨v, h1, -⟩, -⟩ := h
  refine ⟨?_, ?_, ?_, frozen_of_row w sb 1 _ _ h1, frozen_of_row w sb 2 _ _ h1⟩ <;> (rw [cell_of_row w sb _ _ _ _ h1]; rfl)
theorem IsSt.setE {w : World} {U : Nat → Prop} {sb r : Nat} {bs : List UInt8} {most : Nat} {s : IS} (h : IsSt w U sb r bs most s) (e : Int) : IsSt (w.setCell ⟨sb, 1, none⟩ (.int .i64 e)) U sb r bs most { s with e := e } ∧ Keeps U w (w.setCell ⟨sb, 1, none⟩ (.int .i64 e)) := by
  have hk : Keeps (fun b => b = sb) w (w.setCell ⟨sb, 1, none⟩ (.int .i64 e)) := Keeps.setCell (S := fun b => b = sb) (Keeps.refl _ w) (a := ⟨sb, 1, none⟩) (.inl rfl) _
  obtain ⟨⟨v, h1, h2, h3⟩, h4, h5, h6, h7⟩ := h
  refine ⟨⟨⟨v, ?_, owns_keeps h2 hk (fun b hb e => by have := (h2.lt b hb).1; omega), h3⟩, h4.keeps hk (fun b hb e => by omega), h5, h6, fun b hb => ⟨(h7 b hb).1, Nat.lt_of_lt_of_le (h7 b hb).2 hk.size⟩⟩, hk.weaken (fun b hb => hb ▸ h6.1)⟩
  have := blk_set (w := w) (b := sb) (n := 4) (enc := fun i => if i = 0 then .pointer (some ⟨r, 0, none⟩) else if i = 1 then .int .i64 s.e else if i = 2 then v else .int .i64 most) (t := 47) h1 1 (.int .i64 e)
  exact this
theorem IsSt.next {w w' : World} {U : Nat → Prop} {sb r : Nat} {bs : List UInt8} {most : Nat} {s : IS} (h : IsSt w' U sb r bs most s ∧ Keeps U w w') : StNext w U sb r bs most s w' := ⟨U, h.1, h.2, fun _ h => .inl h⟩
theorem StNext.trans {w w1 w2 : World} {U U1 : Nat → Prop} {sb r : Nat} {bs : List UInt8} {most : Nat} {s : IS} (hk : Keeps U w w1) (hs : ∀ b, U1 b → U b ∨ w.heap.size ≤ b) (h2 : StNext w1 U1 sb r bs most s w2) : StNext w U sb r bs most s w2 := by
  obtain ⟨U2, h3, h4, h5⟩ := h2
  have := hk.size
  exact ⟨U2, h3, hk.trans h4 hs, fun b hb => (h5 b hb).elim (hs b) (fun h => .inr (by omega))⟩
theorem IsSt.drewN {w : World} {U : Nat → Prop} {sb r : Nat} {bs : List UInt8} {most : Nat} {s : IS} (h : IsSt w U sb r bs most s) (q : Nat) : IsSt (w.drewN q) U sb r bs most s ∧ Keeps U w (w.drewN q) :=
  ⟨h.keeps ((Keeps.refl (fun _ => False) w).drewN q) (fun _ _ h => h), (Keeps.refl U w).drewN q⟩

theorem sfail_any {w : World} {U : Nat → Prop} {sb r : Nat} {bs : List UInt8} {most : Nat} {s : IS} (h : IsSt w U sb r bs most s) (e : Int) :
    Calls Try.prog 35 #[.pointer (some ⟨sb, 0, none⟩), .int .i64 e] w fun x w' => x = .returned (.tuple #[]) ∧ IsSt w' U sb r bs most (failV e s) ∧ Keeps U w w' := by
  obtain ⟨c0, c1, -, f1, -⟩ := h.cells
  have HS := Lib.hid h
  have HE := Lib.hid (h.setE e)
  clear h
  by_cases he : s.e = 0
  · have HF : Hid (failV e s = { s with e := e }) := Lib.hid (by unfold failV; rw [if_pos he])
    rw [he] at c1
    go_enter Try.func35, Try.ntmps35
    go_wp2
    go_end0
    exact ⟨rfl, by rw [HF.out]; exact HE.out⟩
  · have HF : Hid (failV e s = s) := Lib.hid (by unfold failV; rw [if_neg he])
    go_enter Try.func35, Try.ntmps35
    go_wp2
    go_end0
    exact ⟨rfl, by rw [HF.out]; exact ⟨HS.out, Keeps.refl _ _⟩⟩

theorem failV_zero (s : IS) : failV 0 s = s := by
  obtain ⟨a, e, o⟩ := s
  unfold failV
  split
  · rename_i h; simp only at h; rw [h]
  · rfl
theorem failV_set (e : Int) (s : IS) (h : s.e = 0) : failV e s = { s with e := e } := by unfold failV; rw [if_pos h]

set_option maxHeartbeats 1000000 in
theorem ssym_any {w : World} {U Bl : Nat → Prop} {sb r p : Nat} {bs : List UInt8} {most : Nat} {s : IS} {l : List Int} (h : IsSt w U sb r bs most s) (hT : IsTb w Bl p l) (hU : ¬ Bl r) (pt : Option Addr) (hpt : s.e = 0 → pt = some ⟨p, 0, none⟩) :
    Calls Try.prog 46 #[.pointer (some ⟨sb, 0, none⟩), .pointer pt] w fun x w' => x = .returned (.int .i64 (symV5 bs l s).1) ∧ IsSt w' U sb r bs most (symV5 bs l s).2 ∧ Keeps U w w' := by
  obtain ⟨c0, c1, -, f1, -⟩ := h.cells
  have HS := Lib.hid h
  by_cases he : s.e = 0
  · obtain rfl := hpt he
    rw [he] at c1
    obtain ⟨V, hV⟩ : ∃ V, V = takeV l (bitF bs s.at_) (8 * bs.length - s.at_) := ⟨_, rfl⟩
    have HV : Hid (symV5 bs l s = (V.1, { s with at_ := s.at_ + V.2.1, e := V.2.2 })) := Lib.hid (by unfold symV5; rw [if_neg (by simp [he]), ← hV])
    have hg := tget_any Bl p r l bs false s.at_ w hT h.rd hU
    rw [show takeV l (fun k => bitAt bs false (s.at_ + k)) (8 * bs.length - s.at_) = V from hV.symm] at hg
    have HG := Lib.hid hg
    obtain ⟨x, m, e⟩ := V
    clear h hg hV
    go_enter Try.func46, Try.ntmps46
    go_wp2_with fail
    refine HG.out.mono ?_
    rintro e2 w1 ⟨rfl, hR, hgr⟩
    have HN := Lib.hid (HS.out.got hR hgr)
    have HF := Lib.hid (sfail_any (HS.out.got hR hgr).1 e)
    clear c0 c1 f1 hR hgr
    dsimp only
    go_wp2_with fail
    refine HF.out.mono ?_
    rintro e2 w2 ⟨rfl, h2, k2⟩
    rw [failV_set e { s with at_ := s.at_ + m } he] at h2
    have H2 := Lib.hid h2
    have K2 := Lib.hid k2
    clear h2 k2
    go_wp2
    go_ret
    exact ⟨by rw [HV.out]; rfl, by rw [HV.out]; exact ⟨H2.out, HN.out.2.trans K2.out (fun b hb => .inl hb)⟩⟩
  · have HV : Hid (symV5 bs l s = (0, s)) := Lib.hid (by unfold symV5; rw [if_pos he])
    clear h
    go_enter Try.func46, Try.ntmps46
    go_wp2
    go_ret
    exact ⟨by rw [HV.out]; rfl, by rw [HV.out]; exact ⟨HS.out, Keeps.refl _ _⟩⟩

set_option maxHeartbeats 1000000 in
theorem snum_any {w : World} {U : Nat → Prop} {sb r : Nat} {bs : List UInt8} {most : Nat} {s : IS} (h : IsSt w U sb r bs most s) (n : Nat) (hn : n ≤ 32) :
    Calls Try.prog 30 #[.pointer (some ⟨sb, 0, none⟩), .int .i64 n] w fun x w' => x = .returned (.int .i64 (numV bs n s).1) ∧ IsSt w' U sb r bs most (numV bs n s).2 ∧ Keeps U w w' := by
  obtain ⟨c0, c1, -, f1, -⟩ := h.cells
  have HS := Lib.hid h
  by_cases he : s.e = 0
  · rw [he] at c1
    by_cases hl : 8 * bs.length < s.at_ + n
    · have HV : Hid (numV bs n s = (0, failV 10 s)) := Lib.hid (by unfold numV failV; rw [if_neg (by simp [he]), if_pos hl, if_pos he])
      have HG := Lib.hid (get_cut r n bs false s.at_ w h.rd hn hl)
      clear h hl
      go_enter Try.func30, Try.ntmps30
      go_wp2_with fail
      refine HG.out.mono ?_
      rintro e w1 ⟨rfl, q, rfl⟩
      have HF := Lib.hid (sfail_any (HS.out.drewN q).1 10)
      clear c0 c1 f1
      go_wp2_with fail
      refine HF.out.mono ?_
      rintro e w2 ⟨rfl, h2, k2⟩
      have H2 := Lib.hid h2
      have K2 := Lib.hid k2
      clear h2 k2
      go_wp2
      go_ret
      exact ⟨by rw [HV.out]; rfl, by rw [HV.out]; exact ⟨H2.out, (HS.out.drewN q).2.trans K2.out (fun b hb => .inl hb)⟩⟩
    · have HV : Hid (numV bs n s = (getV (bitF bs s.at_) false n n, { s with at_ := s.at_ + n })) := Lib.hid (by unfold numV; rw [if_neg (by simp [he]), if_neg hl])
      have HG := Lib.hid (get_ok r n bs false s.at_ w h.rd hn (by omega))
      have HE := Lib.hid he
      clear h hl
      go_enter Try.func30, Try.ntmps30
      go_wp2_with fail
      refine HG.out.mono ?_
      rintro e w1 ⟨rfl, hR, hg⟩
      have HN := Lib.hid (HS.out.got hR hg)
      have HF := Lib.hid (sfail_any (HS.out.got hR hg).1 0)
      have hlt := getV_lt (bitF bs s.at_) false n n (Nat.le_refl _)
      have h32 := pow32 hn
      obtain ⟨g, hgv⟩ : ∃ g, g = getV (bitF bs s.at_) false n n := ⟨_, rfl⟩
      rw [← hgv] at HV hlt
      rw [show getV (fun k => bitAt bs false (s.at_ + k)) false n n = g from hgv.symm]
      have hg32 : g < 4294967296 := by omega
      clear c0 c1 f1 hR hg hlt h32 hgv
      go_wp2_with fail
      refine HF.out.mono ?_
      rintro e w2 ⟨rfl, h2, k2⟩
      have h3 := failV_zero { s with at_ := s.at_ + n }
      rw [h3] at h2
      have H2 := Lib.hid h2
      have K2 := Lib.hid k2
      clear h2 k2 h3
      go_wp2
      go_ret
      refine ⟨?_, by rw [HV.out]; exact ⟨H2.out, HN.out.2.trans K2.out (fun b hb => .inl hb)⟩⟩
      rw [HV.out]; rfl
  · have HV : Hid (numV bs n s = (0, s)) := Lib.hid (by unfold numV; rw [if_pos he])
    clear h
    go_enter Try.func30, Try.ntmps30
    go_wp2
    go_ret
    exact ⟨by rw [HV.out]; rfl, by rw [HV.out]; exact ⟨HS.out, Keeps.refl _ _⟩⟩
end Go.Proofs.Ytlmdgaajkjbpgaa
