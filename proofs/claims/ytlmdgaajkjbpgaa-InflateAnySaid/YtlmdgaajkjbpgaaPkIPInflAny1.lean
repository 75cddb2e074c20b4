/-
  Our texts Rd1 to Rd3, in one.
-/
import Derived.Test.YtlmdgaajkjbpgaaPkI13
import Derived.Deep.RegionHeld3
import Derived.Deep.Cut
import Derived.Deep.CutRange
/-
  Walks of the reference of layer 5: its state in memory; the first error, numbers, bytes.
-/
namespace Go.Proofs.Ytlmdgaajkjbpgaa
open Go.RowKit Go.Sort

def rC (a : Option Addr) (L c at_ : Nat) (e : Int) (v : Value) (most : Nat) : Array Value := #[.slice a L c, .int .i64 at_, .int .i64 e, v, .int .i64 most]
def rE (a : Option Addr) (L c at_ : Nat) (e : Int) (v : Value) (most : Nat) (i : Nat) : Value := if i = 0 then .slice a L c else if i = 1 then .int .i64 at_ else if i = 2 then .int .i64 e else if i = 3 then v else .int .i64 most
/-- The bits of bytes, as the reference holds them. -/
def bitR (bs : List UInt8) : List Value := (bl bs false 0 (8 * bs.length)).map Value.bool
/-- The reference's state in memory; U knows its blocks but that of the bits. -/
structure IsR (w : World) (U : Nat → Prop) (rb : Nat) (a : Option Addr) (c : Nat) (bs : List UInt8) (most : Nat) (s : IS) : Prop where
  ex : ∃ v, w.heap[rb]? = some (.cells (rC a (8 * bs.length) c s.at_ s.e v most) 53 (0, 0)) ∧ w.ownsRow (rb + 1) 5 1 v s.out.length (s.out.map u8C) ∧ ∀ b, v.ownBlock = some b → U b
  row : Row w 1 a (8 * bs.length) c (bitR bs)
  lt : ∀ x, a = some x → x.block < rb
  le : s.at_ ≤ 8 * bs.length
  own : U rb
  ult : ∀ b, U b → rb ≤ b ∧ b < w.heap.size
def RNext (w : World) (U : Nat → Prop) (rb : Nat) (a : Option Addr) (c : Nat) (bs : List UInt8) (most : Nat) (s : IS) (w' : World) : Prop := ∃ U', IsR w' U' rb a c bs most s ∧ Keeps U w w' ∧ ∀ b, U' b → U b ∨ w.heap.size ≤ b
section
variable {w w' : World} {U : Nat → Prop} {rb : Nat} {a : Option Addr} {c : Nat} {bs : List UInt8} {most : Nat} {s : IS}
theorem IsR.blt (h : IsR w U rb a c bs most s) {b : Nat} (hb : U b) : b < w.heap.size := (h.ult b hb).2
theorem IsR.keeps {V : Nat → Prop} (h : IsR w U rb a c bs most s) (hk : Keeps V w w') (hV : ∀ b, b < rb ∨ U b → ¬ V b) : IsR w' U rb a c bs most s := by
  obtain ⟨⟨v, h1, h2, h3⟩, h4, h5, h6, h7, h8⟩ := h
  exact ⟨⟨v, hk.obj h1 (hV rb (.inr h7)), owns_keeps h2 hk (fun b hb => hV b (.inr (h3 b hb))), h3⟩, h4.keeps hk (fun x hx => hV _ (.inl (h5 x hx))), h5, h6, h7, fun b hb => ⟨(h8 b hb).1, Nat.lt_of_lt_of_le (h8 b hb).2 hk.size⟩⟩
theorem IsR.mono (h : IsR w U rb a c bs most s) (hb : Below w.heap.size w w') : IsR w' U rb a c bs most s :=
  h.keeps (Keeps.of_below (S := fun b => w.heap.size ≤ b) hb (fun _ h => h)) (fun b hb2 hn => by
    have := h.blt h.own
    rcases hb2 with h1 | h1
    · omega
    · have := h.blt h1; omega)
theorem IsR.cells (h : IsR w U rb a c bs most s) :
    w.cell? ⟨rb, 0, none⟩ = some (.slice a (8 * bs.length) c) ∧ w.cell? ⟨rb, 1, none⟩ = some (.int .i64 s.at_) ∧ w.cell? ⟨rb, 2, none⟩ = some (.int .i64 s.e) ∧ w.cell? ⟨rb, 4, none⟩ = some (.int .i64 most) ∧ w.frozen? ⟨rb, 1, none⟩ = false ∧ w.frozen? ⟨rb, 2, none⟩ = false ∧ w.frozen? ⟨rb, 3, none⟩ = false := by
  obtain ⟨⟨v, h1, -⟩, -⟩ := h
  refine ⟨?_, ?_, ?_, ?_, frozen_of_row w rb 1 _ _ h1, frozen_of_row w rb 2 _ _ h1, frozen_of_row w rb 3 _ _ h1⟩ <;> (rw [cell_of_row w rb _ _ _ _ h1]; rfl)
theorem IsR.drewN (h : IsR w U rb a c bs most s) (q : Nat) : IsR (w.drewN q) U rb a c bs most s ∧ Keeps U w (w.drewN q) :=
  ⟨h.keeps ((Keeps.refl (fun _ => False) w).drewN q) (fun _ _ h => h), (Keeps.refl U w).drewN q⟩
theorem IsR.setE (h : IsR w U rb a c bs most s) (e : Int) : IsR (w.setCell ⟨rb, 2, none⟩ (.int .i64 e)) U rb a c bs most { s with e := e } ∧ Keeps U w (w.setCell ⟨rb, 2, none⟩ (.int .i64 e)) := by
  have hk : Keeps (fun b => b = rb) w (w.setCell ⟨rb, 2, none⟩ (.int .i64 e)) := Keeps.setCell (S := fun b => b = rb) (Keeps.refl _ w) (a := ⟨rb, 2, none⟩) (.inl rfl) _
  obtain ⟨⟨v, h1, h2, h3⟩, h4, h5, h6, h7, h8⟩ := h
  refine ⟨⟨⟨v, ?_, owns_keeps h2 hk (fun b hb e => by have := (h2.lt b hb).1; omega), h3⟩, h4.keeps hk (fun x hx e => by have := h5 x hx; omega), h5, h6, h7, fun b hb => ⟨(h8 b hb).1, Nat.lt_of_lt_of_le (h8 b hb).2 hk.size⟩⟩, hk.weaken (fun b hb => hb ▸ h7)⟩
  have := blk_set (w := w) (b := rb) (n := 5) (enc := rE a (8 * bs.length) c s.at_ s.e v most) (t := 53) h1 2 (.int .i64 e)
  exact this
theorem IsR.setA (h : IsR w U rb a c bs most s) (k : Nat) (hk2 : k ≤ 8 * bs.length) : IsR (w.setCell ⟨rb, 1, none⟩ (.int .i64 k)) U rb a c bs most { s with at_ := k } ∧ Keeps U w (w.setCell ⟨rb, 1, none⟩ (.int .i64 k)) := by
  have hk : Keeps (fun b => b = rb) w (w.setCell ⟨rb, 1, none⟩ (.int .i64 k)) := Keeps.setCell (S := fun b => b = rb) (Keeps.refl _ w) (a := ⟨rb, 1, none⟩) (.inl rfl) _
  obtain ⟨⟨v, h1, h2, h3⟩, h4, h5, h6, h7, h8⟩ := h
  refine ⟨⟨⟨v, ?_, owns_keeps h2 hk (fun b hb e => by have := (h2.lt b hb).1; omega), h3⟩, h4.keeps hk (fun x hx e => by have := h5 x hx; omega), h5, hk2, h7, fun b hb => ⟨(h8 b hb).1, Nat.lt_of_lt_of_le (h8 b hb).2 hk.size⟩⟩, hk.weaken (fun b hb => hb ▸ h7)⟩
  have := blk_set (w := w) (b := rb) (n := 5) (enc := rE a (8 * bs.length) c s.at_ s.e v most) (t := 53) h1 1 (.int .i64 k)
  exact this
theorem RNext.trans {w1 w2 : World} {U1 : Nat → Prop} (hk : Keeps U w w1) (hs : ∀ b, U1 b → U b ∨ w.heap.size ≤ b) (h2 : RNext w1 U1 rb a c bs most s w2) : RNext w U rb a c bs most s w2 := by
  obtain ⟨U2, h3, h4, h5⟩ := h2
  have := hk.size
  exact ⟨U2, h3, hk.trans h4 hs, fun b hb => (h5 b hb).elim (hs b) (fun h => .inr (by omega))⟩
end

theorem rfail_any {w : World} {U : Nat → Prop} {rb : Nat} {a : Option Addr} {c : Nat} {bs : List UInt8} {most : Nat} {s : IS} (h : IsR w U rb a c bs most s) (e : Int) :
    Calls Try.prog 27 #[.pointer (some ⟨rb, 0, none⟩), .int .i64 e] w fun x w' => x = .returned (.tuple #[]) ∧ IsR w' U rb a c bs most (failV e s) ∧ Keeps U w w' := by
  obtain ⟨-, -, c2, -, -, f2, -⟩ := h.cells
  have HS := Lib.hid h
  have HE := Lib.hid (h.setE e)
  clear h
  by_cases he : s.e = 0
  · have HF : Hid (failV e s = { s with e := e }) := Lib.hid (by unfold failV; rw [if_pos he])
    rw [he] at c2
    go_enter Try.func27, Try.ntmps27
    go_wp2
    go_end0
    exact ⟨rfl, by rw [HF.out]; exact HE.out⟩
  · have HF : Hid (failV e s = s) := Lib.hid (by unfold failV; rw [if_neg he])
    go_enter Try.func27, Try.ntmps27
    go_wp2
    go_end0
    exact ⟨rfl, by rw [HF.out]; exact ⟨HS.out, Keeps.refl _ _⟩⟩

/-- The number of the upper k bits of n. -/
def topV (f : Nat → Bool) (n : Nat) : Nat → Nat
  | 0 => 0
  | k + 1 => 2 * topV f n k + if f (n - 1 - k) then 1 else 0
theorem topV_lt (f : Nat → Bool) (n : Nat) : ∀ k, topV f n k < 2 ^ k
  | 0 => by simp [topV]
  | k + 1 => by have := topV_lt f n k; simp only [topV, Nat.pow_succ]; split <;> omega
theorem topV_get (f : Nat → Bool) (n : Nat) : ∀ k, k ≤ n → topV f n k * 2 ^ (n - k) + getV f false n (n - k) = getV f false n n
  | 0, _ => by simp [topV]
  | k + 1, h => by
    rw [← topV_get f n k (by omega)]
    obtain ⟨m, hm⟩ : ∃ m, n = k + 1 + m := ⟨n - (k + 1), by omega⟩
    have e1 : n - (k + 1) = m := by omega
    have e2 : n - k = m + 1 := by omega
    have e3 : n - 1 - k = m := by omega
    rw [e1, e2]
    simp only [topV, getV, e3]
    have e4 : turnN m n false = m := rfl
    rw [e4, Nat.pow_succ, Nat.add_mul]
    split
    · rw [Nat.one_mul, Nat.mul_assoc 2, Nat.mul_comm 2 (topV f n k * 2 ^ m), Nat.mul_assoc, Nat.mul_comm (topV f n k)]
      omega
    · rw [Nat.zero_mul, Nat.mul_assoc 2, Nat.mul_comm 2 (topV f n k * 2 ^ m), Nat.mul_assoc]
      omega
theorem topV_all (f : Nat → Bool) (n : Nat) : topV f n n = getV f false n n := by
  have := topV_get f n n (Nat.le_refl _)
  rw [Nat.sub_self] at this
  simpa [getV] using this
theorem topV_bd (f : Nat → Bool) (n k : Nat) (h : k ≤ 20) : topV f n k < 1048576 := Nat.lt_of_lt_of_le (topV_lt f n k) (Nat.pow_le_pow_right (by decide) h)

set_option maxHeartbeats 1000000 in
theorem of_any (a : Option Addr) (n cap : Nat) (l : List Bool) (w : World) (hr : Row w 1 a n cap (l.map Value.bool)) (hn : n ≤ 20) :
    Calls Try.prog 38 #[.slice a n cap, .bool false] w fun e w' => e = .returned (.int .u32 (getV (fun i => l.getD i false) false n n : Nat)) ∧ w = w' := by
  have HR := Lib.hid hr
  have HT := Lib.hid (topV_all (fun i => l.getD i false) n)
  have HBD := Lib.hid (topV_bd (fun i => l.getD i false) n)
  obtain ⟨f, hf⟩ : ∃ f, f = (fun i => l.getD i false) := ⟨_, rfl⟩
  rw [← hf] at HT HBD
  have HF := Lib.hid hf
  rw [← hf]
  clear hr hf
  go_enter Try.func38, Try.ntmps38
  go_wp2
  go_loop [5, 6] (fun x i => ∃ k : Nat, k ≤ n ∧ i = .int .i64 k ∧ x = .int .u32 (topV f n k : Nat)) (fun _ i => n - (intOf i).toNat)
  case atStart => exact ⟨0, Nat.zero_le _, rfl, rfl⟩
  case round =>
    obtain ⟨k, hk, rfl, rfl⟩ := hrel
    by_cases hlt : k < n
    · obtain ⟨b, off, rfl, hblt, hc⟩ := Row.at (enc := Value.bool) false HR.out (n - 1 - k) (by omega)
      have hcx := hc (n - 1 - k) (by omega)
      have HST := Lib.hid (show topV f n (k + 1) = 2 * topV f n k + if f (n - 1 - k) then 1 else 0 from rfl)
      have hb1 := HBD.out k (by omega)
      have hfx : f (n - 1 - k) = l.getD (n - 1 - k) false := by rw [HF.out]
      obtain ⟨p, hp⟩ : ∃ p, p = n - 1 - k := ⟨_, rfl⟩
      rw [← hp] at hcx HST hfx
      rw [← hfx] at hcx
      have hp1 : (n : Int) - 1 - (k : Int) = (p : Int) := by omega
      have hp2 : IntKind.i64.wrap (p : Int) = (p : Int) := IntWalk.i64_in _ (by omega)
      have hp3 : IntKind.i64.wrap ((n : Int) - 1) = (n : Int) - 1 := IntWalk.i64_in _ (by omega)
      have hp4 : p < n := by omega
      obtain ⟨t, ht⟩ : ∃ t, t = topV f n k := ⟨_, rfl⟩
      rw [← ht] at hb1 HST ⊢
      obtain ⟨g, hg⟩ : ∃ g, g = f p := ⟨_, rfl⟩
      rw [← hg] at hcx HST
      clear hc hp hfx ht hg
      cases g with
      | true =>
        go_wp2
        go_round
        case rel => exact ⟨k + 1, by omega, by go_num, by rw [HST.out]; go_num⟩
        case measure => simp [intOf]; omega
      | false =>
        go_wp2
        go_round
        case rel => exact ⟨k + 1, by omega, by go_num, by rw [HST.out]; go_num⟩
        case measure => simp [intOf]; omega
    · obtain rfl : k = n := by omega
      have HT2 := HT
      go_wp2
      go_ret
      exact ⟨by first | rfl | (rw [HT2.out]; rfl), rfl⟩
theorem bl_take (bs : List UInt8) (high : Bool) (at_ m q : Nat) (h : q ≤ m) : (bl bs high at_ m).take q = bl bs high at_ q := by
  unfold bl
  rw [← List.map_take, List.take_range, Nat.min_eq_left h]
/-- A part of the bits. -/
theorem bit_row {w : World} {a : Option Addr} {c : Nat} {bs : List UInt8} (h : Row w 1 a (8 * bs.length) c (bitR bs)) (at_ m : Nat) (hm : at_ + m ≤ 8 * bs.length) : Row w 1 (a.map fun x => x.add at_) m (c - at_) ((bl bs false at_ m).map Value.bool) := by
  have h1 := Row.takeN (Row.dropN h at_ (by omega)) m (by omega)
  unfold bitR at h1
  rw [← List.map_drop, ← List.map_take, bl_drop, bl_take _ _ _ _ _ (by omega), Nat.zero_add] at h1
  exact h1
theorem row_none {w : World} (a : Option Addr) (c : Nat) (hc : c ≤ maxLen) (ha : a = none → c = 0) : Row w 1 a 0 c [] := ⟨rfl, Nat.zero_le _, hc, ha, fun h => by omega⟩
theorem getV_bit (bs : List UInt8) (at_ n : Nat) : getV (fun i => (bl bs false at_ n).getD i false) false n n = getV (bitF bs at_) false n n :=
  getV_congr n fun _ hi => bl_get bs false at_ n hi

set_option maxRecDepth 20000 in
set_option maxHeartbeats 4000000 in
theorem rnum_any {w : World} {U : Nat → Prop} {rb : Nat} {a : Option Addr} {c : Nat} {bs : List UInt8} {most : Nat} {s : IS} (h : IsR w U rb a c bs most s) (n : Nat) (hn : n ≤ 20) (hsm : bs.length ≤ 1000000) :
    Calls Try.prog 23 #[.pointer (some ⟨rb, 0, none⟩), .int .i64 n] w fun x w' => x = .returned (.int .i64 (numV bs n s).1) ∧ IsR w' U rb a c bs most (numV bs n s).2 ∧ Keeps U w w' := by
  obtain ⟨c0, c1, c2, -, f1, f2, -⟩ := h.cells
  have HS := Lib.hid h
  by_cases he : s.e = 0
  · rw [he] at c2
    by_cases hl : 8 * bs.length < s.at_ + n
    · have HV : Hid (numV bs n s = (0, failV 10 s)) := Lib.hid (by unfold numV failV; rw [if_neg (by simp [he]), if_pos hl, if_pos he])
      have HF := Lib.hid (fun (q : Nat) => rfail_any (h.drewN q).1 10)
      have hle := h.le
      obtain ⟨L, hL⟩ : ∃ L, L = 8 * bs.length := ⟨_, rfl⟩
      rw [← hL] at c0 hl hle
      have i1 : IntKind.i64.wrap ((L : Int) - (s.at_ : Int)) = (L : Int) - (s.at_ : Int) := IntWalk.i64_in _ (by omega)
      have hd : decide ((L : Int) - (s.at_ : Int) < (n : Int)) = true := decide_eq_true (by omega)
      clear h hL hl
      go_enter Try.func23, Try.ntmps23
      go_wp2_with fail
      go_quiet (fail)
      go_wp2_with fail
      refine (HF.out _).mono ?_
      rintro e w2 ⟨rfl, h2, k2⟩
      have H2 := Lib.hid h2
      have K2 := Lib.hid ((HS.out.drewN _).2.trans k2 (fun _ hb => .inl hb))
      clear h2 k2
      go_wp2
      go_ret
      exact ⟨by rw [HV.out]; rfl, by rw [HV.out]; exact ⟨H2.out, K2.out⟩⟩
    · have HV : Hid (numV bs n s = (getV (bitF bs s.at_) false n n, { s with at_ := s.at_ + n })) := Lib.hid (by unfold numV; rw [if_neg (by simp [he]), if_neg hl])
      have hle := h.le
      have hrow := bit_row h.row s.at_ n (by omega)
      have hcap := h.row.2.1
      have hLc : 8 * bs.length ≤ c := h.row.2.1
      have hnil : a = none → c = 0 := h.row.2.2.2.1
      have hmx : c ≤ maxLen := h.row.2.2.1
      obtain ⟨L, hL⟩ : ∃ L, L = 8 * bs.length := ⟨_, rfl⟩
      rw [← hL] at c0 hl hle hLc
      obtain ⟨M, hM⟩ : ∃ M, M = s.at_ + n := ⟨_, rfl⟩
      obtain ⟨at_, hat⟩ : ∃ at_, at_ = s.at_ := ⟨_, rfl⟩
      rw [← hat] at c1 hl hle hM hrow HV
      rw [← hM] at HV
      have HAT := Lib.hid hat
      have i1 : IntKind.i64.wrap ((L : Int) - (at_ : Int)) = (L : Int) - (at_ : Int) := IntWalk.i64_in _ (by omega)
      have i2 : (at_ : Int) + (n : Int) = (M : Int) := by omega
      have i3 : IntKind.i64.wrap (M : Int) = (M : Int) := IntWalk.i64_in _ (by omega)
      have hd : decide ((L : Int) - (at_ : Int) < (n : Int)) = false := decide_eq_false (by omega)
      have q1 : (at_ : Int) ≤ (M : Int) := by omega
      have q2 : (M : Int) ≤ (c : Int) := by omega
      have q3 : (0 : Int) ≤ (at_ : Int) := by omega
      have q4 : at_ ≤ M := by omega
      have q5 : M ≤ c := by omega
      have hMn : M - at_ = n := by omega
      have hrow2 : Row w 1 (if c = at_ then a else a.map fun x => x.add at_) n (c - at_) ((bl bs false at_ n).map Value.bool) := by
        by_cases hq : c = at_
        · rw [if_pos hq]
          have hn0 : n = 0 := by omega
          subst hn0
          exact ⟨rfl, Nat.zero_le _, by omega, fun e => by have := hnil e; omega, fun h => by omega⟩
        · rw [if_neg hq]; exact hrow
      have HOF := Lib.hid (fun (q : Nat) => of_any _ n (c - at_) (bl bs false at_ n) (w.drewN q) (hrow2.mono (below_drewN5 (Below.refl _ _) q)) hn)
      have HGV := Lib.hid (getV_bit bs at_ n)
      have hgl := getV_lt (bitF bs at_) false n n (Nat.le_refl _)
      have hgb : getV (bitF bs at_) false n n < 1048576 := Nat.lt_of_lt_of_le hgl (Nat.pow_le_pow_right (by decide) hn)
      rw [HGV.out] at HOF
      obtain ⟨G, hG⟩ : ∃ G, G = getV (bitF bs at_) false n n := ⟨_, rfl⟩
      rw [← hG] at HOF HV hgb
      have i4 : IntKind.i64.wrap (G : Int) = (G : Int) := IntWalk.i64_in _ (by omega)
      have HSA := Lib.hid (fun (q : Nat) => ((HS.out.drewN q).1.setA M (by omega)))
      clear h hL hl hM hat hrow hrow2 hG hgl HGV
      go_enter Try.func23, Try.ntmps23
      go_wp2_with fail
      go_quiet (fail)
      go_wp2_with fail
      go_quiet ((go_at_call 38; refine (HOF.out _).mono ?_; rintro e w' ⟨rfl, rfl⟩; exact ⟨rfl, _, rfl⟩))
      all_goals go_wp2
      all_goals go_ret
      all_goals refine ⟨by rw [HV.out]; rfl, ?_⟩
      all_goals rw [HV.out]
      all_goals refine ⟨?_, (HS.out.drewN _).2.trans (HSA.out _).2 (fun _ hb => .inl hb)⟩
      all_goals first
        | exact (HSA.out _).1
        | (have hce : c = at_ := by assumption
           rw [← hce]; exact (HSA.out _).1)
  · have HV : Hid (numV bs n s = (0, s)) := Lib.hid (by unfold numV; rw [if_pos he])
    clear h
    go_enter Try.func23, Try.ntmps23
    go_wp2
    go_ret
    exact ⟨by rw [HV.out]; rfl, by rw [HV.out]; exact ⟨HS.out, Keeps.refl _ _⟩⟩
end Go.Proofs.Ytlmdgaajkjbpgaa
/-
  Walks of the reference of layer 5: a byte more, codes, symbols.
-/
namespace Go.Proofs.Ytlmdgaajkjbpgaa
open Go.RowKit Go.Sort

/-- The bytes' slice is laid down anew. -/
theorem IsR.putOut {w w1 : World} {U : Nat → Prop} {rb : Nat} {a : Option Addr} {c : Nat} {bs : List UInt8} {most : Nat} {s : IS} {v v' : Value} {o : Obj} {x : UInt8} (h : IsR w U rb a c bs most s) (hv : w.heap[rb]? = some (.cells (rC a (8 * bs.length) c s.at_ s.e v most) 53 (0, 0))) (hO : w.ownsRow (rb + 1) 5 1 v s.out.length (s.out.map u8C)) (hU : ∀ b, v.ownBlock = some b → U b)
    (hO' : w1.ownsRow (rb + 1) 5 1 v' (s.out.length + 1) (s.out.map u8C ++ [u8C x])) (hg : (w.alloc o).grownBy w1 v.ownBlock) (hN : NewAt (w.alloc o) v v') :
    RNext w U rb a c bs most { s with out := s.out ++ [x] } (w1.setCell ⟨rb, 3, none⟩ v') := by
  have hk : Keeps (fun b => v.ownBlock = some b) w w1 := ((Keeps.refl _ w).alloc o).grown hg (fun k hk => .inl hk)
  have hk2 : Keeps (fun b => b = rb) w1 (w1.setCell ⟨rb, 3, none⟩ v') := Keeps.setCell (S := fun b => b = rb) (Keeps.refl _ w1) (a := ⟨rb, 3, none⟩) (.inl rfl) _
  have hsz := hk.size
  have hult := h.ult
  have hrb := h.blt h.own
  have hrb1 : w1.heap[rb]? = some (.cells (rC a (8 * bs.length) c s.at_ s.e v most) 53 (0, 0)) := hk.obj hv (fun e => by have := (hO.lt rb e).1; omega)
  have hkU : Keeps U w w1 := hk.weaken hU
  refine ⟨fun b => U b ∨ v'.ownBlock = some b, ⟨⟨v', ?_, ?_, fun b hb => .inr hb⟩, (h.row.keeps hk (fun y hy e => by have := (hO.lt _ e).1; have := h.lt y hy; omega)).keeps hk2 (fun y hy e => by have := h.lt y hy; omega), h.lt, h.le, .inl h.own, fun b hb => ?_⟩, hkU.trans hk2 (fun b hb => .inl (hb ▸ h.own)), fun b hb => ?_⟩
  · have := blk_set (w := w1) (b := rb) (n := 5) (enc := rE a (8 * bs.length) c s.at_ s.e v most) (t := 53) hrb1 3 v'
    exact this
  · have h3 := owns_keeps hO' hk2 (fun b hb e => by have := (hO'.lt b hb).1; omega)
    show World.ownsRow _ _ _ _ v' (s.out ++ [x]).length ((s.out ++ [x]).map u8C)
    rw [List.length_append, List.map_append]
    exact h3
  · have hs2 := hk2.size
    rcases hb with hb | hb
    · have := hult b hb
      exact ⟨this.1, by omega⟩
    · have := hO'.lt b hb
      exact ⟨by omega, by omega⟩
  · rcases hb with hb | hb
    · exact .inl hb
    · rcases hN b hb with e | e
      · exact .inl (hU b e)
      · rw [sizeA] at e; exact .inr (by omega)
theorem IsR.next {w w' : World} {U : Nat → Prop} {rb : Nat} {a : Option Addr} {c : Nat} {bs : List UInt8} {most : Nat} {s : IS} (h : IsR w' U rb a c bs most s ∧ Keeps U w w') : RNext w U rb a c bs most s w' := ⟨U, h.1, h.2, fun _ h => .inl h⟩
def putR (most : Nat) (c : UInt8) (s : IS) : IS := if s.e ≠ 0 then s else putV5 most c s

set_option maxHeartbeats 2000000 in
theorem rput_any {w : World} {U : Nat → Prop} {rb : Nat} {a : Option Addr} {c : Nat} {bs : List UInt8} {most : Nat} {s : IS} (h : IsR w U rb a c bs most s) (x : Nat) (hx : x < 256) (hb : s.out.length ≤ 100000000) :
    Calls Try.prog 39 #[.pointer (some ⟨rb, 0, none⟩), .int .i64 x] w fun e w' => e = .returned (.tuple #[]) ∧ RNext w U rb a c bs most (putR most (UInt8.ofNat x) s) w' := by
  obtain ⟨c0, c1, c2, c4, f1, f2, f3⟩ := h.cells
  have HS := Lib.hid h
  obtain ⟨v, hv, hO, hU⟩ := h.ex
  obtain ⟨a0, cap0, hva, -, -⟩ := Row.of_owns hO
  subst hva
  have c3 : w.cell? ⟨rb, 3, none⟩ = some (.slice a0 s.out.length cap0) := by rw [cell_of_row w rb _ _ _ _ hv]; rfl
  have HV := Lib.hid hv
  have HO := Lib.hid hO
  have HU := Lib.hid hU
  have hsb := h.blt h.own
  clear h hv hO hU
  by_cases he : s.e = 0
  · rw [he] at c2
    by_cases hl : most ≤ s.out.length
    · have hd : decide (most ≤ s.out.length) = true := decide_eq_true hl
      have HP : Hid (putR most (UInt8.ofNat x) s = failV 3 s) := Lib.hid (by unfold putR putV5; rw [if_neg (by simp [he]), if_pos hl])
      go_enter Try.func39, Try.ntmps39
      go_wp2_with fail
      go_quiet (fail)
      have HF := Lib.hid (rfail_any (HS.out.drewN nq).1 3)
      go_wp2_with fail
      refine HF.out.mono ?_
      rintro e w2 ⟨rfl, h2, k2⟩
      have H2 := Lib.hid (And.intro h2 ((HS.out.drewN nq).2.trans k2 (fun _ hb => .inl hb)))
      clear h2 k2
      go_wp2
      refine bodyPost_ret (results_none rfl _ _ _) rfl ?_
      exact ⟨rfl, by rw [HP.out]; exact IsR.next H2.out⟩
    · have hd : decide (most ≤ s.out.length) = false := decide_eq_false hl
      have HP : Hid (putR most (UInt8.ofNat x) s = { s with out := s.out ++ [UInt8.ofNat x] }) := Lib.hid (by unfold putR putV5; rw [if_neg (by simp [he]), if_neg hl])
      have hxw : IntKind.u8.wrap (x : Int) = (x : Int) := by rw [show IntKind.u8.wrap (x : Int) = (x : Int) % 256 from rfl]; omega
      have HX : Hid (u8C (UInt8.ofNat x) = .int .u8 (x : Int)) := Lib.hid (by unfold u8C; rw [UInt8.toNat_ofNat', Nat.mod_eq_of_lt hx])
      go_enter Try.func39, Try.ntmps39
      go_wp2_with fail
      go_quiet (fail)
      have HSD := Lib.hid (HS.out.drewN nq)
      have HOD := Lib.hid (show (w.drewN nq).ownsRow (rb + 1) 5 1 (.slice a0 s.out.length cap0) s.out.length (s.out.map u8C) from HO.out)
      have HVD := Lib.hid (show (w.drewN nq).heap[rb]? = some (.cells (rC a (8 * bs.length) c s.at_ s.e (.slice a0 s.out.length cap0) most) 53 (0, 0)) from HV.out)
      have d3 : (w.drewN nq).cell? ⟨rb, 3, none⟩ = some (.slice a0 s.out.length cap0) := c3
      have hsbd : rb < (w.drewN nq).heap.size := hsb
      generalize w.drewN nq = W at *
      clear c0 c1 c2 c3 c4 f1 f2 f3
      go_wp2_with (at_builtin; refine append_at EByte rfl (.tmp 25) (.tmp 28) rfl (rb + 1) _ s.out.length _ rfl (HOD.out.alloc _) _ 1 _ _ rfl (row_new1 _ _ _) (one_mem rfl) (by unfold maxLen; omega) (by omega) (by rw [sizeA]; omega) ?_; intro v' w5 hO5 hg5 hN5; obtain ⟨a5, c5, hv5, -, -⟩ := Row.of_owns hO5; subst hv5; have HN := Lib.hid (HSD.out.1.putOut (x := UInt8.ofNat x) HVD.out HOD.out HU.out (by rw [HX.out]; exact hO5) hg5 hN5); have hf5 : w5.frozen? ⟨rb, 3, none⟩ = false := frozen_of_row w5 rb 3 _ _ ((((Keeps.refl _ W).alloc _).grown hg5 (fun k hk => .inl hk)).obj HVD.out (fun e => by have := (HOD.out.lt rb e).1; omega)); have hc5 : w5.cell? ⟨rb, 3, none⟩ = some (.slice a0 s.out.length cap0) := (((Keeps.refl _ W).alloc _).grown hg5 (fun k hk => .inl hk)).cell d3 (fun e => by have := (HOD.out.lt rb e).1; omega); clear hO5 hg5 hN5)
      go_end0
      refine ⟨rfl, ?_⟩
      rw [HP.out]
      exact RNext.trans HSD.out.2 (fun _ h => .inl h) HN.out
  · have HP : Hid (putR most (UInt8.ofNat x) s = s) := Lib.hid (by unfold putR; rw [if_pos he])
    go_enter Try.func39, Try.ntmps39
    go_wp2_with fail
    refine bodyPost_ret (results_none rfl _ _ _) rfl ?_
    exact ⟨rfl, by rw [HP.out]; exact IsR.next ⟨HS.out, Keeps.refl _ _⟩⟩

set_option maxHeartbeats 2000000 in
theorem rcod_any {w : World} {U : Nat → Prop} {rb : Nat} {a : Option Addr} {c : Nat} {bs : List UInt8} {most : Nat} {s : IS} (h : IsR w U rb a c bs most s) {al : Option Addr} {n cap : Nat} {l : List Int} (hr : Row w 1 al n cap (l.map (Value.int .i64))) :
    Calls Try.prog 40 #[.pointer (some ⟨rb, 0, none⟩), .slice al n cap] w fun x w' => ∃ v, x = .returned v ∧ IsR w' U rb a c bs most (tabV l s) ∧ Keeps U w w' ∧ ((tabV l s).e = 0 → 0 ≤ roomV l ∧ w'.ownsRow w.heap.size 69 1 v n (fl n (cdV l n))) := by
  obtain ⟨-, -, c2, -, -, f2, -⟩ := h.cells
  have HS := Lib.hid h
  by_cases he : s.e = 0
  · rw [he] at c2
    by_cases hroom : roomV l < 0
    · have HN := Lib.hid (rcodes_bad al n cap l w hr hroom)
      have HV : Hid (tabV l s = failV 13 s) := Lib.hid (by unfold tabV failV; rw [if_neg (by simp [he]), if_pos hroom, if_pos he])
      have HNE := Lib.hid (failV_e (s := s) (e := 13) (by decide))
      have HF := Lib.hid (rfail_any HS.out 13)
      clear h hr hroom
      go_enter Try.func40, Try.ntmps40
      go_wp2_with fail
      refine HN.out.mono ?_
      rintro e w1 ⟨rfl, rfl⟩
      clear c2 f2
      go_wp2_with fail
      refine HF.out.mono ?_
      rintro e w2 ⟨rfl, h2, k2⟩
      have H2 := Lib.hid h2
      have K2 := Lib.hid k2
      clear h2 k2
      go_wp2
      go_ret
      exact ⟨_, rfl, by rw [HV.out]; exact H2.out, K2.out, fun h0 => absurd (by rw [HV.out] at h0; exact h0) HNE.out⟩
    · have HN := Lib.hid (rcodes_ok al n cap l w hr (by omega))
      have HV : Hid (tabV l s = s) := Lib.hid (by unfold tabV; rw [if_neg (by simp [he]), if_neg hroom])
      have HR := Lib.hid (show 0 ≤ roomV l by omega)
      clear h hr hroom
      go_enter Try.func40, Try.ntmps40
      go_wp2_with fail
      refine HN.out.mono ?_
      rintro e w1 ⟨v, rfl, hO, hb⟩
      obtain ⟨aC, cC, hv, -, -⟩ := Row.of_owns hO
      subst hv
      have HO := Lib.hid hO
      have HB := Lib.hid hb
      have HF := Lib.hid (rfail_any (HS.out.mono hb) 0)
      clear c2 f2 hO hb
      go_wp2_with fail
      refine HF.out.mono ?_
      rintro e w2 ⟨rfl, h2, k2⟩
      rw [failV_zero] at h2
      have H2 := Lib.hid h2
      have K2 := Lib.hid k2
      clear h2 k2
      go_wp2
      go_ret
      exact ⟨_, rfl, by rw [HV.out]; exact H2.out, (Keeps.any HB.out).trans K2.out (fun _ hb => .inl hb), fun _ => ⟨HR.out, owns_keeps HO.out K2.out (fun b hb hu => by have := (HO.out.lt b hb).1; have := HS.out.blt hu; omega)⟩⟩
  · have HV : Hid (tabV l s = s) := Lib.hid (by unfold tabV; rw [if_pos he])
    have HE := Lib.hid he
    clear h hr
    go_enter Try.func40, Try.ntmps40
    go_wp2
    go_ret
    exact ⟨_, rfl, by rw [HV.out]; exact HS.out, Keeps.refl _ _, fun h0 => absurd (by rw [HV.out] at h0; exact h0) HE.out⟩

/-- Lengths and their codes, as a symbol is taken by them. -/
structure CdR (w : World) (U : Nat → Prop) (al : Option Addr) (n cap : Nat) (vc : Value) (l : List Int) : Prop where
  room : 0 ≤ roomV l
  row : Row w 1 al n cap (l.map (Value.int .i64))
  cds : ∃ aC cC, vc = .slice aC n cC ∧ Row w 1 aC n cC (fl n (cdV l n)) ∧ ∀ x, aC = some x → x.block < w.heap.size ∧ ¬ U x.block
  at_ : ∀ x, al = some x → x.block < w.heap.size ∧ ¬ U x.block
theorem CdR.keeps {w w' : World} {U U' : Nat → Prop} {al : Option Addr} {n cap : Nat} {vc : Value} {l : List Int} (h : CdR w U al n cap vc l) (hk : Keeps U w w') (hU : ∀ b, U' b → U b ∨ w.heap.size ≤ b) : CdR w' U' al n cap vc l := by
  obtain ⟨h1, h2, ⟨aC, cC, h3, h4, h5⟩, h6⟩ := h
  have hs := hk.size
  have hh : ∀ b, b < w.heap.size ∧ ¬ U b → b < w'.heap.size ∧ ¬ U' b := fun b hb => ⟨by omega, fun hu => (hU b hu).elim hb.2 (fun h => by omega)⟩
  exact ⟨h1, h2.keeps hk (fun x hx => (h6 x hx).2), ⟨aC, cC, h3, h4.keeps hk (fun x hx => (h5 x hx).2), fun x hx => hh _ (h5 x hx)⟩, fun x hx => hh _ (h6 x hx)⟩
end Go.Proofs.Ytlmdgaajkjbpgaa
/-
  Walks of the reference of layer 5: symbols; a block of kind 0.
-/
namespace Go.Proofs.Ytlmdgaajkjbpgaa
open Go.RowKit Go.Sort

set_option maxRecDepth 20000 in
set_option maxHeartbeats 4000000 in
theorem rsym_any {w : World} {U : Nat → Prop} {rb : Nat} {a : Option Addr} {c : Nat} {bs : List UInt8} {most : Nat} {s : IS} (h : IsR w U rb a c bs most s) {al : Option Addr} {n cap : Nat} {l : List Int} (vc : Value) (hT : s.e = 0 → CdR w U al n cap vc l) (hsm : bs.length ≤ 1000000) :
    Calls Try.prog 41 #[.pointer (some ⟨rb, 0, none⟩), .slice al n cap, vc] w fun x w' => x = .returned (.int .i64 (symV5 bs l s).1) ∧ IsR w' U rb a c bs most (symV5 bs l s).2 ∧ Keeps U w w' := by
  obtain ⟨c0, c1, c2, -, f1, f2, -⟩ := h.cells
  have HS := Lib.hid h
  by_cases he : s.e = 0
  · rw [he] at c2
    obtain ⟨t1, t2, ⟨aC, cC, rfl, t4, t5⟩, t6⟩ := hT he
    have hle := h.le
    have hrow := bit_row h.row s.at_ (8 * bs.length - s.at_) (by omega)
    have hLc : 8 * bs.length ≤ c := h.row.2.1
    have hnil : a = none → c = 0 := h.row.2.2.2.1
    have hmx : c ≤ maxLen := h.row.2.2.1
    obtain ⟨L, hL⟩ : ∃ L, L = 8 * bs.length := ⟨_, rfl⟩
    have hV := takeV_le l (bitF bs s.at_) (8 * bs.length - s.at_)
    have HV0 := Lib.hid (show symV5 bs l s = ((takeV l (bitF bs s.at_) (8 * bs.length - s.at_)).1, { s with at_ := s.at_ + (takeV l (bitF bs s.at_) (8 * bs.length - s.at_)).2.1, e := (takeV l (bitF bs s.at_) (8 * bs.length - s.at_)).2.2 }) from by unfold symV5; rw [if_neg (by simp [he])])
    have htb := takeV_bl l bs false s.at_ (8 * bs.length - s.at_)
    rw [show (fun k => bitAt bs false (s.at_ + k)) = bitF bs s.at_ from rfl] at htb
    obtain ⟨at_, hat⟩ : ∃ at_, at_ = s.at_ := ⟨_, rfl⟩
    rw [← hat] at c1 hle hrow hV HV0 htb
    rw [← hL] at c0 hle hrow hLc hV HV0 htb
    have hrow2 : Row w 1 (if c = at_ then a else a.map fun x => x.add at_) (L - at_) (c - at_) ((bl bs false at_ (L - at_)).map Value.bool) := by
      by_cases hq : c = at_
      · rw [if_pos hq]
        have hn0 : L - at_ = 0 := by omega
        rw [hn0]
        exact ⟨rfl, Nat.zero_le _, by omega, fun e => by have := hnil e; omega, fun h => by omega⟩
      · rw [if_neg hq]; exact hrow
    have htk := fun (q : Nat) => take_any al aC _ n cap cC (L - at_) (c - at_) l (bl bs false at_ (L - at_)) (w.drewN q) (t2.mono (below_drewN5 (Below.refl _ _) q)) (t4.mono (below_drewN5 (Below.refl _ _) q)) (hrow2.mono (below_drewN5 (Below.refl _ _) q)) t1
    rw [htb] at htk
    obtain ⟨V, hVV⟩ : ∃ V, V = takeV l (bitF bs at_) (L - at_) := ⟨_, rfl⟩
    rw [← hVV] at hV HV0 htk
    obtain ⟨x, m, e⟩ := V
    dsimp only at hV HV0 htk
    have HTK := Lib.hid htk
    have HV := HV0
    obtain ⟨M, hM⟩ : ∃ M, M = at_ + m := ⟨_, rfl⟩
    rw [← hM] at HV
    have i2 : (at_ : Int) + (m : Int) = (M : Int) := by omega
    have i3 : IntKind.i64.wrap (M : Int) = (M : Int) := IntWalk.i64_in _ (by omega)
    have q2 : (at_ : Int) ≤ (L : Int) := by omega
    have q3 : (0 : Int) ≤ (at_ : Int) := by omega
    have q5 : at_ ≤ c := by omega
    have HSA := Lib.hid (fun (q : Nat) => ((HS.out.drewN q).1.setA M (by omega)))
    have HF := Lib.hid (fun (q : Nat) => rfail_any (HSA.out q).1 e)
    have HFV := Lib.hid (show failV e { s with at_ := M } = { s with at_ := M, e := e } from failV_set e _ he)
    clear h hT hL hat hrow hrow2 hVV hM HV0 htk htb t1 t2 t4 t5 t6 hV
    go_enter Try.func41, Try.ntmps41
    go_wp2_with fail
    go_quiet ((go_at_call 51; refine (HTK.out _).mono ?_; rintro e w' ⟨rfl, rfl⟩; exact ⟨rfl, _, rfl⟩))
    all_goals go_wp2_with fail
    all_goals
      refine (HF.out _).mono ?_
      rintro e2 w2 ⟨rfl, h2, k2⟩
      rw [HFV.out] at h2
      have H2 := Lib.hid h2
      have K2 := Lib.hid (((HS.out.drewN _).2.trans (HSA.out _).2 (fun _ hb => .inl hb)).trans k2 (fun _ hb => .inl hb))
      clear h2 k2
      go_wp2
      go_ret
      refine ⟨by rw [HV.out]; rfl, ?_⟩
      rw [HV.out]
      refine ⟨?_, K2.out⟩
      first
        | exact H2.out
        | (have hce : c = at_ := by assumption
           rw [← hce]; exact H2.out)
  · have HV : Hid (symV5 bs l s = (0, s)) := Lib.hid (by unfold symV5; rw [if_pos he])
    clear h hT
    go_enter Try.func41, Try.ntmps41
    go_wp2
    go_ret
    exact ⟨by rw [HV.out]; rfl, by rw [HV.out]; exact ⟨HS.out, Keeps.refl _ _⟩⟩
theorem sto_step {bs : List UInt8} {most n k : Nat} {s : IS} (he : s.e = 0) (hk : k < n) : stoL bs most (n - k) s = stoL bs most (n - (k + 1)) (putR most (UInt8.ofNat (numV bs 8 s).1) (numV bs 8 s).2) := by
  obtain ⟨m, hm⟩ : ∃ m, n - k = m + 1 := ⟨n - k - 1, by omega⟩
  rw [hm, show n - (k + 1) = m by omega, stoL, if_neg (by simp [he])]
  congr 1
  unfold putR
  by_cases h : (numV bs 8 s).2.e = 0
  · rw [if_pos h, if_neg (by simp [h])]
  · rw [if_neg h, if_pos h]
theorem putR_le {most : Nat} {c : UInt8} {s : IS} (h : s.out.length ≤ most) : (putR most c s).out.length ≤ most := by
  unfold putR
  split
  · exact h
  · exact putV5_le h

set_option maxRecDepth 20000 in
set_option maxHeartbeats 4000000 in
theorem rsto_any {w : World} {U : Nat → Prop} {rb : Nat} {a : Option Addr} {c : Nat} {bs : List UInt8} {most : Nat} {s : IS} (h : IsR w U rb a c bs most s) (hsm : bs.length ≤ 1000000) (hm : most ≤ 20000000) (ho : s.out.length ≤ most) :
    Calls Try.prog 24 #[.pointer (some ⟨rb, 0, none⟩)] w fun x w' => x = .returned (.tuple #[]) ∧ RNext w U rb a c bs most (storedV bs most s) w' := by
  obtain ⟨c0, c1, c2, c4, f1, f2, f3⟩ := h.cells
  have hle := h.le
  obtain ⟨q, hq⟩ : ∃ q, q = (s.at_ + 7) / 8 := ⟨_, rfl⟩
  obtain ⟨Q, hQ⟩ : ∃ Q, Q = q * 8 := ⟨_, rfl⟩
  have HA := Lib.hid (h.setA Q (by omega))
  have hal : ({ s with at_ := Q } : IS) = alV s := by rw [hQ, hq]; rfl
  rw [hal] at HA
  have HN1 := Lib.hid (rnum_any HA.out.1 16 (by omega) hsm)
  have HN2 := Lib.hid (fun (W : World) (hW : IsR W U rb a c bs most (numV bs 16 (alV s)).2) => rnum_any hW 16 (by omega) hsm)
  have l1 := numV_lt5 bs 16 (alV s)
  have l2 := numV_lt5 bs 16 (numV bs 16 (alV s)).2
  have ho2 : (numV bs 16 (numV bs 16 (alV s)).2).2.out.length ≤ most := by rw [numV_o, numV_o]; exact ho
  obtain ⟨SF, hSF⟩ : ∃ SF, SF = storedV bs most s := ⟨_, rfl⟩
  rw [← hSF]
  unfold storedV at hSF
  change Hid (Calls _ _ #[_, .int .i64 16] _ fun x w' => x = .returned (.int .i64 ((numV bs 16 (alV s)).1 : Nat)) ∧ IsR w' U rb a c bs most (numV bs 16 (alV s)).2 ∧ Keeps U _ w') at HN1
  change Hid (∀ W, _ → Calls _ _ #[_, .int .i64 16] W fun x w' => x = .returned (.int .i64 ((numV bs 16 (numV bs 16 (alV s)).2).1 : Nat)) ∧ IsR w' U rb a c bs most (numV bs 16 (numV bs 16 (alV s)).2).2 ∧ Keeps U W w') at HN2
  generalize numV bs 16 (numV bs 16 (alV s)).2 = x2 at *
  generalize numV bs 16 (alV s) = x1 at *
  obtain ⟨n1, s1⟩ := x1
  obtain ⟨m1, s2⟩ := x2
  dsimp only at *
  have i1 : IntKind.i64.wrap ((s.at_ : Int) + 7) = (s.at_ : Int) + 7 := IntWalk.i64_in _ (by omega)
  have hq1 : ((s.at_ : Int) + 7) / 8 = (q : Int) := by omega
  have hq2 : ((s.at_ : Int) + 7).tdiv 8 = (q : Int) := by rw [Int.tdiv_eq_ediv_of_nonneg (by omega)]; exact hq1
  have i2 : IntKind.i64.wrap (q : Int) = (q : Int) := IntWalk.i64_in _ (by omega)
  have i3 : (q : Int) * 8 = (Q : Int) := by omega
  have i4 : IntKind.i64.wrap (Q : Int) = (Q : Int) := IntWalk.i64_in _ (by omega)
  have i5 : IntKind.i64.wrap (65535 - (n1 : Int)) = 65535 - (n1 : Int) := IntWalk.i64_in _ (by omega)
  have HSF := Lib.hid hSF
  have HO2 := Lib.hid ho2
  clear h hle hq hQ hal hSF ho2 ho
  go_enter Try.func24, Try.ntmps24
  go_wp2_with fail
  refine HN1.out.mono ?_
  rintro e w1 ⟨rfl, p1, k1⟩
  have HN2 := Lib.hid (HN2.out _ p1)
  have HK1 := Lib.hid (HA.out.2.trans k1 (fun _ hb => .inl hb))
  clear p1 k1 c0 c1 c2 c4 f1 f2 f3
  go_wp2_with fail
  refine HN2.out.mono ?_
  rintro e w2 ⟨rfl, p2, k2⟩
  have HK2 := Lib.hid (HK1.out.trans k2 (fun _ hb => .inl hb))
  have HS2 := Lib.hid p2
  obtain ⟨c0, c1, c2, c4, f1, f2, f3⟩ := p2.cells
  clear p2 k2 i1 hq1 hq2 i2 i3 i4 HN1 HN2 HK1 HA
  go_upto_region 3 with fail
  go_cut [2, 30] from 6 (fun v2 v30 wx => v2 = .int .i64 n1 ∧ (∃ q : Bool, v30 = .bool q ∧ Hid (q = true ↔ (s2.e = 0 ∧ ¬ m1 + n1 = 65535))) ∧ w2 = wx)
  case first =>
    by_cases he : s2.e = 0
    · rw [he] at c2
      by_cases hs : m1 + n1 = 65535
      · have hne : ((m1 : Int) != 65535 - (n1 : Int)) = false := by rw [bne_eq_false_iff_eq]; omega
        have hmm : (m1 : Int) = 65535 - (n1 : Int) := by omega
        clear hmm
        go_wp2_with fail
        all_goals go_meet
        all_goals exact ⟨rfl, ⟨false, rfl, Lib.hid (by simp [hs])⟩, rfl⟩
      · have hne : ((m1 : Int) != 65535 - (n1 : Int)) = true := by rw [bne_iff_ne]; omega
        go_wp2_with fail
        all_goals go_meet
        all_goals exact ⟨rfl, ⟨true, rfl, Lib.hid (by simp [he, hs])⟩, rfl⟩
    · have hb : (s2.e == 0) = false := by rw [beq_eq_false_iff_ne]; exact he
      go_wp2_with fail
      all_goals go_meet
      all_goals exact ⟨rfl, ⟨false, rfl, Lib.hid (by simp [he])⟩, rfl⟩
  case rest =>
    obtain ⟨rfl, ⟨q, rfl, HQ⟩, rfl⟩ := hcut
    go_upto_if 30 with fail
    obtain ⟨S3, hS3⟩ : ∃ S3, S3 = (if m1 + n1 = 65535 then s2 else failV 11 s2) := ⟨_, rfl⟩
    have hsf := HSF.out
    rw [← hS3] at hsf
    have HSF2 := Lib.hid hsf
    have HS3 := Lib.hid hS3
    have HO3 := Lib.hid (show S3.out.length ≤ most by rw [hS3]; split; exact HO2.out; rw [failV_o]; exact HO2.out)
    clear hsf hS3 HSF
    go_cut [2] from 6 (fun v2 wx => v2 = .int .i64 n1 ∧ Hid (IsR wx U rb a c bs most S3 ∧ Keeps U w wx))
    case first =>
      cases q with
      | true =>
        have HF := Lib.hid (rfail_any HS2.out 11)
        go_wp2_with fail
        refine HF.out.mono ?_
        rintro e w3 ⟨rfl, h3, k3⟩
        have HH := Lib.hid (show IsR w3 U rb a c bs most S3 ∧ Keeps U w w3 from ⟨by rw [HS3.out, if_neg (show s2.e = 0 ∧ ¬ m1 + n1 = 65535 by simpa using HQ.out).2]; exact h3, HK2.out.trans k3 (fun _ hb => .inl hb)⟩)
        clear h3 k3
        go_wp2_with fail
        all_goals go_meet
        all_goals exact ⟨rfl, HH⟩
      | false =>
        have hs3 : S3 = s2 := by
          rw [HS3.out]
          split
          · rfl
          · rename_i hn
            have hz : s2.e ≠ 0 := fun h => by have := HQ.out.2 ⟨h, hn⟩; cases this
            unfold failV; rw [if_neg hz]
        have HH := Lib.hid (show IsR w2 U rb a c bs most S3 ∧ Keeps U w w2 from ⟨by rw [hs3]; exact HS2.out, HK2.out⟩)
        clear hs3
        go_wp2_with fail
        all_goals go_meet
        all_goals exact ⟨rfl, HH⟩
    case rest =>
      clear c0 c1 c2 c4 f1 f2 f3 HQ HS2 HK2 HS3 HO2 i5
      obtain ⟨rfl, HX⟩ := hcut
      go_wp2
      go_loopw [4] (fun v4 wr => ∃ (k : Nat) (U1 : Nat → Prop) (s4 : IS), v4 = .int .i64 k ∧ k ≤ n1 ∧ Hid (IsR wr U1 rb a c bs most s4) ∧ Hid (Keeps U w wr) ∧ Hid (∀ b, U1 b → U b ∨ w.heap.size ≤ b) ∧ Hid (s4.out.length ≤ most) ∧ Hid (SF = stoL bs most (n1 - k) s4)) (fun v4 _ => n1 - (intOf v4).toNat)
      case atStart => exact ⟨0, U, S3, rfl, Nat.zero_le _, Lib.hid HX.out.1, Lib.hid HX.out.2, Lib.hid (fun _ hb => .inl hb), HO3, HSF2⟩
      case round =>
        obtain ⟨k, U1, s4, rfl, hk, HS, HK, HU, HO, HF⟩ := hrel
        obtain ⟨c0, c1, c2, c4, f1, f2, f3⟩ := HS.out.cells
        clear HX HO3 HSF2
        by_cases hlt : k < n1
        · by_cases he : s4.e = 0
          · rw [he] at c2
            have hst := HF.out
            rw [sto_step he hlt] at hst
            have hn := rnum_any HS.out 8 (by omega) hsm
            have hx := numV_lt5 bs 8 s4
            have ho := numV_o bs 8 s4
            rw [show ((8 : Nat) : Int) = 8 from rfl] at hn
            generalize numV bs 8 s4 = x3 at *
            obtain ⟨x, s5⟩ := x3
            dsimp only at *
            have HN := Lib.hid hn
            have HST := Lib.hid hst
            have HO5 := Lib.hid (show s5.out.length ≤ most by rw [ho]; exact HO.out)
            clear hn hst ho he
            go_wp2_with fail
            refine HN.out.mono ?_
            rintro e w3 ⟨rfl, p3, k3⟩
            have HPU := Lib.hid (rput_any p3 x (by omega) (by have := HO5.out; omega))
            have HK3 := Lib.hid (HK.out.trans k3 HU.out)
            clear p3 k3 c0 c1 c2 c4 f1 f2 f3
            go_wp2_with fail
            refine HPU.out.mono ?_
            rintro e w4 ⟨rfl, U2, z1, z2, z3⟩
            have HS4 := Lib.hid z1
            have HK4 := Lib.hid (HK3.out.trans z2 HU.out)
            have HU4 := Lib.hid (show ∀ b, U2 b → U b ∨ w.heap.size ≤ b from fun b hb => (z3 b hb).elim (HU.out b) (fun h => by have := HK3.out.size; exact .inr (by omega)))
            clear z1 z2 z3
            go_wp2
            go_roundw
            case rel => exact ⟨k + 1, U2, _, by go_num, by omega, HS4, HK4, HU4, Lib.hid (putR_le HO5.out), HST⟩
            case measure => simp [intOf]; omega
          · have HFF := Lib.hid (show RNext w U rb a c bs most SF wr from by rw [HF.out, sto_e he]; exact ⟨U1, HS.out, HK.out, HU.out⟩)
            go_wp2
            go_end0
            exact ⟨rfl, HFF.out⟩
        · obtain rfl : k = n1 := by omega
          have HFF := Lib.hid (show RNext w U rb a c bs most SF wr from by rw [HF.out, Nat.sub_self]; exact ⟨U1, HS.out, HK.out, HU.out⟩)
          go_wp2
          go_end0
          exact ⟨rfl, HFF.out⟩
end Go.Proofs.Ytlmdgaajkjbpgaa
