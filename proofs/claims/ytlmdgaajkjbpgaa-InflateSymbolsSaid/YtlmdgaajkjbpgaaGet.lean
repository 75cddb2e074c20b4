/-
  Walks of layer 1: the reader's next number.
-/
import Derived.Test.YtlmdgaajkjbpgaaBits
import Derived.Test.YtlmdgaajkjbpgaaSortB
namespace Go.Proofs.Ytlmdgaajkjbpgaa
open Go.RowKit

def bitAt (bs : List UInt8) (high : Bool) (i : Nat) : Bool := (bs.getD (i / 8) 0).toNat / 2 ^ maskE i high % 2 == 1

/-- The number of k bits out of n, so far. -/
def getV (f : Nat → Bool) (high : Bool) (n : Nat) : Nat → Nat
  | 0 => 0
  | k + 1 => getV f high n k + if f k then 2 ^ turnN k n high else 0

theorem getV_low (f : Nat → Bool) (n : Nat) : ∀ k, getV f false n k < 2 ^ k
  | 0 => by simp [getV]
  | k + 1 => by
    have := getV_low f n k
    simp only [getV, turnN, Nat.pow_succ]
    split <;> simp <;> omega
theorem getV_high (f : Nat → Bool) (n : Nat) : ∀ k, k ≤ n → getV f true n k % 2 ^ (n - k) = 0 ∧ getV f true n k + 2 ^ (n - k) ≤ 2 ^ n
  | 0, _ => by simp [getV]
  | k + 1, h => by
    obtain ⟨h1, h2⟩ := getV_high f n k (by omega)
    have e : n - k = (n - (k + 1)) + 1 := by omega
    have e2 : n - 1 - k = n - (k + 1) := by omega
    rw [e, Nat.pow_succ] at h1 h2
    have hp : 0 < 2 ^ (n - (k + 1)) := Nat.pow_pos (by omega)
    have hd : 2 ^ (n - (k + 1)) ∣ getV f true n k := Nat.dvd_trans (Nat.dvd_mul_right _ 2) (Nat.dvd_of_mod_eq_zero h1)
    simp only [getV, turnN, if_true, e2]
    generalize 2 ^ (n - (k + 1)) = p at *
    split
    · exact ⟨Nat.mod_eq_zero_of_dvd ((Nat.dvd_add_right hd).2 (Nat.dvd_refl _)), by omega⟩
    · exact ⟨Nat.mod_eq_zero_of_dvd (by simpa using hd), by omega⟩
theorem getV_lt (f : Nat → Bool) (high : Bool) (n k : Nat) (h : k ≤ n) : getV f high n k < 2 ^ n := by
  cases high
  · exact Nat.lt_of_lt_of_le (getV_low f n k) (Nat.pow_le_pow_right (by omega) h)
  · have := (getV_high f n k h).2
    have hp : 0 < 2 ^ (n - k) := Nat.pow_pos (by omega)
    omega
theorem getV_or (f : Nat → Bool) (high : Bool) (n k : Nat) (h : k < n) : getV f high n k ||| 2 ^ turnN k n high = getV f high n k + 2 ^ turnN k n high := by
  cases high
  · have hl := getV_low f n k
    simp only [turnN]
    rw [Nat.or_comm, if_neg (by simp), nat_join k _ _ (Nat.mod_self _) hl]; omega
  · obtain ⟨h1, h2⟩ := getV_high f n k (by omega)
    have e : n - k = (n - 1 - k) + 1 := by omega
    rw [e] at h1
    simp only [turnN, if_true]
    exact nat_join (n - 1 - k + 1) _ _ h1 (Nat.pow_lt_pow_right (by omega) (by omega))

/-- A callee that turns nothing, met in a region that draws. -/
theorem quiet_eq {P : Program} {f : FuncId} {args : Array Value} {w : World} {n : Nat} {v : Value}
    (h : Calls P f args (w.drewN n) fun e w' => e = .returned v ∧ w.drewN n = w') : Calls P f args (w.drewN n) fun e w'' => e = .returned v ∧ ∃ m, w'' = w.drewN m :=
  h.mono fun _ _ ⟨he, hm⟩ => ⟨he, n, hm.symm⟩

/-- A row that lies in another block than the one that was written reads as it did. -/
theorem Row.kept {w w' : World} {r sz : Nat} {a : Option Addr} {n cap : Nat} {xs : List Value} (h : Row w sz a n cap xs) (hg : w.grownBy w' (some r)) (hne : ∀ x, a = some x → x.block ≠ r) : Row w' sz a n cap xs := by
  obtain ⟨h1, h2, h3, h4, h5⟩ := h
  refine ⟨h1, h2, h3, h4, fun hn => ?_⟩
  obtain ⟨b, off, ha, hlt, hc⟩ := h5 hn
  exact ⟨b, off, ha, Nat.lt_of_lt_of_le hlt hg.size, fun j u hj => hg.cell (hc j u hj) (by have := hne _ ha; simpa using this)⟩

theorem pow32 {n : Nat} (h : n ≤ 32) : 2 ^ n ≤ 4294967296 := Nat.pow_le_pow_right (n := 2) (by omega) h

theorem or_pow (g t : Nat) (hg : g < 4294967296) (ht : t < 32) (h : g ||| 2 ^ t = g + 2 ^ t) : bits .or .u32 (g : Int) ((2 : Int) ^ t % 4294967296) = ((g + 2 ^ t : Nat) : Int) := by
  have hp : 2 ^ t < 4294967296 := Nat.lt_of_lt_of_le (Nat.pow_lt_pow_right (by omega) ht) (by omega)
  have e : (2 : Int) ^ t % 4294967296 = ((2 ^ t : Nat) : Int) := by
    have e2 : (2 : Int) ^ t = ((2 ^ t : Nat) : Int) := by simp
    rw [e2]
    generalize 2 ^ t = q at *
    omega
  rw [e, u32_or_nat _ _ hg hp, h]

theorem rbit_test (x s : Nat) (hx : x < 256) (hs : s < 8) : bits .and .u8 (x : Int) ((2 ^ s : Nat) : Int) = if x / 2 ^ s % 2 == 1 then ((2 ^ s : Nat) : Int) else 0 := by
  have hp : 2 ^ s < 256 := Nat.lt_of_lt_of_le (Nat.pow_lt_pow_right (by omega) hs) (by omega)
  rw [u8_and_nat x (2 ^ s) hx hp, nat_bit]
  have hm : x / 2 ^ s % 2 = 0 ∨ x / 2 ^ s % 2 = 1 := by omega
  rcases hm with h | h <;> simp [h]

set_option maxHeartbeats 1000000 in
theorem get_ok (r n : Nat) (bs : List UInt8) (high : Bool) (at_ : Nat) (w : World) (h : IsRd w r bs high at_) (hn : n ≤ 32) (hle2 : at_ + n ≤ 8 * bs.length) :
    Calls Try.prog 43 #[.pointer (some ⟨r, 0, none⟩), .int .i64 n] w fun e w' => e = .returned (.tuple #[.int .u32 (getV (fun k => bitAt bs high (at_ + k)) high n n : Nat), .int .i64 0]) ∧ IsRd w' r bs high (at_ + n) ∧ w.grownBy w' (some r) := by
  have hdead := rdead_any r bs high at_ w h
  have hleft := left_any r bs high at_ w h
  obtain ⟨⟨a, cap, hb, hr, hne⟩, hle, hsm⟩ := h
  have HD := Lib.hid hdead
  have HL := Lib.hid hleft
  have HB := Lib.hid hb
  have HR := Lib.hid hr
  have HNL := Lib.hid hne
  have HN := Lib.hid (show ∀ x, a = some x → x.block ≠ r from fun x hx => Nat.ne_of_lt (hne x hx))
  have hN : decide (8 * bs.length - at_ < n) = false := by simp; omega
  have hN1 : decide ((n : Int) < 0) = false := by simp
  have hN2 : decide (32 < (n : Int)) = false := by simp; omega
  clear hdead hleft hb hr hne
  go_enter Try.func43, Try.ntmps43
  go_wp2_with (first
    | (go_at_call 36; refine HD.out.mono ?_; rintro e w' ⟨rfl, rfl⟩)
    | (go_at_call 52; refine HL.out.mono ?_; rintro e w' ⟨rfl, q1, rfl⟩))
  go_loopw [6, 24] (fun x i wr => ∃ k : Nat, k ≤ n ∧ i = .int .i64 k ∧ x = .int .u32 (getV (fun k => bitAt bs high (at_ + k)) high n k : Nat) ∧
      Hid (wr.heap[r]? = some (.cells (fl 4 (fun i => if i = 0 then .int .i64 ((at_ + k : Nat) : Int) else if i = 1 then .bool high else if i = 2 then .bool true else .slice a bs.length cap)).toArray 61 (0, 0))) ∧ Hid (w.grownBy wr (some r))) (fun _ i _ => n - (intOf i).toNat)
  case atStart => exact ⟨0, by omega, rfl, rfl, HB, ⟨rfl, rfl, rfl, Nat.le_refl _, fun _ _ _ => rfl⟩⟩
  case round =>
    obtain ⟨k, hk, rfl, rfl, HBk, HG⟩ := hrel
    by_cases hlt : k < n
    · have h0 := blk_cell HBk.out 0 (by omega)
      have h1 := blk_cell HBk.out 1 (by omega)
      have h3 := blk_cell HBk.out 3 (by omega)
      have hfr := blk_free HBk.out 0
      simp only [if_pos, Nat.reduceEqDiff, if_false] at h0 h1 h3
      obtain ⟨b, off, rfl, hblt, hc⟩ := HR.out.at 0 ((at_ + k) / 8) (by omega)
      have hck := hc ((at_ + k) / 8) (by omega)
      have hbr : b ≠ r := by have := HN.out ⟨b, off, none⟩ rfl; simpa using this
      have hck2 : wr.cell? ⟨b, off + (at_ + k) / 8, none⟩ = some (.int .u8 ((bs.getD ((at_ + k) / 8) 0).toNat : Int)) := HG.out.cell hck (by simpa using hbr)
      obtain ⟨x, hx⟩ : ∃ x, x = (bs.getD ((at_ + k) / 8) 0).toNat := ⟨_, rfl⟩
      rw [← hx] at hck2
      have hx2 : x < 256 := by rw [hx]; exact (bs.getD ((at_ + k) / 8) 0).toNat_lt
      have hbt := rbit_test x (maskE (at_ + k) high) hx2 (maskE_lt _ _)
      have hbA : bitAt bs high (at_ + k) = (x / 2 ^ maskE (at_ + k) high % 2 == 1) := by unfold bitAt; rw [← hx]
      have HX := Lib.hid hx
      have HBA := Lib.hid hbA
      clear hc hck hx hbA
      have hpos : 0 < 2 ^ maskE (at_ + k) high := Nat.pow_pos (by omega)
      by_cases hbit : (x / 2 ^ maskE (at_ + k) high % 2 == 1) = true
      · rw [if_pos hbit] at hbt
        have htest : (bits BinOp.and IntKind.u8 (x : Int) (maskV (at_ + k) high) != 0) = true := by
          unfold maskV; rw [hbt]; rw [bne_iff_ne]; omega
        have HBT := Lib.hid (show bitAt bs high (at_ + k) = true by rw [HBA.out]; exact hbit)
        clear hbt hbit hpos
        have hor := Lib.hid (getV_or (fun k => bitAt bs high (at_ + k)) high n k hlt)
        have hgl := Lib.hid <| getV_lt (fun k => bitAt bs high (at_ + k)) high n k hk
        have ht32 : turnN k n high < 32 := by unfold turnN; split <;> omega
        go_wp2
        go_quiet ((go_at_call 53; refine quiet_eq (mask_any r 0 (at_ + k) high _ (by simpa using h0) (by simpa using h1))))
        go_wp2_with (go_at_call 54; refine (turn_any r 0 k n high _ (by simpa using h1) hlt hn).mono ?_; rintro e w' ⟨rfl, rfl⟩)
        go_roundw
        case rel =>
          refine ⟨k + 1, by omega, by go_num, ?_, ?_, ?_⟩
          · have e : getV (fun k => bitAt bs high (at_ + k)) high n (k + 1) = getV (fun k => bitAt bs high (at_ + k)) high n k + 2 ^ turnN k n high := by
              simp [getV, HBT.out]
            rw [e, or_pow _ _ (Nat.lt_of_lt_of_le hgl.out (pow32 hn)) ht32 hor.out]
          · refine Lib.hid ?_
            have hs := blk_set (w := wr.drewN nq) HBk.out 0 (Value.int IntKind.i64 ((at_ : Int) + k + 1))
            rw [hs]
            exact congrArg (fun x => some (Obj.cells (List.toArray x) _ _)) (fl_congr fun i _ => by
              by_cases hi : i = 0
              · subst hi; simp; omega
              · simp [hi])
          · exact Lib.hid (grownBy_setCell (grownBy_drewN HG.out nq) _)
        case measure => simp [intOf]; omega
      · rw [if_neg hbit] at hbt
        have htest : (bits BinOp.and IntKind.u8 (x : Int) (maskV (at_ + k) high) != 0) = false := by
          unfold maskV; rw [hbt]; rfl
        have HBT := Lib.hid (show bitAt bs high (at_ + k) = false by rw [HBA.out]; simpa using hbit)
        clear hbt hbit hpos
        go_wp2
        go_quiet ((go_at_call 53; refine quiet_eq (mask_any r 0 (at_ + k) high _ (by simpa using h0) (by simpa using h1))))
        go_wp2
        go_roundw
        case rel =>
          refine ⟨k + 1, by omega, by go_num, ?_, ?_, ?_⟩
          · have : getV (fun k => bitAt bs high (at_ + k)) high n (k + 1) = getV (fun k => bitAt bs high (at_ + k)) high n k := by
              simp [getV, HBT.out]
            rw [this]
          · refine Lib.hid ?_
            have hs := blk_set (w := wr.drewN nq) HBk.out 0 (Value.int IntKind.i64 ((at_ : Int) + k + 1))
            rw [hs]
            exact congrArg (fun x => some (Obj.cells (List.toArray x) _ _)) (fl_congr fun i _ => by
              by_cases hi : i = 0
              · subst hi; simp; omega
              · simp [hi])
          · exact Lib.hid (grownBy_setCell (grownBy_drewN HG.out nq) _)
        case measure => simp [intOf]; omega
    · obtain rfl : k = n := by omega
      go_wp2
      go_ret2
      exact ⟨rfl, ⟨⟨a, cap, HBk.out, HR.out.kept HG.out HN.out, HNL.out⟩, by omega, hsm⟩, HG.out⟩
end Go.Proofs.Ytlmdgaajkjbpgaa
