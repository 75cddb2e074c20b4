/-
  Our texts Huff4 to New, in one.
-/
import Derived.Test.YtlmdgaajkjbpgaaPkI2
import Derived.Test.YtlmdgaajkjbpgaaProg
import Derived.BigQuiet
import Derived.Deep.QuietTactic
import Derived.Deep.RegionHeld3
/-
  Walks of layer 4: the reference's codes are those of the program.
-/
namespace Go.Proofs.Ytlmdgaajkjbpgaa
open Go.RowKit

/-- What the reference has laid down when it is at lengths m, at symbol k. -/
def rdV (l : List Int) (m k i : Nat) : Value := .int .u32 (if 0 < l.getD i 0 ∧ (l.getD i 0 < (m : Int) ∨ l.getD i 0 = (m : Int) ∧ i < k) then codeAt l i else 0)

set_option maxHeartbeats 800000 in
theorem rcodes_ok (a : Option Addr) (n cap : Nat) (l : List Int) (w : World) (hr : Row w 1 a n cap (l.map (Value.int .i64))) (hroom : 0 ≤ roomV l) :
    Calls Try.prog 50 #[.slice a n cap] w fun e w' => ∃ v, e = .returned (.tuple #[v, .int .i64 0]) ∧ w'.ownsRow w.heap.size 69 1 v n (fl n (cdV l n)) ∧ Below w.heap.size w w' := by
  have hm := hr.i64
  have hl := hr.len1
  have hok1 := (roomV_ok hroom).2.2.1
  have hlen := (roomV_ok hroom).2.1
  have h15 := hok_mem hok1
  have hn : n ≤ 320 := by omega
  have hd : decide (0 ≤ roomV l) = true := by simpa using hroom
  have HL := Lib.hid hl
  have HR := Lib.hid hroom
  have H15 := Lib.hid h15
  clear hl hroom h15 hok1
  go_enter Try.func50, Try.ntmps50
  go_wp2_with (first
    | (go_at_call 62; refine (may_any _ _ _ l _ hr).mono ?_; rintro e w' ⟨rfl, rfl⟩)
    | (at_make; refine make_full EU32 rfl (.tmp 12) (.tmp 12) rfl .i64 .i64 _ _ n rfl rfl rfl rfl (by omega) (by unfold maxLen; omega) ?_; intro w4 hown hb4; have HO := Lib.hid (own_congr hown (made_fl _ n)); clear hown))
  have hgeG := Nat.le_refl w.heap.size
  generalize hG : w.heap.size = G at HO hgeG
  have HG := Lib.hid hG
  clear hG hgeG
  go_loopw [5, 6] (fun c i wr => ∃ j : Nat, j ≤ 15 ∧ i = .int .i64 (j + 1 : Nat) ∧ c = .int .u32 (fcode (cn l) j + cn l j) ∧ wr.ownsRow G 69 1 (.slice (some ⟨G, 0, none⟩) n n) n (fl n (rdV l (j + 1) 0)) ∧ Below G w wr) (fun _ i _ => 16 - (intOf i).toNat)
  case atStart =>
    refine ⟨0, by omega, rfl, by simp [fcode, cn], own_congr HO.out (fl_congr fun i _ => ?_), by rw [← HG.out]; exact hb4⟩
    unfold rdV
    rw [if_neg (by omega)]
  case round =>
    obtain ⟨j, hj, rfl, rfl, hO, hbel⟩ := hrel
    clear HO hb4
    have HO := Lib.hid hO
    clear hO
    have hft := fcode_top HR.out j hj
    have hpw := pow_le_15 hj
    have hcb := cn_bd l j
    by_cases hlt : j < 15
    · go_wp2
      go_loopw [5, 7] (fun c i wr => ∃ k : Nat, k ≤ n ∧ i = .int .i64 k ∧ c = .int .u32 (fcode (cn l) (j + 1) + cn (l.take k) (j + 1)) ∧ wr.ownsRow G 69 1 (.slice (some ⟨G, 0, none⟩) n n) n (fl n (rdV l (j + 1) k)) ∧ Below G w wr) (fun _ i _ => n - (intOf i).toNat)
      case atStart => exact ⟨0, by omega, rfl, by simp [fcode, cn]; omega, HO.out, hbel⟩
      case round =>
        obtain ⟨k, hk, rfl, rfl, hO, hbel2⟩ := hrel
        clear HO hbel
        have HO := Lib.hid hO
        clear hO
        have hft1 := fcode_top HR.out (j + 1) (by omega)
        have hpw1 := pow_le_15 (n := j + 1) (by omega)
        have hcb1 := cn_bd (l.take k) (j + 1)
        have hct := cn_take_le l k (j + 1)
        by_cases hkn : k < n
        · obtain ⟨b, off, rfl, hb, hc⟩ := (hr.mono (by rw [HG.out]; exact hbel2)).at 0 k hkn
          have hck := hc k hkn
          have hkl : k < l.length := by rw [HL.out]; exact hkn
          have ht := take_snoc 0 l k hkl
          have hx15 := H15.out (l.getD k 0) (by simp [List.getD, hkl])
          have hcl := fun hp : l.getD k 0 = ((j + 1 : Nat) : Int) => cn_lt (m := j + 1) hkl (by omega) hp
          have hcA : codeAt l k = if 0 < l.getD k 0 then fcode (cn l) (l.getD k 0).toNat + cn (l.take k) (l.getD k 0).toNat else 0 := rfl
          obtain ⟨x, hx⟩ : ∃ x, x = l.getD k 0 := ⟨_, rfl⟩
          rw [← hx] at hck ht hx15 hcl hcA
          have HT := Lib.hid ht
          have HC := Lib.hid hcA
          have HX := Lib.hid hx
          clear hc ht hx hcA
          by_cases he : x = ((j + 1 : Nat) : Int)
          · have hcl' := hcl he
            have heq : (x == (j : Int) + 1) = true := by simp; omega
            have HE := Lib.hid he
            clear hcl he
            have hcell2 := own_cell HO.out k hkn
            have hfree2 := HO.out.frozenAt k
            go_wp2
            go_roundw
            case rel =>
              have he := HE.out
              refine ⟨k + 1, by omega, by go_num, ?_, own_congr (own_set HO.out k _) (fl_congr fun i _ => ?_), hbel2.setCell (by simp) _⟩
              · rw [HT.out, cn_snoc _ _ _ hx15.1, if_pos (by omega)]; go_num
              · unfold rdV
                by_cases hi : i = k
                · subst hi
                  rw [if_pos rfl, ← HX.out, if_pos ⟨by omega, .inr ⟨he, by omega⟩⟩, HC.out, if_pos (by omega), he]
                  rfl
                · have : (i < k) = (i < k + 1) := by simp; omega
                  simp [hi, this]
            case measure => simp [intOf]; omega
          · have heq : (x == (j : Int) + 1) = false := by simp; omega
            have HE := Lib.hid he
            clear hcl he
            go_wp2
            go_roundw
            case rel =>
              have he := HE.out
              refine ⟨k + 1, by omega, by go_num, ?_, own_congr HO.out (fl_congr fun i _ => ?_), hbel2⟩
              · rw [HT.out, cn_snoc _ _ _ hx15.1, if_neg (by omega)]; go_num
              · unfold rdV
                by_cases hi : i = k
                · subst hi
                  rw [← HX.out]
                  have e : (0 < x ∧ (x < ((j + 1 : Nat) : Int) ∨ x = ((j + 1 : Nat) : Int) ∧ i < i)) = (0 < x ∧ (x < ((j + 1 : Nat) : Int) ∨ x = ((j + 1 : Nat) : Int) ∧ i < i + 1)) := by
                    simp only [eq_iff_iff]; omega
                  simp only [e]
                · have : (i < k) = (i < k + 1) := by simp; omega
                  simp [this]
            case measure => simp [intOf]; omega
        · obtain rfl : k = n := by omega
          have hT : l.take k = l := by rw [← HL.out]; exact List.take_length
          rw [hT] at *
          clear hT
          go_wp2
          go_roundw
          case rel =>
            refine ⟨j + 1, by omega, by go_num, rfl, own_congr HO.out (fl_congr fun i hi => ?_), hbel2⟩
            unfold rdV
            have e : (0 < l.getD i 0 ∧ (l.getD i 0 < ((j + 1 : Nat) : Int) ∨ l.getD i 0 = ((j + 1 : Nat) : Int) ∧ i < k)) = (0 < l.getD i 0 ∧ (l.getD i 0 < ((j + 1 + 1 : Nat) : Int) ∨ l.getD i 0 = ((j + 1 + 1 : Nat) : Int) ∧ i < 0)) := by
              simp only [eq_iff_iff]; omega
            simp only [e]
          case measure => simp [intOf]; omega
    · obtain rfl : j = 15 := by omega
      go_wp2
      go_ret2
      refine ⟨_, rfl, ?_, by rw [HG.out]; exact hbel⟩
      rw [HG.out]
      refine own_congr HO.out (fl_congr fun i hi => ?_)
      unfold rdV cdV
      have hx15 := H15.out (l.getD i 0) (by simp [List.getD, show i < l.length by rw [HL.out]; exact hi])
      by_cases hp : 0 < l.getD i 0
      · rw [if_pos ⟨hp, .inl (by omega)⟩, if_pos hi]
      · rw [if_neg (by omega), if_pos hi]
        unfold codeAt
        rw [if_neg hp]

theorem rcodes_bad (a : Option Addr) (n cap : Nat) (l : List Int) (w : World) (hr : Row w 1 a n cap (l.map (Value.int .i64))) (hroom : roomV l < 0) :
    Calls Try.prog 50 #[.slice a n cap] w fun e w' => e = .returned (.tuple #[.slice none 0 0, .int .i64 13]) ∧ w = w' := by
  have hd : decide (0 ≤ roomV l) = false := by simpa using hroom
  go_enter Try.func50, Try.ntmps50
  go_wp2_with (first
    | (go_at_call 62; refine (may_any _ _ _ l _ hr).mono ?_; rintro e w' ⟨rfl, rfl⟩))
  go_ret2
  exact ⟨rfl, rfl⟩
end Go.Proofs.Ytlmdgaajkjbpgaa
/-
  slices.Clone at []int, []byte: the same cells in memory of the call's own.
-/
namespace Go.Proofs.Ytlmdgaajkjbpgaa
open Go.RowKit

theorem ETI : ElemT Try.prog 32 3 (.int .i64 0) 1 8 := ⟨Try.underlying32, by kernel_rfl, rfl, by omega⟩

theorem cloneI (a : Option Addr) (n cap : Nat) (xs : List Value) (w : World) (hr : Row w 1 a n cap xs) (h1 : ∀ u ∈ xs, u.oneCell' = true) (hby : n * 8 ≤ 140737488355328) :
    Calls Try.prog 57 #[.slice a n cap] w fun e w' => ∃ v, e = .returned v ∧ w'.ownsRow w.heap.size 3 1 v n xs ∧ Below w.heap.size w w' ∧ NN a v := by
  rcases a with _ | ad
  · obtain ⟨r1, r2, r3, r4, r5⟩ := hr
    obtain rfl := r4 rfl
    obtain rfl : n = 0 := by omega
    obtain rfl : xs = [] := List.eq_nil_of_length_eq_zero (by simpa using r1)
    have hnil := fun W : World => Lib.run_eql_slice_nil (P := Try.prog) W 32 3 none 0 0 0 0 Try.underlying32
    go_enter Try.func57, Try.ntmps57
    go_wp2
    go_ret
    exact ⟨_, rfl, World.ownsRow_nil _ _ _ _, Below.refl _ _, fun h => absurd rfl h⟩
  · have hm : n ≤ maxLen := Nat.le_trans hr.2.1 hr.2.2.1
    have hnil := fun W : World => Lib.run_eql_slice_nil (P := Try.prog) W 32 3 (some ad) n cap 0 0 Try.underlying32
    have HR := Lib.hid (hr.mono (belowA w (.cells #[] 3)))
    have hO := World.ownsRow_lit (base := w.heap.size) (e := 3) (size := 1) w #[] 0 (Nat.le_refl _) (by simp [maxLen]) (by simp)
    have HO := Lib.hid hO
    clear hO hr
    go_enter Try.func57, Try.ntmps57
    go_wp2_with (at_builtin; refine append_row ETI rfl (.tmp 5) (.tmp 6) rfl w.heap.size (.slice (some ⟨w.heap.size, 0, none⟩) 0 0) 0 _ rfl HO.out _ n _ _ rfl HR.out h1 (by omega) (by omega) (by simp) ?_; intro v' w1 hO1 hg hnil; have HO1 := Lib.hid hO1; have HN := Lib.hid hnil; have HG := Lib.hid hg; clear hO1 hnil hg)
    go_ret
    refine ⟨_, rfl, by simpa using HO1.out, below_grown (belowA w _) HG.out (by rw [sizeA]; omega) (fun k hk => by simp [Value.ownBlock] at hk; omega), fun _ h => ?_⟩
    have := HN.out.1 h; simp at this
theorem ETB : ElemT Try.prog 22 5 (.int .u8 0) 1 1 := ⟨Try.underlying22, by kernel_rfl, rfl, by omega⟩

theorem cloneB (a : Option Addr) (n cap : Nat) (xs : List Value) (w : World) (hr : Row w 1 a n cap xs) (h1 : ∀ u ∈ xs, u.oneCell' = true) (hby : n * 1 ≤ 140737488355328) :
    Calls Try.prog 29 #[.slice a n cap] w fun e w' => ∃ v, e = .returned v ∧ w'.ownsRow w.heap.size 5 1 v n xs ∧ Below w.heap.size w w' ∧ NN a v := by
  rcases a with _ | ad
  · obtain ⟨r1, r2, r3, r4, r5⟩ := hr
    obtain rfl := r4 rfl
    obtain rfl : n = 0 := by omega
    obtain rfl : xs = [] := List.eq_nil_of_length_eq_zero (by simpa using r1)
    have hnil := fun W : World => Lib.run_eql_slice_nil (P := Try.prog) W 22 5 none 0 0 0 0 Try.underlying22
    go_enter Try.func29, Try.ntmps29
    go_wp2
    go_ret
    exact ⟨_, rfl, World.ownsRow_nil _ _ _ _, Below.refl _ _, fun h => absurd rfl h⟩
  · have hm : n ≤ maxLen := Nat.le_trans hr.2.1 hr.2.2.1
    have hnil := fun W : World => Lib.run_eql_slice_nil (P := Try.prog) W 22 5 (some ad) n cap 0 0 Try.underlying22
    have HR := Lib.hid (hr.mono (belowA w (.cells #[] 5)))
    have hO := World.ownsRow_lit (base := w.heap.size) (e := 5) (size := 1) w #[] 0 (Nat.le_refl _) (by simp [maxLen]) (by simp)
    have HO := Lib.hid hO
    clear hO hr
    go_enter Try.func29, Try.ntmps29
    go_wp2_with (at_builtin; refine append_row ETB rfl (.tmp 5) (.tmp 6) rfl w.heap.size (.slice (some ⟨w.heap.size, 0, none⟩) 0 0) 0 _ rfl HO.out _ n _ _ rfl HR.out h1 (by omega) (by omega) (by simp) ?_; intro v' w1 hO1 hg hnil; have HO1 := Lib.hid hO1; have HN := Lib.hid hnil; have HG := Lib.hid hg; clear hO1 hnil hg)
    go_ret
    refine ⟨_, rfl, by simpa using HO1.out, below_grown (belowA w _) HG.out (by rw [sizeA]; omega) (fun k hk => by simp [Value.ownBlock] at hk; omega), fun _ h => ?_⟩
    have := HN.out.1 h; simp at this
end Go.Proofs.Ytlmdgaajkjbpgaa
/-
  Walks of layer 1: the reader of bits.
-/
namespace Go.Proofs.Ytlmdgaajkjbpgaa
open Go.RowKit

theorem i64_and7 (n : Int) : bits .and .i64 n 7 = n % 8 := by
  have h7 : (BitVec.ofInt 64 7).toNat = 2 ^ 3 - 1 := by decide
  have key : (BitVec.ofInt 64 n &&& BitVec.ofInt 64 7).toNat = (n % ((2 ^ 64 : Nat) : Int)).toNat % 2 ^ 3 := by
    rw [BitVec.toNat_and, BitVec.toNat_ofInt, h7, Nat.and_two_pow_sub_one_eq_mod]
  show IntKind.i64.wrap ((BitVec.ofInt 64 n &&& BitVec.ofInt 64 7).toNat : Nat) = n % 8
  rw [key, IntKind.wrap_i64]
  omega

theorem case8 (s : Nat) (h : s < 8) : s = 0 ∨ s = 1 ∨ s = 2 ∨ s = 3 ∨ s = 4 ∨ s = 5 ∨ s = 6 ∨ s = 7 := by omega

/-- Which bit of its byte is the next: the power of it. -/
def maskE (at_ : Nat) (high : Bool) : Nat := if high then 7 - at_ % 8 else at_ % 8
def maskV (at_ : Nat) (high : Bool) : Int := ((2 ^ maskE at_ high : Nat) : Int)
theorem maskE_lt (at_ : Nat) (high : Bool) : maskE at_ high < 8 := by unfold maskE; split <;> omega

set_option maxHeartbeats 1000000 in
theorem mask_any (b off at_ : Nat) (high : Bool) (w : World) (h0 : w.cell? ⟨b, off, none⟩ = some (.int .i64 at_)) (h1 : w.cell? ⟨b, off + 1, none⟩ = some (.bool high)) :
    Calls Try.prog 53 #[.pointer (some ⟨b, off, none⟩)] w fun e w' => e = .returned (.int .u8 (maskV at_ high)) ∧ w = w' := by
  obtain ⟨s, hs⟩ : ∃ s, s = at_ % 8 := ⟨_, rfl⟩
  have hand : bits .and .i64 (at_ : Int) 7 = (s : Int) := by rw [i64_and7]; omega
  have hv : maskV at_ high = if high then ((2 ^ (7 - s) : Nat) : Int) else ((2 ^ s : Nat) : Int) := by
    unfold maskV maskE; rw [← hs]; cases high <;> rfl
  have hs8 : s < 8 := by omega
  have HV := Lib.hid hv
  clear hv hs
  rcases case8 s hs8 with rfl | rfl | rfl | rfl | rfl | rfl | rfl | rfl <;> cases high
  all_goals
    clear hs8
    go_enter Try.func53, Try.ntmps53
    go_wp2
    go_ret
    exact ⟨congrArg (fun x => Ending.returned (.int .u8 x)) HV.out.symm, rfl⟩

/-- Where the k-th bit of n goes. -/
def turnN (k n : Nat) (high : Bool) : Nat := if high then n - 1 - k else k

set_option maxHeartbeats 400000 in
theorem turn_any (b off k n : Nat) (high : Bool) (w : World) (h1 : w.cell? ⟨b, off + 1, none⟩ = some (.bool high)) (hk : k < n) (hn : n ≤ 32) :
    Calls Try.prog 54 #[.pointer (some ⟨b, off, none⟩), .int .i64 k, .int .i64 n] w fun e w' => e = .returned (.int .i64 (turnN k n high : Nat)) ∧ w = w' := by
  have hv : ((turnN k n high : Nat) : Int) = if high then (n : Int) - 1 - k else (k : Int) := by unfold turnN; cases high <;> simp <;> omega
  have HV := Lib.hid hv
  clear hv
  cases high
  all_goals
    go_enter Try.func54, Try.ntmps54
    go_wp2
    go_ret
    exact ⟨congrArg (fun x => Ending.returned (.int .i64 x)) HV.out.symm, rfl⟩

/-- A reader of bits in memory: its block r; its bytes. -/
structure IsRd (w : World) (r : Nat) (bs : List UInt8) (high : Bool) (at_ : Nat) : Prop where
  ex : ∃ a cap, w.heap[r]? = some (.cells (fl 4 (fun i => if i = 0 then .int .i64 at_ else if i = 1 then .bool high else if i = 2 then .bool true else .slice a bs.length cap)).toArray 61 (0, 0)) ∧
    Row w 1 a bs.length cap (bs.map fun b => .int .u8 b.toNat) ∧ ∀ x, a = some x → x.block < r
  le : at_ ≤ 8 * bs.length
  small : 8 * bs.length < 4611686018427387904

theorem rdead_any (r : Nat) (bs : List UInt8) (high : Bool) (at_ : Nat) (w : World) (h : IsRd w r bs high at_) :
    Calls Try.prog 36 #[.pointer (some ⟨r, 0, none⟩)] w fun e w' => e = .returned (.bool false) ∧ w = w' := by
  obtain ⟨⟨a, cap, hb, hr, hne⟩, hle, hsm⟩ := h
  have h2 := blk_cell hb 2 (by omega)
  simp only [if_pos, Nat.reduceEqDiff, if_false] at h2
  go_enter Try.func36, Try.ntmps36
  go_wp2
  go_ret
  exact ⟨rfl, rfl⟩

theorem left_any (r : Nat) (bs : List UInt8) (high : Bool) (at_ : Nat) (w : World) (h : IsRd w r bs high at_) :
    Calls Try.prog 52 #[.pointer (some ⟨r, 0, none⟩)] w fun e w' => e = .returned (.int .i64 ((8 * bs.length - at_ : Nat) : Int)) ∧ ∃ q, w' = w.drewN q := by
  have hdead := rdead_any r bs high at_ w h
  have HD := Lib.hid hdead
  obtain ⟨⟨a, cap, hb, hr, hne⟩, hle, hsm⟩ := h
  have h0 := blk_cell hb 0 (by omega)
  have h3 := blk_cell hb 3 (by omega)
  simp only [if_pos, Nat.reduceEqDiff, if_false] at h0 h3
  have hv : ((8 * bs.length - at_ : Nat) : Int) = 8 * (bs.length : Int) - at_ := by omega
  have HV := Lib.hid hv
  clear hv hb hr hne hdead
  generalize bs.length = n at *
  go_enter Try.func52, Try.ntmps52
  go_wp2_with (go_at_call 36; refine HD.out.mono ?_; rintro e w' ⟨rfl, rfl⟩)
  go_quiet (fail)
  go_wp2
  go_ret
  exact ⟨congrArg (fun x => Ending.returned (.int .i64 x)) HV.out.symm, _, rfl⟩
end Go.Proofs.Ytlmdgaajkjbpgaa
/-
  Walks of layer 1: the reader's next number.
-/
namespace Go.Proofs.Ytlmdgaajkjbpgaa
open Go.RowKit

def bitAt (bs : List UInt8) (high : Bool) (i : Nat) : Bool := (bs.getD (i / 8) 0).toNat / 2 ^ maskE i high % 2 == 1

/-- The number of k bits out of n, so far. -/
def getV (f : Nat → Bool) (high : Bool) (n : Nat) : Nat → Nat
  | 0 => 0
  | k + 1 => getV f high n k + if f k then 2 ^ turnN k n high else 0

theorem getV_low (f : Nat → Bool) (n : Nat) : ∀ k, getV f false n k < 2 ^ k
  | 0 => by simp [getV]
  | k + 1 => by
    have := getV_low f n k
    simp only [getV, turnN, Nat.pow_succ]
    split <;> simp <;> omega
theorem getV_high (f : Nat → Bool) (n : Nat) : ∀ k, k ≤ n → getV f true n k % 2 ^ (n - k) = 0 ∧ getV f true n k + 2 ^ (n - k) ≤ 2 ^ n
  | 0, _ => by simp [getV]
  | k + 1, h => by
    obtain ⟨h1, h2⟩ := getV_high f n k (by omega)
    have e : n - k = (n - (k + 1)) + 1 := by omega
    have e2 : n - 1 - k = n - (k + 1) := by omega
    rw [e, Nat.pow_succ] at h1 h2
    have hp : 0 < 2 ^ (n - (k + 1)) := Nat.pow_pos (by omega)
    have hd : 2 ^ (n - (k + 1)) ∣ getV f true n k := Nat.dvd_trans (Nat.dvd_mul_right _ 2) (Nat.dvd_of_mod_eq_zero h1)
    simp only [getV, turnN, if_true, e2]
    generalize 2 ^ (n - (k + 1)) = p at *
    split
    · exact ⟨Nat.mod_eq_zero_of_dvd ((Nat.dvd_add_right hd).2 (Nat.dvd_refl _)), by omega⟩
    · exact ⟨Nat.mod_eq_zero_of_dvd (by simpa using hd), by omega⟩
theorem getV_lt (f : Nat → Bool) (high : Bool) (n k : Nat) (h : k ≤ n) : getV f high n k < 2 ^ n := by
  cases high
  · exact Nat.lt_of_lt_of_le (getV_low f n k) (Nat.pow_le_pow_right (by omega) h)
  · have := (getV_high f n k h).2
    have hp : 0 < 2 ^ (n - k) := Nat.pow_pos (by omega)
    omega
theorem getV_or (f : Nat → Bool) (high : Bool) (n k : Nat) (h : k < n) : getV f high n k ||| 2 ^ turnN k n high = getV f high n k + 2 ^ turnN k n high := by
  cases high
  · have hl := getV_low f n k
    simp only [turnN]
    rw [Nat.or_comm, if_neg (by simp), nat_join k _ _ (Nat.mod_self _) hl]; omega
  · obtain ⟨h1, h2⟩ := getV_high f n k (by omega)
    have e : n - k = (n - 1 - k) + 1 := by omega
    rw [e] at h1
    simp only [turnN, if_true]
    exact nat_join (n - 1 - k + 1) _ _ h1 (Nat.pow_lt_pow_right (by omega) (by omega))

/-- A callee that turns nothing, met in a region that draws. -/
theorem quiet_eq {P : Program} {f : FuncId} {args : Array Value} {w : World} {n : Nat} {v : Value}
    (h : Calls P f args (w.drewN n) fun e w' => e = .returned v ∧ w.drewN n = w') : Calls P f args (w.drewN n) fun e w'' => e = .returned v ∧ ∃ m, w'' = w.drewN m :=
  h.mono fun _ _ ⟨he, hm⟩ => ⟨he, n, hm.symm⟩

/-- A row that lies in another block than the one that was written reads as it did. -/
theorem Row.kept {w w' : World} {r sz : Nat} {a : Option Addr} {n cap : Nat} {xs : List Value} (h : Row w sz a n cap xs) (hg : w.grownBy w' (some r)) (hne : ∀ x, a = some x → x.block ≠ r) : Row w' sz a n cap xs := by
  obtain ⟨h1, h2, h3, h4, h5⟩ := h
  refine ⟨h1, h2, h3, h4, fun hn => ?_⟩
  obtain ⟨b, off, ha, hlt, hc⟩ := h5 hn
  exact ⟨b, off, ha, Nat.lt_of_lt_of_le hlt hg.size, fun j u hj => hg.cell (hc j u hj) (by have := hne _ ha; simpa using this)⟩

theorem pow32 {n : Nat} (h : n ≤ 32) : 2 ^ n ≤ 4294967296 := Nat.pow_le_pow_right (n := 2) (by omega) h

theorem or_pow (g t : Nat) (hg : g < 4294967296) (ht : t < 32) (h : g ||| 2 ^ t = g + 2 ^ t) : bits .or .u32 (g : Int) ((2 : Int) ^ t % 4294967296) = ((g + 2 ^ t : Nat) : Int) := by
  have hp : 2 ^ t < 4294967296 := Nat.lt_of_lt_of_le (Nat.pow_lt_pow_right (by omega) ht) (by omega)
  have e : (2 : Int) ^ t % 4294967296 = ((2 ^ t : Nat) : Int) := by
    have e2 : (2 : Int) ^ t = ((2 ^ t : Nat) : Int) := by simp
    rw [e2]
    generalize 2 ^ t = q at *
    omega
  rw [e, u32_or_nat _ _ hg hp, h]

theorem rbit_test (x s : Nat) (hx : x < 256) (hs : s < 8) : bits .and .u8 (x : Int) ((2 ^ s : Nat) : Int) = if x / 2 ^ s % 2 == 1 then ((2 ^ s : Nat) : Int) else 0 := by
  have hp : 2 ^ s < 256 := Nat.lt_of_lt_of_le (Nat.pow_lt_pow_right (by omega) hs) (by omega)
  rw [u8_and_nat x (2 ^ s) hx hp, nat_bit]
  have hm : x / 2 ^ s % 2 = 0 ∨ x / 2 ^ s % 2 = 1 := by omega
  rcases hm with h | h <;> simp [h]

set_option maxHeartbeats 1000000 in
theorem get_ok (r n : Nat) (bs : List UInt8) (high : Bool) (at_ : Nat) (w : World) (h : IsRd w r bs high at_) (hn : n ≤ 32) (hle2 : at_ + n ≤ 8 * bs.length) :
    Calls Try.prog 43 #[.pointer (some ⟨r, 0, none⟩), .int .i64 n] w fun e w' => e = .returned (.tuple #[.int .u32 (getV (fun k => bitAt bs high (at_ + k)) high n n : Nat), .int .i64 0]) ∧ IsRd w' r bs high (at_ + n) ∧ w.grownBy w' (some r) := by
  have hdead := rdead_any r bs high at_ w h
  have hleft := left_any r bs high at_ w h
  obtain ⟨⟨a, cap, hb, hr, hne⟩, hle, hsm⟩ := h
  have HD := Lib.hid hdead
  have HL := Lib.hid hleft
  have HB := Lib.hid hb
  have HR := Lib.hid hr
  have HNL := Lib.hid hne
  have HN := Lib.hid (show ∀ x, a = some x → x.block ≠ r from fun x hx => Nat.ne_of_lt (hne x hx))
  have hN : decide (8 * bs.length - at_ < n) = false := by simp; omega
  have hN1 : decide ((n : Int) < 0) = false := by simp
  have hN2 : decide (32 < (n : Int)) = false := by simp; omega
  clear hdead hleft hb hr hne
  go_enter Try.func43, Try.ntmps43
  go_wp2_with (first
    | (go_at_call 36; refine HD.out.mono ?_; rintro e w' ⟨rfl, rfl⟩)
    | (go_at_call 52; refine HL.out.mono ?_; rintro e w' ⟨rfl, q1, rfl⟩))
  go_loopw [6, 24] (fun x i wr => ∃ k : Nat, k ≤ n ∧ i = .int .i64 k ∧ x = .int .u32 (getV (fun k => bitAt bs high (at_ + k)) high n k : Nat) ∧
      Hid (wr.heap[r]? = some (.cells (fl 4 (fun i => if i = 0 then .int .i64 ((at_ + k : Nat) : Int) else if i = 1 then .bool high else if i = 2 then .bool true else .slice a bs.length cap)).toArray 61 (0, 0))) ∧ Hid (w.grownBy wr (some r))) (fun _ i _ => n - (intOf i).toNat)
  case atStart => exact ⟨0, by omega, rfl, rfl, HB, ⟨rfl, rfl, rfl, Nat.le_refl _, fun _ _ _ => rfl⟩⟩
  case round =>
    obtain ⟨k, hk, rfl, rfl, HBk, HG⟩ := hrel
    by_cases hlt : k < n
    · have h0 := blk_cell HBk.out 0 (by omega)
      have h1 := blk_cell HBk.out 1 (by omega)
      have h3 := blk_cell HBk.out 3 (by omega)
      have hfr := blk_free HBk.out 0
      simp only [if_pos, Nat.reduceEqDiff, if_false] at h0 h1 h3
      obtain ⟨b, off, rfl, hblt, hc⟩ := HR.out.at 0 ((at_ + k) / 8) (by omega)
      have hck := hc ((at_ + k) / 8) (by omega)
      have hbr : b ≠ r := by have := HN.out ⟨b, off, none⟩ rfl; simpa using this
      have hck2 : wr.cell? ⟨b, off + (at_ + k) / 8, none⟩ = some (.int .u8 ((bs.getD ((at_ + k) / 8) 0).toNat : Int)) := HG.out.cell hck (by simpa using hbr)
      obtain ⟨x, hx⟩ : ∃ x, x = (bs.getD ((at_ + k) / 8) 0).toNat := ⟨_, rfl⟩
      rw [← hx] at hck2
      have hx2 : x < 256 := by rw [hx]; exact (bs.getD ((at_ + k) / 8) 0).toNat_lt
      have hbt := rbit_test x (maskE (at_ + k) high) hx2 (maskE_lt _ _)
      have hbA : bitAt bs high (at_ + k) = (x / 2 ^ maskE (at_ + k) high % 2 == 1) := by unfold bitAt; rw [← hx]
      have HX := Lib.hid hx
      have HBA := Lib.hid hbA
      clear hc hck hx hbA
      have hpos : 0 < 2 ^ maskE (at_ + k) high := Nat.pow_pos (by omega)
      by_cases hbit : (x / 2 ^ maskE (at_ + k) high % 2 == 1) = true
      · rw [if_pos hbit] at hbt
        have htest : (bits BinOp.and IntKind.u8 (x : Int) (maskV (at_ + k) high) != 0) = true := by
          unfold maskV; rw [hbt]; rw [bne_iff_ne]; omega
        have HBT := Lib.hid (show bitAt bs high (at_ + k) = true by rw [HBA.out]; exact hbit)
        clear hbt hbit hpos
        have hor := Lib.hid (getV_or (fun k => bitAt bs high (at_ + k)) high n k hlt)
        have hgl := Lib.hid <| getV_lt (fun k => bitAt bs high (at_ + k)) high n k hk
        have ht32 : turnN k n high < 32 := by unfold turnN; split <;> omega
        go_wp2
        go_quiet ((go_at_call 53; refine quiet_eq (mask_any r 0 (at_ + k) high _ (by simpa using h0) (by simpa using h1))))
        go_wp2_with (go_at_call 54; refine (turn_any r 0 k n high _ (by simpa using h1) hlt hn).mono ?_; rintro e w' ⟨rfl, rfl⟩)
        go_roundw
        case rel =>
          refine ⟨k + 1, by omega, by go_num, ?_, ?_, ?_⟩
          · have e : getV (fun k => bitAt bs high (at_ + k)) high n (k + 1) = getV (fun k => bitAt bs high (at_ + k)) high n k + 2 ^ turnN k n high := by
              simp [getV, HBT.out]
            rw [e, or_pow _ _ (Nat.lt_of_lt_of_le hgl.out (pow32 hn)) ht32 hor.out]
          · refine Lib.hid ?_
            have hs := blk_set (w := wr.drewN nq) HBk.out 0 (Value.int IntKind.i64 ((at_ : Int) + k + 1))
            rw [hs]
            exact congrArg (fun x => some (Obj.cells (List.toArray x) _ _)) (fl_congr fun i _ => by
              by_cases hi : i = 0
              · subst hi; simp; omega
              · simp [hi])
          · exact Lib.hid (grownBy_setCell (grownBy_drewN HG.out nq) _)
        case measure => simp [intOf]; omega
      · rw [if_neg hbit] at hbt
        have htest : (bits BinOp.and IntKind.u8 (x : Int) (maskV (at_ + k) high) != 0) = false := by
          unfold maskV; rw [hbt]; rfl
        have HBT := Lib.hid (show bitAt bs high (at_ + k) = false by rw [HBA.out]; simpa using hbit)
        clear hbt hbit hpos
        go_wp2
        go_quiet ((go_at_call 53; refine quiet_eq (mask_any r 0 (at_ + k) high _ (by simpa using h0) (by simpa using h1))))
        go_wp2
        go_roundw
        case rel =>
          refine ⟨k + 1, by omega, by go_num, ?_, ?_, ?_⟩
          · have : getV (fun k => bitAt bs high (at_ + k)) high n (k + 1) = getV (fun k => bitAt bs high (at_ + k)) high n k := by
              simp [getV, HBT.out]
            rw [this]
          · refine Lib.hid ?_
            have hs := blk_set (w := wr.drewN nq) HBk.out 0 (Value.int IntKind.i64 ((at_ : Int) + k + 1))
            rw [hs]
            exact congrArg (fun x => some (Obj.cells (List.toArray x) _ _)) (fl_congr fun i _ => by
              by_cases hi : i = 0
              · subst hi; simp; omega
              · simp [hi])
          · exact Lib.hid (grownBy_setCell (grownBy_drewN HG.out nq) _)
        case measure => simp [intOf]; omega
    · obtain rfl : k = n := by omega
      go_wp2
      go_ret2
      exact ⟨rfl, ⟨⟨a, cap, HBk.out, HR.out.kept HG.out HN.out, HNL.out⟩, by omega, hsm⟩, HG.out⟩
end Go.Proofs.Ytlmdgaajkjbpgaa
/-
  Walks: the library's Compare at int.
-/
namespace Go.Proofs.Ytlmdgaajkjbpgaa
open Go.RowKit

def cmpI (x y : Int) : Int := if x < y then -1 else if y < x then 1 else 0

theorem isNaN_any (x : Int) (w : World) : Calls Try.prog 67 #[.int .i64 x] w fun e w' => e = .returned (.bool false) ∧ w = w' := by
  go_enter Try.func67, Try.ntmps67
  go_wp2
  go_ret
  exact ⟨ret_bool (by simp), rfl⟩
theorem compare_any (x y : Int) (w : World) : Calls Try.prog 61 #[.int .i64 x, .int .i64 y] w fun e w' => e = .returned (.int .i64 (cmpI x y)) ∧ w = w' := by
  have hv : cmpI x y = if x < y then -1 else if y < x then 1 else 0 := rfl
  have HV := Lib.hid hv
  clear hv
  by_cases h1 : x < y
  · go_enter Try.func61, Try.ntmps61
    go_wp2_with (go_at_call 67; refine (isNaN_any _ _).mono ?_; rintro e w' ⟨rfl, rfl⟩)
    go_ret
    exact ⟨ret_int (by rw [HV.out, if_pos h1]), rfl⟩
  · by_cases h2 : y < x
    · go_enter Try.func61, Try.ntmps61
      go_wp2_with (go_at_call 67; refine (isNaN_any _ _).mono ?_; rintro e w' ⟨rfl, rfl⟩)
      go_ret
      exact ⟨ret_int (by rw [HV.out, if_neg (by omega), if_pos h2]), rfl⟩
    · go_enter Try.func61, Try.ntmps61
      go_wp2_with (go_at_call 67; refine (isNaN_any _ _).mono ?_; rintro e w' ⟨rfl, rfl⟩)
      go_ret
      exact ⟨ret_int (by rw [HV.out, if_neg (by omega), if_neg (by omega)]), rfl⟩
end Go.Proofs.Ytlmdgaajkjbpgaa
/-
  Walks of layer 4: a table of codes is made.
-/
namespace Go.Proofs.Ytlmdgaajkjbpgaa
open Go.RowKit Go.Sort

/-- What New's closure compares: the lengths of two symbols. -/
def cfL (l : List Int) (x y : Int) : Int := cmpI (l.getD x.toNat 0) (l.getD y.toNat 0)

set_option maxHeartbeats 400000 in
theorem cmpNew_any (bx : Nat) (a : Option Addr) (n cap : Nat) (l : List Int) (x y : Nat) (w : World) (hb : w.cell? ⟨bx, 0, none⟩ = some (.slice a n cap)) (hr : Row w 1 a n cap (l.map (Value.int .i64))) (hx : x < n) (hy : y < n) :
    Calls Try.prog 60 #[.int .i64 x, .int .i64 y, .pointer (some ⟨bx, 0, none⟩)] w fun e w' => e = .returned (.int .i64 (cfL l x y)) ∧ ∃ q, w' = w.drewN q := by
  have hm := hr.i64
  have hv : cfL l x y = cmpI (l.getD x 0) (l.getD y 0) := rfl
  have HV := Lib.hid hv
  clear hv
  obtain ⟨b, off, rfl, hblt, hc⟩ := hr.at 0 x hx
  have hcx := hc x hx
  have hcy := hc y hy
  generalize l.getD x 0 = X at *
  generalize l.getD y 0 = Y at *
  clear hc hr
  go_enter Try.func60, Try.ntmps60
  go_wp2
  go_quiet ((go_at_call 61; exact quiet_eq (compare_any _ _ _)))
  go_wp2
  go_ret
  exact ⟨ret_int HV.out.symm, _, rfl⟩
end Go.Proofs.Ytlmdgaajkjbpgaa
