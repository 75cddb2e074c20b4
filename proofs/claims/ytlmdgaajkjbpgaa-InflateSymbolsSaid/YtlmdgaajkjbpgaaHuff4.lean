/-
  Walks of layer 4: the reference's codes are those of the program.
-/
import Derived.Test.YtlmdgaajkjbpgaaHuff3
namespace Go.Proofs.Ytlmdgaajkjbpgaa
open Go.RowKit

/-- What the reference has laid down when it is at lengths m, at symbol k. -/
def rdV (l : List Int) (m k i : Nat) : Value := .int .u32 (if 0 < l.getD i 0 ∧ (l.getD i 0 < (m : Int) ∨ l.getD i 0 = (m : Int) ∧ i < k) then codeAt l i else 0)

set_option maxHeartbeats 800000 in
theorem rcodes_ok (a : Option Addr) (n cap : Nat) (l : List Int) (w : World) (hr : Row w 1 a n cap (l.map (Value.int .i64))) (hroom : 0 ≤ roomV l) :
    Calls Try.prog 50 #[.slice a n cap] w fun e w' => ∃ v, e = .returned (.tuple #[v, .int .i64 0]) ∧ w'.ownsRow w.heap.size 69 1 v n (fl n (cdV l n)) ∧ Below w.heap.size w w' := by
  have hm := hr.i64
  have hl := hr.len1
  have hok1 := (roomV_ok hroom).2.2.1
  have hlen := (roomV_ok hroom).2.1
  have h15 := hok_mem hok1
  have hn : n ≤ 320 := by omega
  have hd : decide (0 ≤ roomV l) = true := by simpa using hroom
  have HL := Lib.hid hl
  have HR := Lib.hid hroom
  have H15 := Lib.hid h15
  clear hl hroom h15 hok1
  go_enter Try.func50, Try.ntmps50
  go_wp2_with (first
    | (go_at_call 62; refine (may_any _ _ _ l _ hr).mono ?_; rintro e w' ⟨rfl, rfl⟩)
    | (at_make; refine make_full EU32 rfl (.tmp 12) (.tmp 12) rfl .i64 .i64 _ _ n rfl rfl rfl rfl (by omega) (by unfold maxLen; omega) ?_; intro w4 hown hb4; have HO := Lib.hid (own_congr hown (made_fl _ n)); clear hown))
  have hgeG := Nat.le_refl w.heap.size
  generalize hG : w.heap.size = G at HO hgeG
  have HG := Lib.hid hG
  clear hG hgeG
  go_loopw [5, 6] (fun c i wr => ∃ j : Nat, j ≤ 15 ∧ i = .int .i64 (j + 1 : Nat) ∧ c = .int .u32 (fcode (cn l) j + cn l j) ∧ wr.ownsRow G 69 1 (.slice (some ⟨G, 0, none⟩) n n) n (fl n (rdV l (j + 1) 0)) ∧ Below G w wr) (fun _ i _ => 16 - (intOf i).toNat)
  case atStart =>
    refine ⟨0, by omega, rfl, by simp [fcode, cn], own_congr HO.out (fl_congr fun i _ => ?_), by rw [← HG.out]; exact hb4⟩
    unfold rdV
    rw [if_neg (by omega)]
  case round =>
    obtain ⟨j, hj, rfl, rfl, hO, hbel⟩ := hrel
    clear HO hb4
    have HO := Lib.hid hO
    clear hO
    have hft := fcode_top HR.out j hj
    have hpw := pow_le_15 hj
    have hcb := cn_bd l j
    by_cases hlt : j < 15
    · go_wp2
      go_loopw [5, 7] (fun c i wr => ∃ k : Nat, k ≤ n ∧ i = .int .i64 k ∧ c = .int .u32 (fcode (cn l) (j + 1) + cn (l.take k) (j + 1)) ∧ wr.ownsRow G 69 1 (.slice (some ⟨G, 0, none⟩) n n) n (fl n (rdV l (j + 1) k)) ∧ Below G w wr) (fun _ i _ => n - (intOf i).toNat)
      case atStart => exact ⟨0, by omega, rfl, by simp [fcode, cn]; omega, HO.out, hbel⟩
      case round =>
        obtain ⟨k, hk, rfl, rfl, hO, hbel2⟩ := hrel
        clear HO hbel
        have HO := Lib.hid hO
        clear hO
        have hft1 := fcode_top HR.out (j + 1) (by omega)
        have hpw1 := pow_le_15 (n := j + 1) (by omega)
        have hcb1 := cn_bd (l.take k) (j + 1)
        have hct := cn_take_le l k (j + 1)
        by_cases hkn : k < n
        · obtain ⟨b, off, rfl, hb, hc⟩ := (hr.mono (by rw [HG.out]; exact hbel2)).at 0 k hkn
          have hck := hc k hkn
          have hkl : k < l.length := by rw [HL.out]; exact hkn
          have ht := take_snoc 0 l k hkl
          have hx15 := H15.out (l.getD k 0) (by simp [List.getD, hkl])
          have hcl := fun hp : l.getD k 0 = ((j + 1 : Nat) : Int) => cn_lt (m := j + 1) hkl (by omega) hp
          have hcA : codeAt l k = if 0 < l.getD k 0 then fcode (cn l) (l.getD k 0).toNat + cn (l.take k) (l.getD k 0).toNat else 0 := rfl
          obtain ⟨x, hx⟩ : ∃ x, x = l.getD k 0 := ⟨_, rfl⟩
          rw [← hx] at hck ht hx15 hcl hcA
          have HT := Lib.hid ht
          have HC := Lib.hid hcA
          have HX := Lib.hid hx
          clear hc ht hx hcA
          by_cases he : x = ((j + 1 : Nat) : Int)
          · have hcl' := hcl he
            have heq : (x == (j : Int) + 1) = true := by simp; omega
            have HE := Lib.hid he
            clear hcl he
            have hcell2 := own_cell HO.out k hkn
            have hfree2 := HO.out.frozenAt k
            go_wp2
            go_roundw
            case rel =>
              have he := HE.out
              refine ⟨k + 1, by omega, by go_num, ?_, own_congr (own_set HO.out k _) (fl_congr fun i _ => ?_), hbel2.setCell (by simp) _⟩
              · rw [HT.out, cn_snoc _ _ _ hx15.1, if_pos (by omega)]; go_num
              · unfold rdV
                by_cases hi : i = k
                · subst hi
                  rw [if_pos rfl, ← HX.out, if_pos ⟨by omega, .inr ⟨he, by omega⟩⟩, HC.out, if_pos (by omega), he]
                  rfl
                · have : (i < k) = (i < k + 1) := by simp; omega
                  simp [hi, this]
            case measure => simp [intOf]; omega
          · have heq : (x == (j : Int) + 1) = false := by simp; omega
            have HE := Lib.hid he
            clear hcl he
            go_wp2
            go_roundw
            case rel =>
              have he := HE.out
              refine ⟨k + 1, by omega, by go_num, ?_, own_congr HO.out (fl_congr fun i _ => ?_), hbel2⟩
              · rw [HT.out, cn_snoc _ _ _ hx15.1, if_neg (by omega)]; go_num
              · unfold rdV
                by_cases hi : i = k
                · subst hi
                  rw [← HX.out]
                  have e : (0 < x ∧ (x < ((j + 1 : Nat) : Int) ∨ x = ((j + 1 : Nat) : Int) ∧ i < i)) = (0 < x ∧ (x < ((j + 1 : Nat) : Int) ∨ x = ((j + 1 : Nat) : Int) ∧ i < i + 1)) := by
                    simp only [eq_iff_iff]; omega
                  simp only [e]
                · have : (i < k) = (i < k + 1) := by simp; omega
                  simp [this]
            case measure => simp [intOf]; omega
        · obtain rfl : k = n := by omega
          have hT : l.take k = l := by rw [← HL.out]; exact List.take_length
          rw [hT] at *
          clear hT
          go_wp2
          go_roundw
          case rel =>
            refine ⟨j + 1, by omega, by go_num, rfl, own_congr HO.out (fl_congr fun i hi => ?_), hbel2⟩
            unfold rdV
            have e : (0 < l.getD i 0 ∧ (l.getD i 0 < ((j + 1 : Nat) : Int) ∨ l.getD i 0 = ((j + 1 : Nat) : Int) ∧ i < k)) = (0 < l.getD i 0 ∧ (l.getD i 0 < ((j + 1 + 1 : Nat) : Int) ∨ l.getD i 0 = ((j + 1 + 1 : Nat) : Int) ∧ i < 0)) := by
              simp only [eq_iff_iff]; omega
            simp only [e]
          case measure => simp [intOf]; omega
    · obtain rfl : j = 15 := by omega
      go_wp2
      go_ret2
      refine ⟨_, rfl, ?_, by rw [HG.out]; exact hbel⟩
      rw [HG.out]
      refine own_congr HO.out (fl_congr fun i hi => ?_)
      unfold rdV cdV
      have hx15 := H15.out (l.getD i 0) (by simp [List.getD, show i < l.length by rw [HL.out]; exact hi])
      by_cases hp : 0 < l.getD i 0
      · rw [if_pos ⟨hp, .inl (by omega)⟩, if_pos hi]
      · rw [if_neg (by omega), if_pos hi]
        unfold codeAt
        rw [if_neg hp]

theorem rcodes_bad (a : Option Addr) (n cap : Nat) (l : List Int) (w : World) (hr : Row w 1 a n cap (l.map (Value.int .i64))) (hroom : roomV l < 0) :
    Calls Try.prog 50 #[.slice a n cap] w fun e w' => e = .returned (.tuple #[.slice none 0 0, .int .i64 13]) ∧ w = w' := by
  have hd : decide (0 ≤ roomV l) = false := by simpa using hroom
  go_enter Try.func50, Try.ntmps50
  go_wp2_with (first
    | (go_at_call 62; refine (may_any _ _ _ l _ hr).mono ?_; rintro e w' ⟨rfl, rfl⟩))
  go_ret2
  exact ⟨rfl, rfl⟩
end Go.Proofs.Ytlmdgaajkjbpgaa
