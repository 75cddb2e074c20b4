/-
  Walk of the reference of layer 4: the next symbol by definition.
-/
import Derived.Test.YtbmhdacedicbjaaRef01
namespace Go.Proofs.Ytbmhdacedicbjaa
open Go.RowKit Go.Sort

theorem any_take_succ (l : List Int) (n k : Nat) (h : k < l.length) : hasLong (l.take (k + 1)) n = (hasLong (l.take k) n || decide ((n : Int) ≤ l.getD k 0)) := by
  unfold hasLong
  rw [take_snoc 0 l k h, List.any_append]
  simp

theorem find_range_succ (p : Nat → Bool) (k : Nat) : (List.range (k + 1)).find? p = ((List.range k).find? p).or (if p k then some k else none) := by
  rw [List.range_succ, List.find?_append]
  simp only [List.find?_cons, List.find?_nil]
  cases p k <;> rfl

theorem valN_congr {f g : Nat → Bool} : ∀ n, (∀ i, i < n → f i = g i) → valN f n = valN g n
  | 0, _ => rfl
  | n + 1, h => by simp only [valN]; rw [valN_congr n (fun i hi => h i (by omega)), h n (by omega)]
theorem takeGo_congr {l : List Int} {f g : Nat → Bool} {left : Nat} (h : ∀ i, i < left → f i = g i) : ∀ fuel n, takeGo l f left fuel n = takeGo l g left fuel n
  | 0, _ => rfl
  | fuel + 1, n => by
    simp only [takeGo]
    by_cases hl : left < n
    · simp [hl]
    · rw [valN_congr n (fun i hi => h i (by omega)), takeGo_congr h fuel (n + 1)]

theorem find_range_hit (p : Nat → Bool) (k n : Nat) (hk : k < n) (h0 : (List.range k).find? p = none) (hp : p k = true) : (List.range n).find? p = some k := by
  have h : ∀ d, (List.range (k + 1 + d)).find? p = some k := by
    intro d
    induction d with
    | zero => rw [Nat.add_zero, find_range_succ, h0, if_pos hp]; rfl
    | succ d ih => rw [← Nat.add_assoc, find_range_succ, ih]; rfl
  have h1 := h (n - (k + 1))
  rwa [show k + 1 + (n - (k + 1)) = n from by omega] at h1

/-- The search over the symbols, as far as k. -/
def pSym (l : List Int) (n : Nat) (x : Int) (k : Nat) : Bool := l.getD k 0 == (n : Int) && codeAt l k == x

set_option maxRecDepth 4000 in
set_option maxHeartbeats 2000000 in
theorem take_any (a aC aB : Option Addr) (n cap cC m cB : Nat) (l : List Int) (bl : List Bool) (w : World) (hr : Row w 1 a n cap (l.map (Value.int .i64))) (hC : Row w 1 aC n cC (fl n (cdV l n))) (hB : Row w 1 aB m cB (bl.map Value.bool)) (hroom : 0 ≤ roomV l) :
    Calls Try.prog 19 #[.slice a n cap, .slice aC n cC, .slice aB m cB] w fun e w' =>
      e = .returned (.tuple #[.int .i64 ((takeV l (fun i => bl.getD i false) m).1 : Nat), .int .i64 ((takeV l (fun i => bl.getD i false) m).2.1 : Nat), .int .i64 (takeV l (fun i => bl.getD i false) m).2.2]) ∧ w = w' := by
  have hm := hr.i64
  have hmB := hB.i64
  have hl := hr.len1
  have hlen := (roomV_ok hroom).2.1
  obtain ⟨V, hV⟩ : ∃ V, V = takeV l (fun i => bl.getD i false) m := ⟨_, rfl⟩
  rw [← hV]
  have HV := Lib.hid hV
  have HL := Lib.hid hl
  have HR := Lib.hid hr
  have HCR := Lib.hid hC
  have HBR := Lib.hid hB
  have hn320 : n ≤ 320 := by omega
  clear hV hl hr hC hB hlen
  go_enter Try.func19, Try.ntmps19
  go_wp2
  go_loop [9] (fun i => ∃ j : Nat, j ≤ 15 ∧ i = .int .i64 (j + 1 : Nat) ∧ Hid (V = takeGo l (fun i => bl.getD i false) m (15 - j) (j + 1))) (fun i => 17 - (intOf i).toNat)
  case atStart => exact ⟨0, by omega, rfl, HV⟩
  case round =>
    obtain ⟨j, hj, rfl, HVj⟩ := hrel
    by_cases hlt : j < 15
    · have hfuel : 15 - j = (15 - (j + 1)) + 1 := by omega
      have hgo := HVj.out
      rw [hfuel, takeGo] at hgo
      have HGO := Lib.hid hgo
      clear hgo hfuel HVj
      go_wp2
      go_loop [10, 11] (fun b i => ∃ k : Nat, k ≤ n ∧ i = .int .i64 k ∧ b = .bool (hasLong (l.take k) (j + 1))) (fun _ i => n - (intOf i).toNat)
      case atStart => exact ⟨0, by omega, rfl, rfl⟩
      case round =>
        obtain ⟨k, hk, rfl, rfl⟩ := hrel
        by_cases hkn : k < n
        · obtain ⟨b, off, rfl, hblt, hc⟩ := HR.out.at 0 k hkn
          have hck := hc k hkn
          have hat := any_take_succ l (j + 1) k (by rw [HL.out]; exact hkn)
          obtain ⟨x, hx⟩ : ∃ x, x = l.getD k 0 := ⟨_, rfl⟩
          rw [← hx] at hck hat
          have HAT := Lib.hid hat
          clear hc hx hat
          generalize hg : hasLong (l.take k) (j + 1) = g at *
          have HG := Lib.hid hg
          clear hg
          cases g
          · go_wp2
            go_round
            case rel => exact ⟨k + 1, by omega, by go_num, by rw [HAT.out]; simp⟩
            case measure => simp [intOf]; omega
          · go_wp2
            go_round
            case rel => exact ⟨k + 1, by omega, by go_num, by rw [HAT.out]; simp⟩
            case measure => simp [intOf]; omega
        · obtain rfl : n = k := by omega
          have hT : l.take n = l := by rw [← HL.out]; exact List.take_length
          rw [hT]
          clear hT
          by_cases hlong : hasLong l (j + 1) = false
          · have hgo2 := HGO.out
            rw [if_pos hlong] at hgo2
            rw [hlong]
            have HGO2 := Lib.hid hgo2
            clear hgo2 HGO hlong
            go_wp2
            go_ret3
            rw [HGO2.out]
            exact ⟨rfl, rfl⟩
          · have hgo2 := HGO.out
            rw [if_neg hlong] at hgo2
            rw [Bool.not_eq_false] at hlong
            rw [hlong]
            by_cases hcut : m < j + 1
            · rw [if_pos hcut] at hgo2
              have HGO2 := Lib.hid hgo2
              clear hgo2 HGO hlong
              go_wp2
              go_ret3
              rw [HGO2.out]
              exact ⟨rfl, rfl⟩
            · rw [if_neg hcut] at hgo2
              have HGO2 := Lib.hid hgo2
              clear hgo2 HGO hlong
              go_wp2
              go_loop [12, 13] (fun x i => ∃ t : Nat, t ≤ j + 1 ∧ i = .int .i64 t ∧ x = .int .u32 (valN (fun i => bl.getD i false) t : Nat)) (fun _ i => j + 1 - (intOf i).toNat)
              case atStart => exact ⟨0, by omega, rfl, rfl⟩
              case round =>
                obtain ⟨t, ht, rfl, rfl⟩ := hrel
                by_cases htj : t < j + 1
                · obtain ⟨b, off, rfl, hblt, hc⟩ := HBR.out.at false t (by omega)
                  have hck := hc t (by omega)
                  have hv1 := valN_lt (fun i => bl.getD i false) t
                  have hpt : 2 ^ t ≤ 16384 := Nat.pow_le_pow_right (n := 2) (by omega) (by omega : t ≤ 14)
                  have hval : valN (fun i => bl.getD i false) (t + 1) = 2 * valN (fun i => bl.getD i false) t + if bl.getD t false then 1 else 0 := rfl
                  generalize hx : bl.getD t false = x at hck hval
                  have HVAL := Lib.hid hval
                  clear hc hx hval
                  generalize hvv : valN (fun i => bl.getD i false) t = v at *
                  clear hvv
                  cases x
                  · go_wp2
                    go_round
                    case rel => exact ⟨t + 1, by omega, by go_num, by rw [HVAL.out]; go_num⟩
                    case measure => simp [intOf]; omega
                  · go_wp2
                    go_round
                    case rel => exact ⟨t + 1, by omega, by go_num, by rw [HVAL.out]; go_num⟩
                    case measure => simp [intOf]; omega
                · obtain rfl : t = j + 1 := by omega
                  have hv1 := valN_lt (fun i => bl.getD i false) (j + 1)
                  have hpt : 2 ^ (j + 1) ≤ 32768 := Nat.pow_le_pow_right (n := 2) (by omega) (by omega : j + 1 ≤ 15)
                  obtain ⟨X, hX⟩ : ∃ X, X = valN (fun i => bl.getD i false) (j + 1) := ⟨_, rfl⟩
                  have hgo3 := HGO2.out
                  rw [← hX] at hgo3 hv1 ⊢
                  have HGO3 := Lib.hid hgo3
                  clear hgo3 HGO2 hX
                  go_wp2
                  go_loop [14] (fun i => ∃ k : Nat, k ≤ n ∧ i = .int .i64 k ∧ Hid ((List.range k).find? (pSym l (j + 1) X) = none)) (fun i => n - (intOf i).toNat)
                  case atStart => exact ⟨0, by omega, rfl, Lib.hid rfl⟩
                  case round =>
                    obtain ⟨k, hk, rfl, HK⟩ := hrel
                    by_cases hkn : k < n
                    · obtain ⟨b1, o1, rfl, hb1, hc1⟩ := HR.out.at 0 k hkn
                      have hck1 := hc1 k hkn
                      obtain ⟨b2, o2, rfl, hb2, hc2⟩ := HCR.out.2.2.2.2 (by omega)
                      have hck2 := hc2 k _ (fl_get _ hkn)
                      have hcd := codeAt_bd hroom k
                      unfold cdV at hck2
                      rw [if_pos hkn] at hck2
                      have hfs := find_range_succ (pSym l (j + 1) X) k
                      rw [HK.out, show pSym l (j + 1) X k = (l.getD k 0 == ((j + 1 : Nat) : Int) && codeAt l k == (X : Int)) from rfl] at hfs
                      have hhit := find_range_hit (pSym l (j + 1) X) k n hkn HK.out
                      rw [show pSym l (j + 1) X k = (l.getD k 0 == ((j + 1 : Nat) : Int) && codeAt l k == (X : Int)) from rfl] at hhit
                      generalize l.getD k 0 = x at *
                      generalize codeAt l k = c at *
                      clear hc1 hc2
                      by_cases h1 : x = ((j + 1 : Nat) : Int)
                      · by_cases h2 : c = (X : Int)
                        · have hhit2 := hhit (by rw [h1, h2]; simp)
                          have hgo4 := HGO3.out
                          rw [show findSym l (j + 1) (X : Int) = some k from by rw [← hhit2, ← HL.out]; rfl] at hgo4
                          have HGO4 := Lib.hid hgo4
                          clear hgo4 hhit hhit2 hfs
                          subst h1 h2
                          go_wp2
                          go_ret3
                          rw [HGO4.out]
                          exact ⟨rfl, rfl⟩
                        · have h3 : (c == (X : Int)) = false := by rw [beq_eq_false_iff_ne]; exact h2
                          have hfs2 : (List.range (k + 1)).find? (pSym l (j + 1) X) = none := by rw [hfs, h3]; simp
                          have HFS := Lib.hid hfs2
                          clear hhit hfs hfs2
                          subst h1
                          go_wp2
                          go_round
                          case rel => exact ⟨k + 1, by omega, by go_num, HFS⟩
                          case measure => simp [intOf]; omega
                      · have h3 : (x == ((j + 1 : Nat) : Int)) = false := by rw [beq_eq_false_iff_ne]; exact h1
                        have h4 : (x == (j : Int) + 1) = false := by rw [beq_eq_false_iff_ne]; exact fun e => h1 (by rw [e]; omega)
                        have hfs2 : (List.range (k + 1)).find? (pSym l (j + 1) X) = none := by rw [hfs, h3]; simp
                        have HFS := Lib.hid hfs2
                        clear hhit hfs hfs2 h3
                        go_wp2
                        go_round
                        case rel => exact ⟨k + 1, by omega, by go_num, HFS⟩
                        case measure => simp [intOf]; omega
                    · obtain rfl : n = k := by omega
                      have hgo4 := HGO3.out
                      rw [show findSym l (j + 1) (X : Int) = none from by rw [← HK.out, ← HL.out]; rfl] at hgo4
                      have HGO4 := Lib.hid hgo4
                      clear hgo4 hkn hk ht htj hpt hv1
                      go_wp2
                      go_round
                      case rel => exact ⟨j + 1, by omega, by go_num, HGO4⟩
                      case measure => simp [intOf]; omega
    · obtain rfl : j = 15 := by omega
      have hgo := HVj.out
      simp only [Nat.sub_self, takeGo] at hgo
      have HGO := Lib.hid hgo
      clear hgo HVj
      go_wp2
      go_ret3
      rw [HGO.out]
      exact ⟨rfl, rfl⟩
end Go.Proofs.Ytbmhdacedicbjaa
