/-
  Walks of layer 16's reference: the byte at a place.
-/
import Derived.Test.YtimeacigbacadaaPcP
namespace Go.Proofs.Ytimeacigbacadaa
open Go.RowKit

theorem belowN {B : Nat} {a w : World} (h : Below B a w) (n : Nat) : Below B a (w.drewN n) := ⟨h.os, h.tape, h.output, h.size, h.block⟩
def byteV : Option UInt8 → Value
  | none => .tuple #[.int .u8 0, .bool false]
  | some c => .tuple #[.int .u8 c.toNat, .bool true]
def ByteEnd (l : List Pc) (i : Nat) (w : World) (e : Ending) (w' : World) : Prop := e = .returned (byteV (byteP l i)) ∧ Below w.heap.size w w'

set_option maxHeartbeats 2000000 in
theorem rbyte_any (a : Option Addr) (n cap : Nat) (l : List Pc) (i : Nat) (w : World) (hr : PRow w a n cap l) (hi : i ≤ 4000000000) (hp : ∀ p ∈ l, p.at_ ≤ 4000000000) :
    Calls Try.prog 36 #[.slice a n cap, .int .i64 i] w (ByteEnd l i w) := by
  have HR := Lib.hid hr
  have HP := Lib.hid hp
  have HL := Lib.hid hr.len
  have hmx := hr.row.i64
  obtain ⟨V, hV⟩ : ∃ V, V = byteP l i := ⟨_, rfl⟩
  have HV := Lib.hid hV
  clear hr hp hV
  go_enter Try.func36, Try.ntmps36
  go_wp2
  go_loopw [6] (fun vk wr => ∃ k : Nat, vk = .int .i64 k ∧ k ≤ n ∧ Hid (V = byteP (l.drop k) i) ∧ Hid (Below w.heap.size w wr)) (fun vk _ => n - (intOf vk).toNat)
  case atStart => exact ⟨0, rfl, Nat.zero_le _, HV, Lib.hid (Below.refl _ _)⟩
  case round =>
    obtain ⟨k, rfl, hk, HK, HB⟩ := hrel
    by_cases hlt : k < n
    · obtain ⟨b, off, rfl, hbw, c0, c1⟩ := (HR.out.mono HB.out).at k hlt
      have hlk : k < l.length := by rw [HL.out]; exact hlt
      have hpb := HP.out _ (getD_memP hlk)
      have hrw := (HR.out.mono HB.out).each _ (getD_memP hlk)
      have HD := Lib.hid (fun h => HK.out.trans (byteP_drop_out (i := i) hlk h))
      have HE := Lib.hid (fun h => HK.out.trans (byteP_drop_in (i := i) hlk h))
      generalize l.getD k default = p at *
      obtain ⟨pat, pa, pcap, pbs⟩ := p
      simp only at c0 c1 hpb hrw
      have hmx2 := hrw.i64
      have HRW := Lib.hid hrw
      clear hrw
      by_cases h1 : pat ≤ i
      · have d1 : decide (pat ≤ i) = true := decide_eq_true h1
        by_cases h2 : i < pat + pbs.length
        · have d2 : decide ((i : Int) - pat < pbs.length) = true := decide_eq_true (by omega)
          have HEV := Lib.hid (HE.out ⟨h1, h2⟩)
          obtain ⟨b2, o2, hab, hb2, hcell⟩ := HRW.out.at 0 0 (by omega)
          subst hab
          have hc2 := hcell (i - pat) (by omega)
          obtain ⟨Q, hQ⟩ : ∃ Q, i - pat = Q := ⟨_, rfl⟩
          obtain ⟨x, hx⟩ : ∃ x, pbs.getD (i - pat) 0 = x := ⟨_, rfl⟩
          have HEV2 : Hid (V = some x) := Lib.hid (by rw [HEV.out, ← hx])
          rw [hx, hQ] at hc2
          have hq : (i : Int) - pat = (Q : Int) := by omega
          have hQl : Q < pbs.length := by omega
          clear hcell HD HE HEV hx hQ
          go_wp2
          go_quiet (fail)
          go_wp2
          go_quiet (fail)
          go_wp2
          go_ret2
          refine ⟨by rw [← HV.out, HEV2.out]; rfl, ?_⟩
          exact belowN (belowN HB.out _) _
        · have d2 : decide ((i : Int) - pat < pbs.length) = false := decide_eq_false (by omega)
          have HK' := Lib.hid (HD.out (fun h => h2 h.2))
          clear HD HE
          go_wp2
          go_quiet (fail)
          go_wp2
          go_roundw
          case rel => exact ⟨k + 1, by go_num, by omega, HK', Lib.hid (belowN HB.out _)⟩
          case measure => simp [intOf]; omega
      · have d1 : decide (pat ≤ i) = false := decide_eq_false h1
        have HK' := Lib.hid (HD.out (fun h => h1 h.1))
        clear HD HE
        go_wp2
        go_quiet (fail)
        go_wp2
        go_roundw
        case rel => exact ⟨k + 1, by go_num, by omega, HK', Lib.hid (belowN HB.out _)⟩
        case measure => simp [intOf]; omega
    · obtain rfl : k = n := by omega
      have HN : Hid (V = none) := Lib.hid (by rw [HK.out, List.drop_of_length_le (by rw [HL.out]; exact Nat.le_refl _)]; rfl)
      go_wp2
      go_ret2
      exact ⟨by rw [← HV.out, HN.out]; rfl, HB.out⟩
end Go.Proofs.Ytimeacigbacadaa
