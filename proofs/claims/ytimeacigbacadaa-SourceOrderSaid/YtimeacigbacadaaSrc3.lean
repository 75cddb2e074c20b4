/-
  Walks of layer 16: what a source tells.
-/
import Derived.Test.YtimeacigbacadaaSrc2
import Derived.Test.YtimeacigbacadaaMissG
namespace Go.Proofs.Ytimeacigbacadaa
open Go.RowKit Go.Maps

def bytesC (C : Nat → UInt8) (at_ n : Nat) : List UInt8 := (List.range n).map fun i => C (at_ + i)
theorem bytesC_len (C : Nat → UInt8) (at_ n : Nat) : (bytesC C at_ n).length = n := by simp [bytesC]
theorem bytesC_add (C : Nat → UInt8) (at_ n m : Nat) : bytesC C at_ (n + m) = bytesC C at_ n ++ bytesC C (at_ + n) m := by
  unfold bytesC
  apply List.ext_getElem?
  intro j
  by_cases h : j < n
  · rw [List.getElem?_append_left (by simpa using h)]
    simp [h, show j < n + m by omega]
  · rw [List.getElem?_append_right (by simpa using h)]
    by_cases h2 : j < n + m
    · simp [h2, show j - n < m by omega, show at_ + n + (j - n) = at_ + j by omega]
    · simp [h2, show ¬ j - n < m by omega]
theorem uptoS_bd (b : Int) : ∀ (T : List (Int × Int)) (a : Int), (∀ x ∈ T, 0 ≤ x.1) → a ≤ uptoS T a ∧ (∀ j, a ≤ j → j < uptoS T a → cov T j) ∧ ((∀ x ∈ T, x.2 ≤ b) → a ≤ b → uptoS T a ≤ b)
  | [], a, _ => ⟨Int.le_refl _, fun j h1 h2 => by simp only [uptoS] at h2; omega, fun _ h => h⟩
  | x :: T, a, h => by
    obtain ⟨g1, g2, g3⟩ := uptoS_bd b T a (fun y hy => h y (List.mem_cons_of_mem _ hy))
    have h0 := h x (List.mem_cons_self ..)
    simp only [uptoS]
    by_cases hc : x.1 ≤ a ∧ a < x.2
    · rw [if_pos hc]
      refine ⟨by omega, fun j h1 h2 => ?_, fun hb _ => hb x (List.mem_cons_self ..)⟩
      rw [cov_cons]
      exact .inl ⟨h0, by omega, h2⟩
    · rw [if_neg hc]
      refine ⟨g1, fun j h1 h2 => ?_, fun hb ha => g3 (fun y hy => hb y (List.mem_cons_of_mem _ hy)) ha⟩
      rw [cov_cons]
      exact .inr (g2 j h1 h2)
/-- What Read leaves, of a place that there is. -/
def ReadEnd (C : Nat → UInt8) (at_ n tot : Nat) (w : World) (e : Ending) (w' : World) : Prop :=
  ∃ v, e = .returned (.tuple #[v, .bool (decide (at_ + n = tot))]) ∧ w'.ownsRow w.heap.size 5 1 v n ((bytesC C at_ n).map u8C) ∧ Below w.heap.size w w'

set_option maxRecDepth 8000 in
set_option maxHeartbeats 8000000 in
theorem read_any {w : World} {U : Nat → Prop} {p tot N : Nat} {T : List (Int × Int)} {C : Nat → UInt8} (h : SrcQ w U p tot N T C) (hT : T.length ≤ 100000) (at_ : Nat) (hat : at_ ≤ tot) (most : Int) (h0 : 0 ≤ most) (h64 : most ≤ 9223372036854775807)
    {n : Nat} (hn : (n : Int) = min most (uptoS T at_ - at_)) :
    Calls Try.prog 20 #[.pointer (some ⟨p, 0, none⟩), .int .i64 at_, .int .i64 most] w (ReadEnd C at_ n tot w) := by
  have HI := Lib.hid (is_any h)
  have HQ := Lib.hid h
  obtain ⟨S, v0, mb, nn, f, hs, -⟩ := h
  have HS := Lib.hid hs
  obtain ⟨-, c1, c2, c3⟩ := hs.cells
  have HUP := Lib.hid (upto_any (some ⟨p, 2, none⟩) T at_ w hs.set.toV (by omega))
  obtain ⟨u1, u2, u3⟩ := uptoS_bd tot T at_ (fun x hx => (hs.form.full x hx).1)
  have u4 := u3 hs.in_ (by omega)
  have htb := hs.totb
  have HCOV := Lib.hid (fun j (hj : at_ ≤ j) (hj2 : j < at_ + n) => u2 (j : Int) (by omega) (by omega))
  obtain ⟨up, hup⟩ : ∃ up, uptoS T at_ = up := ⟨_, rfl⟩
  rw [hup] at HUP hn u1 u4
  have hd1 : decide ((at_ : Int) < 0) = false := decide_eq_false (by omega)
  have hd2 : decide ((tot : Int) < at_) = false := decide_eq_false (by omega)
  have hd2n : decide (tot < at_) = false := decide_eq_false (by omega)
  have hd3 : decide (most < 0) = false := decide_eq_false (by omega)
  have hnt : at_ + n ≤ tot := by omega
  have hnn : min most (up - at_) = (n : Int) := hn.symm
  have hmk := info_parts EByte.info
  have h5 := hn
  clear hs u2 u3 hup hn hT
  go_enter Try.func20, Try.ntmps20
  go_wp2_with (go_at_call 34; refine HI.out.mono ?_; rintro e w' ⟨rfl, rfl⟩)
  refine HUP.out.mono ?_
  rintro e w1 ⟨rfl, hb1⟩
  obtain ⟨i0, hi0, hz0, hz1, hz2⟩ := hmk
  have HZ2 := Lib.hid hz2
  clear hz2
  have HS1 := Lib.hid (HS.out.mono hb1)
  have HB1 := Lib.hid hb1
  have hw1 := hb1.size
  clear hb1 c1 c2 c3 h5
  go_wp2_with (at_make; refine wpList_make_own _ rfl (.const (.int .i64 0)) (.tmp 41) 39 rfl w1.heap.size 5 i0 (.int .u8 0) 1 Try.underlying39 hi0 hz0 hz1 .i64 .i64 n n rfl rfl rfl (by rw [HZ2.out]; omega) (by unfold maxLen; omega) (Nat.le_refl _) ?_; intro w2 hO2 hg2; have HO2 := Lib.hid hO2; have HB2 := Lib.hid (below_of_grown hg2 (Nat.le_refl _) (fun k hk => by cases hk)); clear hO2 hg2)
  go_loopw [9] (fun v wr => ∃ (j : Nat) (a : Option Addr) (cap : Nat), v = .slice a j cap ∧ j ≤ n ∧ Hid (wr.ownsRow w1.heap.size 5 1 (.slice a j cap) j ((bytesC C at_ j).map u8C)) ∧ Hid (Below w1.heap.size w1 wr)) (fun v _ => match v with | .slice _ j _ => n - j | _ => 0)
  case atStart => exact ⟨0, _, n, rfl, Nat.zero_le _, Lib.hid HO2.out, HB2⟩
  case round =>
    obtain ⟨j, a, cap, rfl, hj, HO, HB⟩ := hrel
    have HSR := Lib.hid (HS1.out.mono HB.out)
    obtain ⟨-, c1, -, c3⟩ := HSR.out.cells
    have hw2 := HB.out.size
    by_cases hlt : j < n
    · obtain ⟨K, hK⟩ : ∃ K, K = (at_ + j) / 4096 := ⟨_, rfl⟩
      obtain ⟨O, hO⟩ : ∃ O, O = (at_ + j) % 4096 := ⟨_, rfl⟩
      obtain ⟨Q, hQ⟩ : ∃ Q, Q = at_ + j := ⟨_, rfl⟩
      have hsum : (at_ : Int) + (j : Int) = (Q : Int) := by omega
      have hq : (Q : Int) / 4096 = (K : Int) := by omega
      have hrm : (Q : Int) % 4096 = (O : Int) := by omega
      have hQ1 : Q ≤ 2147483647 := by omega
      have hO1 : O < 4096 := by omega
      have HKI := Lib.hid (show i64K (K : Int) from ⟨by omega, by omega⟩)
      obtain ⟨g, hg⟩ : ∃ g, f (K : Int) = some g := by
        have h1 := HSR.out.known (at_ + j) (HCOV.out (at_ + j) (by omega) (by omega))
        rw [← hK] at h1
        cases hf : f (K : Int) with
        | none => exact absurd hf h1
        | some g => exact ⟨g, rfl⟩
      have HF := Lib.hid hg
      have HG := Lib.hid (HSR.out.mem.blk K g hg)
      obtain ⟨m, hm⟩ : ∃ m : Nat, m = min (4096 - O) (n - j) := ⟨_, rfl⟩
      have hmi : min ((4096 - O : Nat) : Int) ((n : Int) - j) = (m : Int) := by omega
      have hml : O + m ≤ 4096 := by omega
      have hmn : j + m ≤ n := by omega
      have hm0 : 0 < m := by omega
      have HKO := Lib.hid (show 4096 * K + O = at_ + j by omega)
      have hji : decide ((j : Int) < n) = true := decide_eq_true (by omega)
      have hjn : decide (j < n) = true := decide_eq_true hlt
      have HROW := Lib.hid (show Row wr 1 (some ⟨g, O, none⟩) m (4096 - O) ((bytesC C (at_ + j) m).map u8C) from
        ⟨by rw [List.length_map, bytesC_len, Nat.mul_one], by omega, by unfold maxLen; omega, fun h => (by cases h), fun _ => ⟨g, O, rfl, (Array.getElem?_eq_some_iff.1 HG.out).1, fun i u hi => by
          have hil : i < m := by have := (List.getElem?_eq_some_iff.1 hi).1; simpa [bytesC_len] using this
          rw [cell_of_row _ _ _ _ _ _ HG.out]
          rw [List.getElem?_toArray, fl_get _ (by omega)]
          rw [← hi, List.getElem?_map]
          unfold bytesC
          simp [hil]
          have := HKO.out
          rw [show 4096 * K + (O + i) = at_ + j + i by omega]⟩⟩)
      have HONE := Lib.hid (show ∀ v ∈ (bytesC C (at_ + j) m).map u8C, v.oneCell' = true from fun v hv => by
        obtain ⟨x, -, rfl⟩ := List.mem_map.1 hv; rfl)
      have HADD := Lib.hid (show (bytesC C at_ (j + m)).map u8C = (bytesC C at_ j).map u8C ++ (bytesC C (at_ + j) m).map u8C by rw [bytesC_add, List.map_append])
      clear hK hO hg hm hlt hQ
      go_wp2_with (first
        | (at_lookup; refine wpList_lookF rfl (.tmp 60) (.tmp 61) rfl HSR.out.mem.map rfl rfl HKI.out HF.out ?_)
        | (at_builtin; refine append_row EByte rfl (.tmp 65) (.tmp 74) rfl w1.heap.size _ j _ rfl HO.out _ m _ _ rfl HROW.out HONE.out (by unfold maxLen; omega) (by omega) hw2 ?_; intro v' w5 hO5 hg5 hnil5; obtain ⟨a5, cap5, hv5, -⟩ := Row.of_owns hO5; subst hv5; have HO5 := Lib.hid hO5; have HB5 := Lib.hid (HB.out.grown hg5 hw2 (fun q hq => (HO.out.lt q hq).1)); clear hO5 hg5 hnil5))
      clear hsum hq hrm hmi hnn
      go_roundw
      case rel => exact ⟨j + m, a5, cap5, rfl, hmn, Lib.hid (by rw [HADD.out]; exact HO5.out), HB5⟩
      case measure =>
        show n - (j + m) < n - j
        omega
    · obtain rfl : j = n := by omega
      have i1 : IntKind.i64.wrap ((at_ : Int) + j) = (at_ : Int) + j := IntWalk.i64_in _ (by omega)
      have HBB := Lib.hid (fun q => HB1.out.trans ((below_drewN HB.out q).mono hw1))
      have HOO := Lib.hid (fun q => ownsRow_base (ownsRow_keep HO.out (below_drewN (Below.refl _ _) q)) hw1)
      clear hnn
      go_wp2
      go_quiet (fail)
      go_wp2
      go_ret2
      refine ⟨_, ?_, HOO.out _, HBB.out _⟩
      show Ending.returned (.tuple #[.slice a j cap, .bool ((at_ : Int) + j == (tot : Int))]) = _
      rw [show ((at_ : Int) + j == (tot : Int)) = decide (at_ + j = tot) by
        rw [Bool.eq_iff_iff, beq_iff_eq, decide_eq_true_iff]; omega]
end Go.Proofs.Ytimeacigbacadaa
