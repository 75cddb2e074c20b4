/-
  Walks of layer 16's reference: what is read; the marks.
-/
import Derived.Test.YtimeacigbacadaaRef02G
namespace Go.Proofs.Ytimeacigbacadaa
open Go.RowKit Go.Maps Go.Sort

def fB (f : Nat → Option UInt8) (i k : Nat) : List UInt8 := (List.range k).map fun q => (f (i + q)).getD 0
theorem fB_len (f : Nat → Option UInt8) (i k : Nat) : (fB f i k).length = k := by simp [fB]
theorem fB_snoc {f : Nat → Option UInt8} {i k : Nat} {c : UInt8} (h : f (i + k) = some c) : fB f i (k + 1) = fB f i k ++ [c] := by
  simp [fB, List.range_succ, h]

theorem rread_bad (t at_ most : Int) (l : Value) (w : World) (hb : at_ < 0 ∨ t < at_ ∨ most < 0) :
    Calls Try.prog 21 #[.int .i64 t, l, .int .i64 at_, .int .i64 most] w fun e w' => e = .returned (.tuple #[.string (mkB []), .bool false]) ∧ w' = w := by
  by_cases h1 : at_ < 0
  · go_enter Try.func21, Try.ntmps21
    go_wp2
    go_ret2
    exact ⟨rfl, rfl⟩
  · have d1 : decide (at_ < 0) = false := decide_eq_false h1
    by_cases h2 : t < at_
    · go_enter Try.func21, Try.ntmps21
      go_wp2
      go_ret2
      exact ⟨rfl, rfl⟩
    · have d2 : decide (t < at_) = false := decide_eq_false h2
      have d3 : decide (most < 0) = true := decide_eq_true (by omega)
      go_enter Try.func21, Try.ntmps21
      go_wp2
      go_ret2
      exact ⟨rfl, rfl⟩

set_option maxRecDepth 8000 in
set_option maxHeartbeats 2000000 in
theorem rread_any (a : Option Addr) (n cap : Nat) (l : List Pc) (t i m n' : Nat) (most : Int) (w : World) (hr : PRow w a n cap l) (hp : ∀ p ∈ l, p.at_ ≤ 4000000000) (ht : t ≤ 2000000000) (hi : i ≤ t) (h0 : 0 ≤ most) (h64 : most ≤ 9223372036854775807)
    (hm : FirstIs (byteP l) t i m) (hn : (n' : Int) = min most ((m : Int) - i)) :
    Calls Try.prog 21 #[.int .i64 t, .slice a n cap, .int .i64 i, .int .i64 most] w fun e w' => e = .returned (.tuple #[.string (mkB (fB (byteP l) i n')), .bool (decide (i + n' = t))]) ∧ Below w.heap.size w w' := by
  have HB := Lib.hid (fun (W : World) (h : Below w.heap.size w W) (j : Nat) (hj : j ≤ 4000000000) => rbyte_any a n cap l j W (hr.mono h) hj hp)
  have HM := Lib.hid hm
  have hmt := hm.le
  have hml := hm.lo hi
  have hd1 : decide ((i : Int) < 0) = false := decide_eq_false (by omega)
  have hd2 : decide ((t : Int) < i) = false := decide_eq_false (by omega)
  have hd2n : decide (t < i) = false := decide_eq_false (by omega)
  have hd3 : decide (most < 0) = false := decide_eq_false (by omega)
  have HN := Lib.hid hn
  have hnm : i + n' ≤ m := by omega
  have hnM : (n' : Int) ≤ most := by omega
  clear hr hp hm hn
  go_enter Try.func21, Try.ntmps21
  go_wp2
  go_loopw [10] (fun vo wr => ∃ j : Nat, j ≤ n' ∧ Hid (wr.ownsRow w.heap.size 5 1 vo (fB (byteP l) i j).length ((fB (byteP l) i j).map u8C)) ∧ Hid (Below w.heap.size w wr)) (fun vo _ => match vo with | .slice _ j _ => n' - j | _ => 0)
  case atStart => exact ⟨0, Nat.zero_le _, Lib.hid (World.ownsRow_nil _ _ _ _), Lib.hid (Below.refl _ _)⟩
  case round =>
    obtain ⟨j, hj, HO, HW⟩ := hrel
    have hcx := conv_own HO.out
    obtain ⟨a0, c0, hv, -, -⟩ := Row.of_owns HO.out
    rw [fB_len] at hv
    subst hv
    have hsz := HW.out.size
    have HCX := Lib.hid hcx
    clear hcx
    have i1 : IntKind.i64.wrap ((i : Int) + j) = (i : Int) + j := IntWalk.i64_in _ (by omega)
    obtain ⟨Q, hQ⟩ : ∃ Q, Q = i + j := ⟨_, rfl⟩
    have hsum : (i : Int) + (j : Int) = (Q : Int) := by omega
    have HQ := Lib.hid hQ
    have hQ4 : Q ≤ 2000000000 := by omega
    rw [fB_len] at HO
    by_cases hg : (j : Int) < most ∧ Q < t
    · have dg1 : decide ((j : Int) < most) = true := decide_eq_true hg.1
      have dg2 : decide (Q < t) = true := decide_eq_true hg.2
      have HC := Lib.hid (HB.out wr HW.out Q (by omega))
      obtain ⟨o, ho⟩ : ∃ o, o = byteP l Q := ⟨_, rfl⟩
      cases o with
      | none =>
        have hE := HM.out.off (j := Q) (by omega) (by omega) (by omega) ho.symm
        have hjn : j = n' := by have := HN.out; omega
        have HF := Lib.hid (show decide (i + n' = t) = false from decide_eq_false (by omega))
        have HO' := Lib.hid ho
        have HJN := Lib.hid hjn
        clear ho hE hQ hjn
        go_wp2_with fail
        refine HC.out.mono ?_
        rintro e w1 ⟨rfl, hb⟩
        rw [← HO'.out]
        dsimp only [byteV]
        have HW1 := Lib.hid (HW.out.trans (hb.mono HW.out.size))
        have hcx : (convert 39 9 (.slice a0 j c0)).run Try.prog w1 = .ok (.string (mkB (fB (byteP l) i j))) w1 := conv_own (by rw [fB_len]; exact ownsRow_keep HO.out hb)
        clear hb
        go_wp2
        go_ret2
        exact ⟨by rw [HF.out, HJN.out]; rfl, HW1.out⟩
      | some c =>
        have hE := HM.out.on (j := Q) (by omega) (by omega) hg.2 ho.symm
        have hjn : j < n' := by have := HN.out; omega
        have HSN := Lib.hid (fB_snoc (f := byteP l) (i := i) (k := j) (c := c) (by rw [← hQ]; exact ho.symm))
        have HO' := Lib.hid ho
        clear ho hE hQ
        go_wp2_with fail
        refine HC.out.mono ?_
        rintro e w1 ⟨rfl, hb⟩
        rw [← HO'.out]
        dsimp only [byteV]
        have HW1 := Lib.hid (HW.out.trans (hb.mono HW.out.size))
        have HO1 := Lib.hid (ownsRow_keep HO.out hb)
        have hsz1 := HW1.out.size
        clear hb
        go_wp2_with (at_builtin; refine append_row EByte rfl (.tmp 49) (.tmp 51) rfl w.heap.size _ j _ rfl (HO1.out.alloc _) _ 1 _ _ rfl (row_new1 _ _ _) (one_mem rfl) (by unfold maxLen; omega) (by omega) (by rw [sizeA]; omega) ?_; intro v' w5 hO5 hg5 hnil5; have HO5 := Lib.hid hO5; have HG5 := Lib.hid hg5; clear hO5 hg5 hnil5)
        obtain ⟨a5, c5, hv5, -, -⟩ := Row.of_owns HO5.out
        subst hv5
        go_roundw
        case rel => exact ⟨j + 1, hjn, Lib.hid (by rw [fB_len, HSN.out, List.map_append]; exact HO5.out), Lib.hid ((HW1.out.alloc hsz1 _).grown HG5.out (by rw [sizeA]; omega) (fun q hq => (HO1.out.lt q hq).1))⟩
        case measure => dsimp only; omega
    · have hjn : j = n' := by have := HN.out; omega
      have HF := Lib.hid (show ((Q : Int) == (t : Int)) = decide (i + n' = t) by rw [Bool.eq_iff_iff, beq_iff_eq, decide_eq_true_iff]; omega)
      have hcx : (convert 39 9 (.slice a0 j c0)).run Try.prog wr = .ok (.string (mkB (fB (byteP l) i j))) wr := HCX.out
      have HJN := Lib.hid hjn
      clear hQ hjn
      by_cases hg1 : (j : Int) < most
      · have dg1 : decide ((j : Int) < most) = true := decide_eq_true hg1
        have dg2 : decide (Q < t) = false := decide_eq_false (by omega)
        go_wp2
        go_ret2
        exact ⟨by rw [HF.out, HJN.out]; rfl, HW.out⟩
      · have dg1 : decide ((j : Int) < most) = false := decide_eq_false hg1
        go_wp2
        go_ret2
        exact ⟨by rw [HF.out, HJN.out]; rfl, HW.out⟩

theorem mk_next {f : Nat → Bool} {k n : Nat} {b : Bool} (h : f k = b) : fl n (fun j => if j = k then .bool b else .bool (decide (j < k) && f j)) = mkV (fun j => decide (j < k + 1) && f j) n :=
  fl_congr fun j _ => by
    by_cases e : j = k
    · subst e; simp [h]
    · have : (j < k) = (j < k + 1) := by simp; omega
      simp [e, this]

set_option maxRecDepth 8000 in
set_option maxHeartbeats 4000000 in
theorem rmarks_any (a : Option Addr) (n cap : Nat) (l : List Pc) (t : Nat) (w : World) (hr : PRow w a n cap l) (hp : ∀ p ∈ l, p.at_ ≤ 4000000000) (ht : t ≤ 1000000) :
    Calls Try.prog 27 #[.int .i64 t, .slice a n cap] w (MarksEnd (fun i => (byteP l i).isSome) t w) := by
  have HB := Lib.hid (fun (W : World) (h : Below w.heap.size w W) (j : Nat) (hj : j ≤ 4000000000) => rbyte_any a n cap l j W (hr.mono h) hj hp)
  clear hr hp
  go_enter Try.func27, Try.ntmps27
  go_wp2_with (at_make; refine make_full ETBl rfl _ _ rfl .i64 .i64 _ _ t rfl rfl rfl rfl (by omega) (by unfold maxLen; omega) ?_; intro w1 hown hb1; have HO1 := Lib.hid (own_congr hown (made_fl _ t)); have HB1 := Lib.hid hb1; clear hown hb1)
  go_loopw [6] (fun vi wr => ∃ j : Nat, vi = .int .i64 j ∧ j ≤ t ∧ Hid (wr.ownsRow w.heap.size 4 1 (.slice (some ⟨w.heap.size, 0, none⟩) t t) t (mkV (fun i => decide (i < j) && (byteP l i).isSome) t)) ∧ Hid (Below w.heap.size w wr)) (fun vi _ => t - (intOf vi).toNat)
  case atStart => exact ⟨0, rfl, Nat.zero_le _, Lib.hid (own_congr HO1.out (fl_congr fun j _ => by simp)), HB1⟩
  case round =>
    obtain ⟨j, rfl, hj, HO, HW⟩ := hrel
    by_cases hlt : j < t
    · have HC := Lib.hid (HB.out wr HW.out j (by omega))
      obtain ⟨o, ho⟩ : ∃ o, o = byteP l j := ⟨_, rfl⟩
      have HMK := Lib.hid (mk_next (f := fun i => (byteP l i).isSome) (k := j) (n := t) (b := o.isSome) (by rw [ho]))
      have HO' := Lib.hid ho
      clear ho
      cases o
      all_goals
        go_wp2_with fail
        refine HC.out.mono ?_
        rintro e w1 ⟨rfl, hb⟩
        rw [← HO'.out]
        dsimp only [byteV]
        have HW1 := Lib.hid (HW.out.trans (hb.mono HW.out.size))
        have HO2 := Lib.hid (ownsRow_keep HO.out hb)
        have hc := own_cell HO2.out j hlt
        have hfr := HO2.out.frozenAt j
        clear hb
        go_wp2
        go_roundw
        case rel => exact ⟨j + 1, by go_num, by omega, Lib.hid (own_congr (own_set HO2.out j _) HMK.out), Lib.hid (HW1.out.setCell (Nat.le_refl _) _)⟩
        case measure => simp [intOf]; omega
    · obtain rfl : j = t := by omega
      go_wp2
      go_ret
      exact ⟨_, rfl, own_congr HO.out (fl_congr fun i hi => by simp [hi]), HW.out⟩
end Go.Proofs.Ytimeacigbacadaa
