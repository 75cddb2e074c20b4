/-
  Walks of layer 16: the law's own example ('works').
-/
import Derived.Test.YtimeacigbacadaaSrc8
import Derived.BigQuiet
namespace Go.Proofs.Ytimeacigbacadaa
open Go.RowKit Go.Maps Go.Sort

set_option maxRecDepth 8000 in
set_option maxHeartbeats 8000000 in
theorem works_any (w : World) : Calls Try.prog 17 #[] w fun e w' => e = .returned (.bool true) ∧ Below w.heap.size w w' := by
  have HN := Lib.hid (new_any 5 w (by omega))
  have hcv := fun (W : World) (C : Array Value) (n c : Nat) => Lib.run_convert_bytes_const (P := Try.prog) W 39 5 C n c Try.underlying39 Try.underlying5
  go_enter Try.func17, Try.ntmps17
  go_wp2_with fail
  refine HN.out.mono ?_
  rintro e w1 ⟨p, U, rfl, hQ, hB, hU, hp⟩
  have hP1 := sput_any (N' := 2) (hQ.mono (belowA w1 _)) (by simp) 1 (row_bs (w := w1) [97, 98] 5 (by decide)) (fun _ x hx hUx => by
    cases hx
    exact absurd (hQ.lt _ hUx) (Nat.lt_irrefl _)) (by decide) (by decide) (by decide)
  have HP1 := Lib.hid hP1
  have hcv1 := hcv w1
  have HCV := Lib.hid hcv
  have HB := Lib.hid hB
  have HU := Lib.hid hU
  clear hP1 hQ hB hU hp hcv
  go_wp2_with fail
  refine HP1.out.mono ?_
  rintro e w2 ⟨rfl, U2, T2, C2, hQ2, hPS2, hC2, hK2, hU2⟩
  obtain ⟨hF2, hcov2⟩ := putS_form hPS2
  have hc2 : ∀ i : Nat, cov T2 i ↔ 1 ≤ i ∧ i < 3 := fun i => by
    rw [hcov2]
    have := cov_one 1 3 i
    constructor
    · rintro (h | h)
      · exact absurd h (cov_nil _)
      · exact this.1 h
    · exact fun h => .inr (this.2 h)
  have hl2 := putS_len hPS2
  have hu2 : uptoS T2 (1 : Nat) = (3 : Nat) := upto_is hF2 (by omega) (fun i hi => by rw [hc2]; omega)
  have hR2 := read_any hQ2 (by simp at hl2; omega) 1 (by decide) 9 (by decide) (by decide) (n := 2) (by rw [hu2]; decide)
  have hby2 : bytesC C2 1 2 = [97, 98] := by
    have e1 := (hC2 1).2 (cov_nil _) (by decide) (by decide)
    have e2 := (hC2 2).2 (cov_nil _) (by decide) (by decide)
    show [C2 (1 + 0), C2 (1 + 1)] = _
    rw [show 1 + 0 = 1 from rfl, show 1 + 1 = 2 from rfl, e1, e2]
    rfl
  have HR2 := Lib.hid hR2
  clear hcv1 hR2
  go_wp2_with fail
  refine HR2.out.mono ?_
  rintro e w3 ⟨v3, rfl, hO3, hb3⟩
  obtain ⟨a3, cap3, rfl, -, -⟩ := Row.of_owns hO3
  rw [hby2] at hO3
  have hQ3 := hQ2.mono hb3
  have hP4 := sput_any (N' := 6) (hQ3.mono (belowA w3 _)) (by simp at hl2; omega) 3 (row_bs (w := w3) [99, 100] 5 (by decide)) (fun _ x hx hUx => by
    cases hx
    exact absurd (hQ3.lt _ hUx) (Nat.lt_irrefl _)) (by decide) (by simp at hl2 ⊢; omega) (by decide)
  have hcv3 := HCV.out w3
  have HP4 := Lib.hid hP4
  have HL2 := Lib.hid hQ2.lt
  have hs3 := hb3.size
  have hK3 := hK2.trans (Keeps.of_below (S := fun b => w2.heap.size ≤ b) hb3 (fun _ h => h)) (fun b hb => .inr (by have := hK2.size; omega))
  have HK3 := Lib.hid hK3
  have HO3 := Lib.hid hO3
  have HQ3 := Lib.hid hQ3
  have HC2 := Lib.hid hC2
  have Hc2 := Lib.hid hc2
  have HU2 := Lib.hid hU2
  have Hl2 := Lib.hid hl2
  have H22 := Lib.hid (show w1.heap.size + 1 ≤ w2.heap.size from by have := hK2.size; rw [sizeA] at this; exact this)
  clear hP4 hQ2 hPS2 hC2 hK2 hU2 hF2 hcov2 hc2 hl2 hu2 hby2 hO3 hb3 hQ3 hK3
  go_wp2_with fail
  refine HP4.out.mono ?_
  rintro e w4 ⟨rfl, U4, T4, C4, hQ4, hPS4, hC4, hK4, hU4⟩
  obtain ⟨hF4, hcov4⟩ := putS_form hPS4
  have hc4 : ∀ i : Nat, cov T4 i ↔ 1 ≤ i ∧ i < 5 := fun i => by
    rw [hcov4]
    have h1 := cov_one 3 5 i
    have h2 := Hc2.out i
    constructor
    · rintro (h | h)
      · have := h2.1 h; omega
      · have := h1.1 h; omega
    · intro h
      by_cases h3 : i < 3
      · exact .inl (h2.2 ⟨h.1, h3⟩)
      · exact .inr (h1.2 ⟨by omega, h.2⟩)
  have hl4 := putS_len hPS4
  have hl4b : T4.length ≤ 2 := by have := Hl2.out; simp at this hl4; omega
  have hu4 : uptoS T4 (1 : Nat) = (5 : Nat) := upto_is hF4 (by omega) (fun i hi => by rw [hc4]; omega)
  have hu0 : uptoS T4 (0 : Nat) = (0 : Nat) := (upto_cov hF4 ((0 : Nat) : Int)).2 (fun e => absurd ((hc4 0).1 e) (by omega))
  have hR4 := read_any hQ4 (by omega) 1 (by decide) 9 (by decide) (by decide) (n := 4) (by rw [hu4]; decide)
  have hby4 : bytesC C4 1 4 = [97, 98, 99, 100] := by
    have e1 := ((HC2.out 1).2 (cov_nil _) (by decide) (by decide))
    have e2 := ((HC2.out 2).2 (cov_nil _) (by decide) (by decide))
    have e3 := (hC4 1).1 ((Hc2.out 1).2 (by omega))
    have e4 := (hC4 2).1 ((Hc2.out 2).2 (by omega))
    have e5 := (hC4 3).2 (fun e => absurd ((Hc2.out 3).1 e) (by omega)) (by decide) (by decide)
    have e6 := (hC4 4).2 (fun e => absurd ((Hc2.out 4).1 e) (by omega)) (by decide) (by decide)
    show [C4 (1 + 0), C4 (1 + 1), C4 (1 + 2), C4 (1 + 3)] = _
    rw [show 1 + 0 = 1 from rfl, show 1 + 1 = 2 from rfl, show 1 + 2 = 3 from rfl, show 1 + 3 = 4 from rfl, e3, e4, e5, e6, e1, e2]
    rfl
  have HR4 := Lib.hid hR4
  have HQ4 := Lib.hid hQ4
  have HK4 := Lib.hid hK4
  have HU0 := Lib.hid hu0
  have HU1 := Lib.hid hu4
  have HBY4 := Lib.hid hby4
  have HL4 := Lib.hid hl4b
  clear hcv3 hR4 hQ4 hPS4 hC4 hK4 hU4 hF4 hcov4 hc4 hl4 hu4 hu0 hby4 hl4b
  go_wp2_with fail
  refine HR4.out.mono ?_
  rintro e w5 ⟨v5, rfl, hO5, hb5⟩
  obtain ⟨a5, cap5, rfl, -, -⟩ := Row.of_owns hO5
  rw [HBY4.out] at hO5
  have HB5 := Lib.hid hb5
  have HO5 := Lib.hid hO5
  have HQ5 := Lib.hid (HQ4.out.mono hb5)
  have hs4 : w3.heap.size + 1 ≤ w4.heap.size := by have := HK4.out.size; rw [sizeA] at this; exact this
  have hs5 := hb5.size
  have hO35 := ownsRow_keep (owns_keeps (HO3.out.alloc (.cells ([99, 100].map u8C).toArray 5 ([99, 100].length, [99, 100].length + 1))) HK4.out (fun b hb e => by have h1 := (HO3.out.lt b hb).1; have h2 := HL2.out b e; omega)) hb5
  have hc3 := conv_own (o := [97, 98]) hO35
  have hc5 := conv_own (o := [97, 98, 99, 100]) hO5
  rw [show mkB [97, 98] = ⟨#[97, 98]⟩ from rfl] at hc3
  rw [show mkB [97, 98, 99, 100] = ⟨#[97, 98, 99, 100]⟩ from rfl] at hc5
  have HF1 := Lib.hid (fun (W : World) (q : Below w5.heap.size w5 W) => first_any (HQ5.out.mono q) (by have := HL4.out; omega) 1)
  have HF0 := Lib.hid (fun (W : World) (q : Below w5.heap.size w5 W) => first_any (HQ5.out.mono q) (by have := HL4.out; omega) 0)
  have HT := Lib.hid (fun (W : World) (q : Below w5.heap.size w5 W) => total_any (HQ5.out.mono q))
  rw [show max 0 (1 : Int) = ((1 : Nat) : Int) from rfl, HU1.out, show min ((5 : Nat) : Int) ((5 : Nat) : Int) = 5 from rfl] at HF1
  rw [show max 0 (0 : Int) = ((0 : Nat) : Int) from rfl, HU0.out, show min ((5 : Nat) : Int) ((0 : Nat) : Int) = 0 from rfl] at HF0
  rw [show ((5 : Nat) : Int) = 5 from rfl] at HT
  have HBB := Lib.hid (show Below w.heap.size w w5 from by
    have k1 : Keeps (fun b => w.heap.size ≤ b) w w1 := Keeps.of_below HB.out (fun _ h => h)
    have k3 := (k1.alloc (.cells ([97, 98].map u8C).toArray 5 ([97, 98].length, [97, 98].length + 1))).trans HK3.out (fun b hb => .inl (HU.out b hb))
    have k4 := (k3.alloc (.cells ([99, 100].map u8C).toArray 5 ([99, 100].length, [99, 100].length + 1))).trans HK4.out (fun b hb => by
      rcases HU2.out b hb with h | h
      · exact .inl (HU.out b h)
      · rw [sizeA] at h
        have := HB.out.size
        exact .inl (by omega))
    exact (k4.below (Nat.le_refl _) (fun b h => h)).trans (hb5.mono k4.size))
  clear hO5 hb5 hO35 hs3 hs4 hs5
  go_wp2_with fail
  refine (HF1.out _ (Below.refl _ _)).mono ?_
  rintro e w6 ⟨rfl, hb6⟩
  have HB6 := Lib.hid hb6
  clear hb6 hc3 hc5
  go_wp2_with fail
  refine (HF0.out _ HB6.out).mono ?_
  rintro e w7 ⟨rfl, hb7⟩
  have HB7 := Lib.hid (HB6.out.trans (hb7.mono HB6.out.size))
  clear hb7
  go_wp2_with fail
  refine (HT.out _ HB7.out).mono ?_
  rintro e w8 ⟨rfl, rfl⟩
  have HEND := Lib.hid (HBB.out.trans (HB7.out.mono HBB.out.size))
  go_wp2
  go_ret
  exact ⟨rfl, HEND.out⟩
end Go.Proofs.Ytimeacigbacadaa
