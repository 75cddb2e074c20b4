/-
  The walk of the law SpanSets: for all spans it returns true and leaves all that was there as it was.
-/
import Derived.Test.YtbmhdacedicbjaaSetsP
import Derived.Test.YtbmhdacedicbjaaRef02
namespace Go.Proofs.Ytbmhdacedicbjaa
open Go.RowKit Go.Sort

/-- A set, made since a world, beside a row of marks. -/
def BesideM (w0 w : World) (p : Nat) (T : List (Int × Int)) (a : Option Addr) (c : Nat) (m : Nat → Bool) : Prop :=
  ∃ S : Nat → Prop, SetQ w S p T ∧ (∀ b, S b → w0.heap.size ≤ b) ∧ Below w0.heap.size w0 w ∧ Row w 1 a 301 c (mkV m 301) ∧ ∀ z, a = some z → ¬ S z.block ∧ z.block < w.heap.size
theorem BesideM.mono {w0 w w' : World} {p : Nat} {T : List (Int × Int)} {a : Option Addr} {c : Nat} {m : Nat → Bool} (h : BesideM w0 w p T a c m) (hb : Below w.heap.size w w') : BesideM w0 w' p T a c m := by
  obtain ⟨S, h1, h2, h3, h4, h5⟩ := h
  exact ⟨S, h1.mono hb, h2, h3.trans (hb.mono h3.size), h4.mono hb, fun z hz => ⟨(h5 z hz).1, Nat.lt_of_lt_of_le (h5 z hz).2 hb.size⟩⟩
theorem BesideM.below {w0 w : World} {p : Nat} {T : List (Int × Int)} {a : Option Addr} {c : Nat} {m : Nat → Bool} (h : BesideM w0 w p T a c m) : Below w0.heap.size w0 w := by
  obtain ⟨S, h1, h2, h3, h4, h5⟩ := h
  exact h3
theorem BesideM.v {w0 w : World} {p : Nat} {T : List (Int × Int)} {a : Option Addr} {c : Nat} {m : Nat → Bool} (h : BesideM w0 w p T a c m) : SetV w (some ⟨p, 0, none⟩) T := by
  obtain ⟨S, h1, h2, h3, h4, h5⟩ := h
  exact h1.toV
theorem BesideM.row {w0 w : World} {p : Nat} {T : List (Int × Int)} {a : Option Addr} {c : Nat} {m : Nat → Bool} (h : BesideM w0 w p T a c m) : Row w 1 a 301 c (mkV m 301) := by
  obtain ⟨S, h1, h2, h3, h4, h5⟩ := h
  exact h4
theorem bm_make {w0 w w' : World} {p : Nat} {T : List (Int × Int)} {a : Option Addr} {c : Nat} {m : Nat → Bool} {S : Nat → Prop} (h1 : SetQ w S p T) (h2 : ∀ b, S b → w0.heap.size ≤ b) (h3 : Below w0.heap.size w0 w)
    (hO : w'.ownsRow w.heap.size 4 1 (.slice a 301 c) 301 (mkV m 301)) (hb : Below w.heap.size w w') : BesideM w0 w' p T a c m := by
  have hlt := h1.lt
  exact ⟨S, h1.mono hb, h2, h3.trans (hb.mono h3.size), (Row.of_own hO).2, fun z hz => by
    have := hO.lt z.block (by simp [Value.ownBlock, hz])
    exact ⟨fun e => by have := hlt _ e; omega, this.2⟩⟩
theorem BesideM.make {w0 w w' : World} {p : Nat} {T : List (Int × Int)} {a a' : Option Addr} {c c' : Nat} {m m' : Nat → Bool} (h : BesideM w0 w p T a c m) (hO : w'.ownsRow w.heap.size 4 1 (.slice a' 301 c') 301 (mkV m' 301)) (hb : Below w.heap.size w w') : BesideM w0 w' p T a' c' m' := by
  obtain ⟨S, h1, h2, h3, h4, h5⟩ := h
  exact bm_make h1 h2 h3 hO hb
theorem putM2_any (w0 : World) (p : Nat) (T : List (Int × Int)) (a : Option Addr) (c : Nat) (m : Nat → Bool) (n : Nat) (C C' : Int → Prop) (x y : Int) (w : World) (h : BesideM w0 w p T a c m) (hT : SetOk T n C) (hn : n ≤ 100000)
    (hx : -9223372036854775808 ≤ x ∧ x ≤ 9223372036854775807 ∧ -9223372036854775808 ≤ y ∧ y ≤ 9223372036854775807) (hC : ∀ k, C' k ↔ C k ∨ cov [(x, y)] k) :
    Calls Try.prog 35 #[.pointer (some ⟨p, 0, none⟩), .agg #[.int .i64 x, .int .i64 y]] w fun e w' => e = .returned (.tuple #[]) ∧ ∃ T, SetOk T (n + 1) C' ∧ BesideM w0 w' p T a c m := by
  obtain ⟨S, h1, h2, h3, h4, h5⟩ := h
  refine (put_any p S T x y w h1 (hT.fit hx) (Nat.le_trans hT.len hn)).mono ?_
  rintro e w' ⟨rfl, T', hP, S', hq, hk, hS'⟩
  have hs := h3.size
  exact ⟨rfl, T', hT.put hP hx.2.2.2 hC, S', hq, fun b hb => (hS' b hb).elim (h2 b) (fun e => by omega), h3.trans (hk.below hs h2), h4.keeps hk (fun z hz => (h5 z hz).1),
    fun z hz => ⟨fun e => (hS' _ e).elim (h5 z hz).1 (fun e => by have := (h5 z hz).2; omega), Nat.lt_of_lt_of_le (h5 z hz).2 hk.size⟩⟩

theorem markOf_of {T L : List (Int × Int)} (h : ∀ z ∈ L, z.2 ≤ 301) (hc : ∀ j, cov T j ↔ cov L j) : MarkOf T (marks L) := fun j => by
  rw [hc j, marks_iff]
  constructor
  · intro hc
    obtain ⟨x, hx, h0, h1, h2⟩ := hc
    have := h x hx
    refine ⟨by omega, by omega, ?_⟩
    rw [Int.toNat_of_nonneg (by omega)]
    exact ⟨x, hx, h0, h1, h2⟩
  · rintro ⟨h0, h1, h2⟩
    rwa [Int.toNat_of_nonneg h0] at h2
theorem cov_take_succ2 (l : List (Int × Int)) (k : Nat) (hk : k < l.length) (j : Int) : cov (l.take (k + 1)) j ↔ cov (l.take k) j ∨ cov [l.getD k (0, 0)] j := by
  rw [take_succ_getD l k hk, cov_append]
theorem SetOk.congr2 {T : List (Int × Int)} {n : Nat} {C C' : Int → Prop} (h : SetOk T n C) (hC : ∀ k, C k ↔ C' k) : SetOk T n C' := ⟨h.form, fun k => (h.cov_ k).trans (hC k), h.len, h.le⟩

/-- What is missing, below a number. -/
def missF (m : Nat → Bool) (z : Int × Int) (j i : Nat) : Bool := decide (i < j) && (inB z i && !m i)
theorem missF_step {m : Nat → Bool} {z : Int × Int} {j : Nat} {V : Bool} (h : (inB z j && !m j) = V) : fl 301 (fun i => if i = j then .bool V else .bool (missF m z j i)) = mkV (missF m z (j + 1)) 301 :=
  fl_congr fun i _ => by
    unfold missF
    by_cases e : i = j
    · subst e; simp [h]
    · have : (i < j) = (i < j + 1) := by simp; omega
      simp [e, this]

set_option maxRecDepth 8000 in
set_option maxHeartbeats 4000000 in
theorem law_sets (a : Option Addr) (n cap : Nat) (l : List (Int × Int)) (x y : Int) (w : World) (hr : SRow w a n cap l) (hf : Fit l) :
    Calls Try.prog 8 #[.slice a n cap, .agg #[.int .i64 x, .int .i64 y]] w fun e w' => e = .returned (.bool true) ∧ Below w.heap.size w w' := by
  have hm := hr.i64
  have hl := hr.len
  have hb0 := belowA w (.cells #[.int .i64 x, .int .i64 y] 56)
  have hbx : (w.alloc (.cells #[.int .i64 x, .int .i64 y] 56)).heap[w.heap.size]? = some (.cells #[.int .i64 x, .int .i64 y] 56 (0, 0)) := heapA_new _ rfl
  have hs0 := sizeA w (.cells #[.int .i64 x, .int .i64 y] 56)
  have HR := Lib.hid (hr.mono hb0)
  have HB0 := Lib.hid hb0
  have HBX := Lib.hid hbx
  have HF := Lib.hid hf
  have HL := Lib.hid hl
  have HS0 := Lib.hid hs0
  clear hr hb0 hbx hf hl hs0
  go_enter Try.func8, Try.ntmps8
  go_wp2_with (at_make; refine make_full ETBl rfl _ _ rfl .i64 .i64 _ _ 301 rfl rfl rfl rfl (by omega) (by unfold maxLen; omega) ?_; intro w1 hown hb1; have HO := Lib.hid (own_congr hown (made_fl _ 301)); have HB1 := Lib.hid hb1; have kb := block_keep hb1 (heapA_old (.cells #[.slice none 0 0] 63) HBX.out); have k0 := cell_of_row w1 _ 0 _ _ _ kb; have k1 := cell_of_row w1 _ 1 _ _ _ kb; clear hown hb1 kb)
  clear k0 k1
  generalize w.alloc (.cells #[.int .i64 x, .int .i64 y] 56) = w0 at *
  obtain ⟨p, hp⟩ : ∃ p, p = w.heap.size + 1 := ⟨_, rfl⟩
  rw [← hp] at HS0 ⊢
  have hns := new_set w0
  have hnb := belowA w0 (.cells #[.slice none 0 0] 63)
  have hns2 := sizeA w0 (.cells #[.slice none 0 0] 63)
  generalize w0.alloc (.cells #[.slice none 0 0] 63) = wq at *
  rw [HS0.out] at hns hns2
  have hM1 : BesideM w0 w1 p [] (some ⟨wq.heap.size, 0, none⟩) 301 (fun _ => false) := bm_make hns (fun b hb => by have : b = p := hb; have := HS0.out; omega) hnb HO.out HB1.out
  rw [hns2] at hM1
  have hp2 : p + 1 = w.heap.size + 1 + 1 := by omega
  rw [← hp] at hp2
  obtain ⟨ai, hai⟩ : ∃ ai, ai = some (⟨p + 1, 0, none⟩ : Addr) := ⟨_, rfl⟩
  rw [← hai] at hM1 ⊢
  have HM1 := Lib.hid hM1
  clear HO HB1 hns hnb hns2 hM1 hp2 hai hp
  refine (small_any x y w1).mono ?_
  rintro e w2 ⟨rfl, hb2⟩
  have HM2 := Lib.hid (HM1.out.mono hb2)
  clear hb2 HM1
  obtain ⟨s, hs⟩ : ∃ s, smB x y = s := ⟨_, rfl⟩
  rw [hs]
  cases s
  · clear hs
    go_wp2_with (go_at_call 29; refine (works2 _).mono ?_; rintro e w' ⟨rfl, hb⟩)
    go_ret
    have hM3 := HM2.out.mono hb
    exact ⟨rfl, HB0.out.trans (hM3.below.mono HB0.out.size)⟩
  obtain ⟨s1, s2, s3, s4⟩ := (smB_iff x y).1 hs
  clear hs
  go_wp2_with (go_at_call 29; refine (works2 _).mono ?_; rintro e w3 ⟨rfl, hb⟩; have HM3 := Lib.hid (HM2.out.mono hb); clear hb)
  go_loopw [6, 7] (fun vin vi wr => ∃ (k : Nat) (T : List (Int × Int)) (am : Option Addr) (cm : Nat), vi = .int .i64 k ∧ vin = .slice am 301 cm ∧ k ≤ n ∧ k ≤ 40 ∧ Hid (∀ z ∈ l.take k, z.2 ≤ 301) ∧ Hid (SetOk T k (cov (l.take k))) ∧ Hid (BesideM w0 wr p T am cm (marks (l.take k)))) (fun _ vi _ => n - (intOf vi).toNat)
  case atStart => exact ⟨0, [], ai, 301, rfl, rfl, Nat.zero_le _, Nat.zero_le _, Lib.hid (fun z h => by simp at h), Lib.hid (SetOk.nil.congr2 fun j => by simp [cov_nil]), HM3⟩
  case round =>
    obtain ⟨k, T, am, cm, rfl, rfl, hk, hk40, HSM, HT, HM⟩ := hrel
    by_cases hlt : k < n ∧ k < 40
    · obtain ⟨hlt, hlt2⟩ := hlt
      obtain ⟨b, off, rfl, hbw, hc⟩ := SRow.at HR.out k hlt
      obtain ⟨g0, g1⟩ := hc k hlt
      have hlk : k < l.length := by rw [HL.out]; exact hlt
      obtain ⟨x1, y1, hxy⟩ : ∃ x1 y1, l.getD k (0, 0) = (x1, y1) := ⟨_, _, rfl⟩
      have hts := take_succ_getD l k hlk
      have hC1 := cov_take_succ2 l k hlk
      rw [hxy] at g0 g1 hts hC1
      simp only at g0 g1
      have HT1 := Lib.hid hts
      have HC1 := Lib.hid hC1
      have G0 : ∀ W, Below w0.heap.size w0 W → W.cell? ⟨b, off + k * 2, none⟩ = some (.int .i64 x1) := fun W h => cell?_keep h g0
      have G1 : ∀ W, Below w0.heap.size w0 W → W.cell? ⟨b, off + k * 2 + 1, none⟩ = some (.int .i64 y1) := fun W h => cell?_keep h g1
      have HG0 := Lib.hid G0
      have HG1 := Lib.hid G1
      clear hc hxy hts hC1 g0 g1 G0 G1
      have c0 := HG0.out _ HM.out.below
      have c1 := HG1.out _ HM.out.below
      go_wp2_with fail
      refine (small_any x1 y1 wr).mono ?_
      rintro e w4 ⟨rfl, hb4⟩
      have HM4 := Lib.hid (HM.out.mono hb4)
      clear hb4 c0 c1
      obtain ⟨s, hs⟩ : ∃ s, smB x1 y1 = s := ⟨_, rfl⟩
      rw [hs]
      cases s
      · clear hs
        go_wp2_with (go_at_call 29; refine (works2 _).mono ?_; rintro e w' ⟨rfl, hb⟩)
        go_ret
        have hM5 := HM4.out.mono hb
        exact ⟨rfl, HB0.out.trans (hM5.below.mono HB0.out.size)⟩
      obtain ⟨q1, q2, q3, q4⟩ := (smB_iff x1 y1).1 hs
      have HSM2 : Hid (∀ z ∈ l.take (k + 1), z.2 ≤ 301) := Lib.hid fun z hz => by
        rw [HT1.out] at hz
        rcases List.mem_append.1 hz with h | h
        · exact HSM.out z h
        · simp at h; subst h; show y1 ≤ 301; omega
      clear hs
      have c0 := HG0.out _ HM4.out.below
      have c1 := HG1.out _ HM4.out.below
      go_wp2_with fail
      refine (putM2_any w0 p T am cm (marks (l.take k)) k _ _ x1 y1 w4 HM4.out HT.out (by omega) (by omega) HC1.out).mono ?_
      rintro e w5 ⟨rfl, T', hT', hM5⟩
      have HT' := Lib.hid hT'
      have HM5 := Lib.hid hM5
      clear c0 c1 hT' hM5 HM4 HM
      have c0 := HG0.out _ HM5.out.below
      have c1 := HG1.out _ HM5.out.below
      go_wp2_with fail
      refine (rput_any am 301 cm (marks (l.take k)) x1 y1 w5 HM5.out.row (by omega) (by omega)).mono ?_
      rintro e w6 ⟨v6, rfl, hO6, hb6⟩
      obtain ⟨a6, c6, rfl, _, _⟩ := Row.of_owns hO6
      have hM6 := HM5.out.make (m' := marks (l.take (k + 1))) (own_congr hO6 (fl_congr fun j _ => by rw [HT1.out, marks_snoc])) hb6
      have HM6 := Lib.hid hM6
      have hTl : T'.length ≤ 100 := by have := HT'.out.len; omega
      clear c0 c1 hO6 hb6 hM6
      go_wp2_with fail
      refine (all_any _ T' w6 HM6.out.v (by omega)).mono ?_
      rintro e w7 ⟨v7, rfl, hO7, hb7⟩
      obtain ⟨a7, c7, rfl, hr7, _⟩ := Row.of_owns hO7
      have hM7 := HM6.out.mono hb7
      have HM7 := Lib.hid hM7
      have HR7 := Lib.hid hr7
      clear hO7 hb7 hr7 hM7
      go_wp2_with fail
      refine (rspans_any a6 301 c6 _ w7 HM7.out.row (by omega)).mono ?_
      rintro e w8 ⟨S, v8, hS, rfl, hO8, hb8⟩
      obtain ⟨a8, c8, rfl, hr8, _⟩ := Row.of_owns hO8
      have hmo : MarkOf T' (marks (l.take (k + 1))) := markOf_of HSM2.out HT'.out.cov_
      obtain rfl : T' = S := form_unique HT'.out.form hS.form (fun j => by rw [hmo j, hS.cov_ j]; rfl)
      have HM8 := Lib.hid (HM7.out.mono hb8)
      have HSA := Lib.hid (same_any a7 a8 _ _ c7 c8 _ _ w8 (HR7.out.mono hb8) hr8)
      clear hS hO8 hb8 hr8 hmo
      go_wp2_with fail
      refine HSA.out.mono ?_
      rintro e w9 ⟨rfl, q, hq⟩
      have HM9 : Hid (BesideM w0 w9 p T' a6 c6 (marks (l.take (k + 1)))) := Lib.hid (HM8.out.mono (by rw [hq]; have h := Below.refl w8.heap.size w8; exact ⟨h.os, h.tape, h.output, h.size, h.block⟩))
      clear hq
      go_wp2
      go_roundw
      case rel => exact ⟨k + 1, T', a6, c6, by go_num, rfl, by omega, by omega, HSM2, HT', HM9⟩
      case measure => simp [intOf]; omega
    · have HMO : Hid (MarkOf T (marks (l.take k))) := Lib.hid (markOf_of HSM.out HT.out.cov_)
      have HFM := Lib.hid HT.out.form
      have hTl : T.length ≤ 100 := by have := HT.out.len; omega
      generalize marks (l.take k) = m at *
      clear HT HSM
      have hex : decide (k < n) = false ∨ (k < n ∧ decide (k < 40) = false) := by
        by_cases h : k < n
        · exact .inr ⟨h, by rw [decide_eq_false_iff_not]; omega⟩
        · exact .inl (by simpa using h)
      clear hlt hk40 HM2 HM3 HF HL
      generalize wr = wx at *
      rcases hex with d1 | ⟨d1, d2⟩ <;> (
      (try have hk1 : ¬ k < n := by simpa using d1)
      (try have hk2 : ¬ k < 40 := by simpa using d2)
      go_wp2_with (at_make; refine make_full ETBl rfl _ _ rfl .i64 .i64 _ _ 301 rfl rfl rfl rfl (by omega) (by unfold maxLen; omega) ?_; intro w4 hown hb4; have HO := Lib.hid (own_congr hown (made_fl _ 301)); have HB4 := Lib.hid hb4; clear hown hb4)
      obtain ⟨G, hG⟩ : ∃ G, G = wx.heap.size := ⟨_, rfl⟩
      rw [← hG] at HO ⊢
      have HG := Lib.hid hG
      clear hG
      go_loopw [8, 9, 11] (fun vn vh vi w5 => ∃ j : Nat, vi = .int .i64 j ∧ j ≤ 301 ∧ vn = .int .i64 (cntB m j) ∧ vh = .bool (hasR m (x, y) j) ∧ Hid (w5.ownsRow G 4 1 (.slice (some ⟨G, 0, none⟩) 301 301) 301 (mkV (missF m (x, y) j) 301)) ∧ Hid (Below wx.heap.size wx w5)) (fun _ _ vi _ => 301 - (intOf vi).toNat)
      case atStart => exact ⟨0, rfl, Nat.zero_le _, rfl, rfl, Lib.hid (own_congr HO.out (fl_congr fun i _ => by simp [missF])), HB4⟩
      case round =>
        obtain ⟨j, rfl, hj, rfl, rfl, HOm, HBm⟩ := hrel
        have HM5 := Lib.hid (HM.out.mono HBm.out)
        have hbx := block_keep HM5.out.below HBX.out
        have k0 : wr.cell? ⟨w.heap.size, 0, none⟩ = some (.int .i64 x) := by rw [cell_of_row wr _ 0 _ _ _ hbx]; rfl
        have k1 : wr.cell? ⟨w.heap.size, 1, none⟩ = some (.int .i64 y) := by rw [cell_of_row wr _ 1 _ _ _ hbx]; rfl
        by_cases hlt : j < 301
        · obtain ⟨b, off, rfl, _, hc⟩ := Row.at (enc := fun i => Value.bool (m i)) 0 (l := List.range 301) HM5.out.row j hlt
          have hck := hc j hlt
          rw [show (List.range 301).getD j 0 = j from by simp [List.getD, hlt]] at hck
          have hmc := own_cell HOm.out j hlt
          have hmf := HOm.out.frozenAt j
          obtain ⟨hc0, hc1⟩ := cntB_bd m j
          have hN1 : cntB m (j + 1) = cntB m j + if m j = true then 1 else 0 := rfl
          have hH1 : hasR m (x, y) (j + 1) = (hasR m (x, y) j && !(inB (x, y) j && !m j)) := rfl
          have HST := fun V => @missF_step m (x, y) j V
          have hcases : (inB (x, y) j = false ∧ decide (0 ≤ x) = false) ∨ (inB (x, y) j = false ∧ decide (0 ≤ x) = true ∧ decide (x ≤ (j : Int)) = false) ∨ (inB (x, y) j = false ∧ decide (0 ≤ x) = true ∧ decide (x ≤ (j : Int)) = true ∧ decide ((j : Int) < y) = false) ∨ (inB (x, y) j = true ∧ decide (0 ≤ x) = true ∧ decide (x ≤ (j : Int)) = true ∧ decide ((j : Int) < y) = true) := by
            have hu : inB (x, y) j = (decide (0 ≤ x) && decide (x ≤ (j : Int)) && decide ((j : Int) < y)) := rfl
            rw [hu]
            generalize decide (0 ≤ x) = t1
            generalize decide (x ≤ (j : Int)) = t2
            generalize decide ((j : Int) < y) = t3
            revert t1 t2 t3
            decide
          generalize cntB m j = N at *
          generalize hasR m (x, y) j = h at *
          obtain ⟨c, hmj⟩ : ∃ c, m j = c := ⟨_, rfl⟩
          rw [hmj] at hck hN1 hH1 HST
          have HN1 := Lib.hid hN1
          have HH1 := Lib.hid hH1
          have HST2 := Lib.hid HST
          clear hc hN1 hH1 HST hmj hbx
          rcases hcases with ⟨e, e1⟩ | ⟨e, e1, e2⟩ | ⟨e, e1, e2, e3⟩ | ⟨e, e1, e2, e3⟩ <;> cases c <;> cases h <;> (
            rw [e] at HH1 HST2
            clear e
            go_wp2
            go_roundw
            case rel => exact ⟨j + 1, by go_num, by omega, by rw [HN1.out]; simp, by rw [HH1.out]; rfl, Lib.hid (own_congr (own_set HOm.out j _) (HST2.out _ rfl)), Lib.hid (HBm.out.setCell (by have := HG.out; simp only; omega) _)⟩
            case measure => simp [intOf]; omega)
        · obtain rfl : j = 301 := by omega
          obtain ⟨cn, hcn⟩ : ∃ cn, cn = cntB m 301 := ⟨_, rfl⟩
          obtain ⟨hs, hhs⟩ : ∃ hs, hs = hasR m (x, y) 301 := ⟨_, rfl⟩
          rw [← hcn, ← hhs]
          have hTb : ∀ z ∈ T, 0 ≤ z.1 ∧ z.1 ≤ z.2 ∧ z.2 ≤ 1000000000 := fun z hz => by
            have h1 := HFM.out.full z hz
            have h2 := HMO.out.bd HFM.out z hz
            omega
          have HSIZE : Hid (∀ W, SetV W (some ⟨p, 0, none⟩) T → Calls Try.prog 39 #[.pointer (some ⟨p, 0, none⟩)] W fun e w' => e = .returned (.int .i64 cn) ∧ Below W.heap.size W w') := Lib.hid fun W h => by
            have := size_any _ T W h (by omega) hTb
            rwa [HMO.out.size HFM.out, ← hcn] at this
          have HHAS : Hid (∀ W, SetV W (some ⟨p, 0, none⟩) T → Calls Try.prog 40 #[.pointer (some ⟨p, 0, none⟩), .agg #[.int .i64 x, .int .i64 y]] W fun e w' => e = .returned (.bool hs) ∧ Below W.heap.size W w') := Lib.hid fun W h => by
            have := has_any _ T x y W h (by omega)
            rwa [HMO.out.has HFM.out (x := (x, y)) s4, ← hhs] at this
          have hrm := (Row.of_own HOm.out).2
          have HRM : Hid (Row wr 1 (some ⟨G, 0, none⟩) 301 301 (mkV (fun i => inB (x, y) i && !m i) 301)) := Lib.hid (by
            have e : mkV (missF m (x, y) 301) 301 = mkV (fun i => inB (x, y) i && !m i) 301 := fl_congr fun i hi => by simp [missF, hi]
            rwa [e] at hrm)
          clear hcn hhs hTb hrm HOm
          go_wp2
          generalize wr = wy at *
          go_loopw [13] (fun vu wr => ∃ u : Int, vu = .int .i64 u ∧ u ≤ 301 ∧ -300 ≤ u ∧ Hid (UpTo m x u) ∧ Hid (wr = wy)) (fun vu _ => (301 - intOf vu).toNat)
          case atStart => exact ⟨x, rfl, by omega, s1, Lib.hid ⟨Int.le_refl _, fun j h1 h2 => by omega⟩, Lib.hid rfl⟩
          case round =>
            obtain ⟨u, rfl, hu1, hu2, HU, HW⟩ := hrel
            obtain rfl := HW.out
            obtain ⟨b, off, rfl, _, hcell0⟩ := Row.at (enc := fun i => Value.bool (m i)) 0 (l := List.range 301) HM5.out.row 0 (by omega)
            have hcell : ∀ v : Nat, v < 301 → wr.cell? ⟨b, off + v, none⟩ = some (.bool (m v)) := fun v hv => by
              have h1 := hcell0 v hv
              rwa [show (List.range 301).getD v 0 = v from by simp [List.getD, hv]] at h1
            have HCELL := Lib.hid hcell
            clear hcell0 hcell
            by_cases hc : 0 ≤ u ∧ u < 301 ∧ m u.toNat = true
            · obtain ⟨c1, c2, c3⟩ := hc
              obtain ⟨v, rfl⟩ : ∃ v : Nat, u = (v : Int) := ⟨u.toNat, by omega⟩
              rw [Int.toNat_natCast] at c3
              have hv : v < 301 := by omega
              have hck := HCELL.out v hv
              rw [c3] at hck
              have HU2 : Hid (UpTo m x ((v : Int) + 1)) := Lib.hid ⟨by have := HU.out.ge; omega, fun j h1 h2 => by
                by_cases e : j = (v : Int)
                · subst e; exact ⟨c1, c2, by rw [Int.toNat_natCast]; exact c3⟩
                · exact HU.out.all j h1 (by omega)⟩
              clear c3
              go_wp2
              go_roundw
              case rel => exact ⟨(v : Int) + 1, by go_num, by omega, by omega, HU2, Lib.hid (by trivial)⟩
              case measure => simp [intOf]; omega
            · have HUP := Lib.hid (UpTo.eq HMO.out HFM.out HU.out hc)
              have hcs : decide (0 ≤ u) = false ∨ (decide (0 ≤ u) = true ∧ decide (u < 301) = false) ∨ (decide (0 ≤ u) = true ∧ decide (u < 301) = true ∧ ∃ v : Nat, u = (v : Int) ∧ v < 301 ∧ m v = false) := by
                by_cases h1 : 0 ≤ u
                · by_cases h2 : u < 301
                  · refine .inr (.inr ⟨by simpa using h1, by simpa using h2, u.toNat, by omega, by omega, ?_⟩)
                    rw [Bool.eq_false_iff]
                    exact fun h3 => hc ⟨h1, h2, h3⟩
                  · exact .inr (.inl ⟨by simpa using h1, by simpa using h2⟩)
                · exact .inl (by simpa using h1)
              clear hc
              rcases hcs with e1 | ⟨e1, e2⟩ | ⟨e1, e2, v, rfl, hv, hmv⟩ <;> (
                try (have hck := HCELL.out v hv; rw [hmv] at hck; clear hmv)
                go_wp2_with fail
                refine (HSIZE.out _ HM5.out.v).mono ?_
                rintro e wa ⟨rfl, hba⟩
                have ka0 := cell?_keep hba k0
                have ka1 := cell?_keep hba k1
                have HMa := Lib.hid (HM5.out.mono hba)
                have HRa := Lib.hid (HRM.out.mono hba)
                clear hba k0 k1
                go_wp2_with fail
                refine (HHAS.out _ HMa.out.v).mono ?_
                rintro e wb ⟨rfl, hbb⟩
                have kb0 := cell?_keep hbb ka0
                have kb1 := cell?_keep hbb ka1
                have HMb := Lib.hid (HMa.out.mono hbb)
                have HRb := Lib.hid (HRa.out.mono hbb)
                clear hbb ka0 ka1
                go_wp2_with fail
                refine (upto_any _ T x wb HMb.out.v (by omega)).mono ?_
                rintro e wc ⟨rfl, hbc⟩
                rw [HUP.out]
                have kc0 := cell?_keep hbc kb0
                have kc1 := cell?_keep hbc kb1
                have HMc := Lib.hid (HMb.out.mono hbc)
                have HRc := Lib.hid (HRb.out.mono hbc)
                clear hbc kb0 kb1
                go_wp2_with fail
                refine (missing_any _ T x y wc HMc.out.v (by omega)).mono ?_
                rintro e wd ⟨vd, rfl, hOd, hbd⟩
                obtain ⟨ad, cd, rfl, hrd, _⟩ := Row.of_owns hOd
                have HMd := Lib.hid (HMc.out.mono hbd)
                have HRd := Lib.hid (HRc.out.mono hbd)
                have HSd := Lib.hid hrd
                clear hbd kc0 kc1 hOd hrd
                go_wp2_with fail
                refine (rspans_any (some ⟨G, 0, none⟩) 301 301 _ wd HRd.out (by omega)).mono ?_
                rintro e we ⟨S, ve, hS, rfl, hOe, hbe⟩
                obtain ⟨ae, ce, rfl, hre, _⟩ := Row.of_owns hOe
                obtain rfl : missS T (x, y) = S := HMO.out.miss HFM.out (x := (x, y)) s4 hS
                have HMe := Lib.hid (HMd.out.mono hbe)
                have HSA := Lib.hid (same_any ad ae _ _ cd ce _ _ we (HSd.out.mono hbe) hre)
                clear hS hOe hbe hre
                go_wp2_with fail
                refine HSA.out.mono ?_
                rintro e wf ⟨rfl, q, hq⟩
                have HMf : Hid (BesideM w0 wf p T (some ⟨b, off, none⟩) cm m) := Lib.hid (HMe.out.mono (by rw [hq]; have h := Below.refl we.heap.size we; exact ⟨h.os, h.tape, h.output, h.size, h.block⟩))
                clear hq
                go_wp2
                go_ret
                exact ⟨rfl, HB0.out.trans (HMf.out.below.mono HB0.out.size)⟩)
      )
end Go.Proofs.Ytbmhdacedicbjaa
