/-
  The walk of the law HuffGets: for all lengths and bytes it returns true and leaves all that was there as it was.
-/
import Derived.Test.YtbmhdacedicbjaaGetsP
import Derived.Test.YtbmhdacedicbjaaWorks4
import Derived.Test.YtbmhdacedicbjaaStab2
namespace Go.Proofs.Ytbmhdacedicbjaa
open Go.RowKit Go.Sort

theorem rd_drewN {w : World} {r : Nat} {bs : List UInt8} {high : Bool} {at_ : Nat} (h : IsRd w r bs high at_) (q : Nat) : IsRd (w.drewN q) r bs high at_ :=
  ⟨by obtain ⟨a, c, h1, h2, h3⟩ := h.ex; exact ⟨a, c, h1, h2.mono (below_drewN (Below.refl _ _) q), h3⟩, h.le, h.small⟩
theorem row_step {w : World} {a : Option Addr} {bs : List UInt8} {high : Bool} {at_ m c : Nat} (h : Row w 1 a m c ((bl bs high at_ m).map Value.bool)) (t : Nat) (ht : t ≤ m) (q : Nat) :
    Row (w.drewN q) 1 (a.map fun x => x.add t) (m - t) (c - t) ((bl bs high (at_ + t) (m - t)).map Value.bool) := by
  have := (h.dropAt t ht).mono (below_drewN (Below.refl _ _) q)
  rwa [← List.map_drop, bl_drop] at this
theorem row_step0 {w : World} {a : Option Addr} {bs : List UInt8} {high : Bool} {at_ m : Nat} (h : Row w 1 a m m ((bl bs high at_ m).map Value.bool)) (q : Nat) :
    Row (w.drewN q) 1 a 0 0 ((bl bs high (at_ + m) 0).map Value.bool) := by
  have := h.dropAll.mono (below_drewN (Below.refl _ _) q)
  rwa [← List.map_drop, bl_drop, Nat.sub_self] at this

set_option maxRecDepth 8000 in
set_option maxHeartbeats 2000000 in
theorem law_gets (a ab : Option Addr) (n cap cb : Nat) (l : List Int) (bs : List UInt8) (high : Bool) (w : World) (hr : Row w 1 a n cap (l.map (Value.int .i64))) (hb : Row w 1 ab bs.length cb (bs.map fun b => Value.int .u8 b.toNat)) :
    Calls Try.prog 3 #[.slice a n cap, .slice ab bs.length cb, .bool high] w (LawEnd w) := by
  have hm := hr.i64
  have hmb := hb.i64
  have hl := hr.len1
  obtain ⟨L, hL⟩ : ∃ L, L = bs.length := ⟨_, rfl⟩
  have HLN := Lib.hid hL
  rw [← hL] at hmb hb ⊢
  clear hL
  by_cases hbig : 400 < (n : Int)
  · go_enter Try.func3, Try.ntmps3
    go_wp2_with (go_at_call 13; refine (works4 _).mono ?_; rintro e w' ⟨rfl, hb⟩)
    go_ret
    exact ⟨rfl, hb⟩
  by_cases hbig2 : 60 < (L : Int)
  · go_enter Try.func3, Try.ntmps3
    go_wp2_with (go_at_call 13; refine (works4 _).mono ?_; rintro e w' ⟨rfl, hb⟩)
    go_ret
    exact ⟨rfl, hb⟩
  by_cases hroom : 0 ≤ roomV l
  · have h0n : 0 < n := by have := (roomV_ok hroom).1; omega
    have hn320 : n ≤ 320 := by have := (roomV_ok hroom).2.1; omega
    have ha : a ≠ none := fun e => by have := hr.2.2.2.1 e; have := hr.2.1; omega
    have hablt : ∀ x, a = some x → x.block < w.heap.size := hr.lt h0n
    have HABLT := Lib.hid hablt
    have HROOM := Lib.hid hroom
    have HA := Lib.hid ha
    clear hl hroom ha hablt
    go_enter Try.func3, Try.ntmps3
    go_wp2_with fail
    refine (new_ok 320 stable320 a n cap l w hr HROOM.out hn320 HA.out).mono ?_
    rintro e w1 ⟨p, rfl, hT1, hb1⟩
    have hr1 := hr.mono hb1
    have hbb1 := hb.mono hb1
    have hsz1 := hb1.size
    clear hr hb
    go_wp2_with fail
    refine (rcodes_ok a n cap l w1 hr1 HROOM.out).mono ?_
    rintro e w2 ⟨v2, rfl, hO2, hb2⟩
    obtain ⟨aC, cC, rfl, hrC, _⟩ := Row.of_owns hO2
    have hr2 := hr1.mono hb2
    have hbb2 := hbb1.mono hb2
    have hT2 := hT1.mono hb2
    have hbw2 := hb1.trans (hb2.mono hsz1)
    have hsz2 := hb2.size
    have hClt := hrC.lt h0n
    clear hr1 hbb1 hT1 hO2 hb1 hb2
    have HT2 := Lib.hid hT2
    have HR2 := Lib.hid hr2
    have HC2 := Lib.hid hrC
    have HB2 := Lib.hid hbw2
    have HCLT := Lib.hid hClt
    clear hT2 hr2 hrC hbw2 hClt
    go_wp2_with fail
    rw [HLN.out] at hbb2
    rw [HLN.out]
    refine (read_any ab cb bs high w2 hbb2 (by rw [← HLN.out]; omega)).mono ?_
    rintro e w3 ⟨r, rfl, hR3, hrl, hb3⟩
    have hbb3 := hbb2.mono hb3
    have hsz3 := hb3.size
    have hTr : IsTb w3 (fun b => b ≠ r) p l := (HT2.out.mono hb3).weaken (fun b h => by
      have h2 : b < w1.heap.size := h.2
      show b ≠ r
      omega)
    have hr3 := HR2.out.mono hb3
    have hC3 := HC2.out.mono hb3
    have hbw3 := HB2.out.trans (hb3.mono (by omega))
    have har : ∀ x, a = some x → x.block ≠ r := fun x hx => by have := HABLT.out x hx; omega
    have haCr : ∀ x, aC = some x → x.block ≠ r := fun x hx => by have := HCLT.out x hx; omega
    clear hbb2 hb3 HT2 HR2 HC2 HB2
    have HTR := Lib.hid hTr
    have HR3 := Lib.hid hr3
    have HC3 := Lib.hid hC3
    have HB3 := Lib.hid hbw3
    have HAR := Lib.hid har
    have HACR := Lib.hid haCr
    have HRD3 := Lib.hid hR3
    have hrw : w.heap.size ≤ r := by omega
    have hr3lt : r < w3.heap.size := by obtain ⟨⟨q1, q2, q3, _⟩, _⟩ := hR3; exact (Array.getElem?_eq_some_iff.1 q3).1
    clear hTr hr3 hC3 hbw3 har haCr hR3
    go_wp2_with fail
    refine (bits_any ab cb bs high w3 hbb3 (by rw [← HLN.out]; omega)).mono ?_
    rintro e w4 ⟨v4, rfl, hO4, hb4⟩
    obtain ⟨aB, cB, rfl, hrB, hBb⟩ := Row.of_owns hO4
    rw [bitsL_bl] at hrB
    have hsz4 := hb4.size
    have HT4 := Lib.hid (HTR.out.mono hb4)
    have HR4 := Lib.hid (HR3.out.mono hb4)
    have HC4 := Lib.hid (HC3.out.mono hb4)
    have HBW4 := Lib.hid (HB3.out.trans (hb4.mono (by omega)))
    have HRB := Lib.hid hrB
    have hBr : ∀ x, aB = some x → x.block ≠ r := fun x hx => by have := hBb x hx; omega
    have HBR := Lib.hid hBr
    have hRD4 : IsRd w4 r bs high 0 := by
      obtain ⟨⟨q1, q2, q3, q4, q5⟩, q6, q7⟩ := HRD3.out
      exact ⟨⟨q1, q2, block_keep hb4 q3, q4.mono hb4, q5⟩, q6, q7⟩
    have HRD4 := Lib.hid hRD4
    clear hO4 hb4 hrB hBb hBr hRD4 hbb3 HTR HR3 HC3 HB3 HRD3
    obtain ⟨M, hM⟩ : ∃ M, M = 8 * bs.length := ⟨_, rfl⟩
    have HM := Lib.hid hM
    rw [← hM]
    clear hM
    go_wp2
    go_loopw [12, 13] (fun va vi wr => ∃ (k at_ m c : Nat) (aB : Option Addr), va = .slice aB m c ∧ vi = .int .i64 k ∧ k ≤ 500 ∧ Hid (at_ + m = 8 * bs.length) ∧ Hid (IsRd wr r bs high at_) ∧ Hid (Row wr 1 aB m c ((bl bs high at_ m).map Value.bool)) ∧ Hid (∀ x, aB = some x → x.block ≠ r) ∧ Hid (w4.grownBy wr (some r))) (fun _ vi _ => 500 - (intOf vi).toNat)
    case atStart => exact ⟨0, 0, M, cB, aB, rfl, rfl, by omega, Lib.hid (by have := HM.out; omega), HRD4, Lib.hid (by rw [HM.out]; exact HRB.out), HBR, Lib.hid (grownBy_refl _ _)⟩
    case round =>
      obtain ⟨k, at_, m, c, aK, rfl, rfl, hk, HEQ, HRDk, HRBk, HBRk, HG⟩ := hrel
      clear HRD4 HRB HBR
      have hmi := HRBk.out.i64
      by_cases hlt : k < 500
      · have htg := tget_any _ p r l bs high at_ wr (HT4.out.kept HG.out (by simp)) HRDk.out (by simp)
        have hM2 : 8 * bs.length - at_ = m := by have := HEQ.out; omega
        have hle := takeV_le l (fun k => bitAt bs high (at_ + k)) m
        have htk := fun (W : World) (q1 : Row W 1 a n cap (l.map (Value.int .i64))) (q2 : Row W 1 aC n cC (fl n (cdV l n))) (q3 : Row W 1 aK m c ((bl bs high at_ m).map Value.bool)) => take_any a aC aK n cap cC m c l (bl bs high at_ m) W q1 q2 q3 HROOM.out
        simp only [takeV_bl] at htk
        rw [hM2] at htg
        clear hM2
        generalize takeV l (fun k => bitAt bs high (at_ + k)) m = V at *
        obtain ⟨s, t, er⟩ := V
        simp only at htg htk hle
        have HTG := Lib.hid htg
        have HTK := Lib.hid htk
        clear htg htk
        have hleft := fun (W : World) (q : IsRd W r bs high (at_ + t)) => left_any r bs high (at_ + t) W q
        rw [show 8 * bs.length - (at_ + t) = m - t from by have := HEQ.out; omega] at hleft
        have HLF := Lib.hid hleft
        clear hleft
        have hti : (t : Int) ≤ (m : Int) := by omega
        have hend : ∀ (W W' : World), w4.grownBy W (some r) → Below W.heap.size W W' → Below w.heap.size w W' := fun W W' q1 q2 => (HBW4.out.grown q1 HBW4.out.size (fun q hq => by cases hq; exact hrw)).trans (q2.mono (Nat.le_trans HBW4.out.size q1.size))
        have HEND := Lib.hid hend
        clear hend
        by_cases hct : c = t
        · subst hct
          obtain rfl : m = c := by have := HRBk.out.2.1; omega
          by_cases her : er = 0
          · subst her
            go_wp2_with (first
              | (go_at_call 18; refine HTG.out.mono ?_; rintro e w5 ⟨rfl, hR5, hG5⟩; have hGG := grownBy_trans HG.out hG5; have HT5 := Lib.hid (HTK.out w5 (HR4.out.kept hGG HAR.out) (HC4.out.kept hGG HACR.out) (HRBk.out.kept hG5 HBRk.out)); have HL5 := Lib.hid (HLF.out w5 hR5); have HR5 := Lib.hid hR5; have HG5 := Lib.hid hG5; have HGG := Lib.hid hGG; clear hR5 hG5 hGG)
              | (go_at_call 19; refine HT5.out.mono ?_; rintro e w6 ⟨rfl, rfl⟩)
              | (go_at_call 20; refine HL5.out.mono ?_; rintro e w6 ⟨rfl, q, rfl⟩))
            go_roundw
            case rel => exact ⟨k + 1, at_ + m, 0, 0, _, rfl, by go_num, by omega, Lib.hid (by have := HEQ.out; omega), Lib.hid (rd_drewN HR5.out q), Lib.hid (row_step0 (HRBk.out.kept HG5.out HBRk.out) q), Lib.hid (HBRk.out), Lib.hid (grownBy_drewN HGG.out q)⟩
            case measure => simp [intOf]; omega
          · have her2 : (er == 0) = false := by rw [beq_eq_false_iff_ne]; exact her
            go_wp2_with (first
              | (go_at_call 18; refine HTG.out.mono ?_; rintro e w5 ⟨rfl, hR5, hG5⟩; have hGG := grownBy_trans HG.out hG5; have HT5 := Lib.hid (HTK.out w5 (HR4.out.kept hGG HAR.out) (HC4.out.kept hGG HACR.out) (HRBk.out.kept hG5 HBRk.out)); have HL5 := Lib.hid (HLF.out w5 hR5); have HR5 := Lib.hid hR5; have HG5 := Lib.hid hG5; have HGG := Lib.hid hGG; clear hR5 hG5 hGG)
              | (go_at_call 19; refine HT5.out.mono ?_; rintro e w6 ⟨rfl, rfl⟩)
              | (go_at_call 20; refine HL5.out.mono ?_; rintro e w6 ⟨rfl, q, rfl⟩)
              | (go_at_call 13; refine (works4 _).mono ?_; rintro e w' ⟨rfl, hb⟩))
            go_ret
            exact ⟨rfl, HEND.out _ _ (grownBy_drewN HGG.out q) hb⟩
        · by_cases her : er = 0
          · subst her
            go_wp2_with (first
              | (go_at_call 18; refine HTG.out.mono ?_; rintro e w5 ⟨rfl, hR5, hG5⟩; have hGG := grownBy_trans HG.out hG5; have HT5 := Lib.hid (HTK.out w5 (HR4.out.kept hGG HAR.out) (HC4.out.kept hGG HACR.out) (HRBk.out.kept hG5 HBRk.out)); have HL5 := Lib.hid (HLF.out w5 hR5); have HR5 := Lib.hid hR5; have HG5 := Lib.hid hG5; have HGG := Lib.hid hGG; clear hR5 hG5 hGG)
              | (go_at_call 19; refine HT5.out.mono ?_; rintro e w6 ⟨rfl, rfl⟩)
              | (go_at_call 20; refine HL5.out.mono ?_; rintro e w6 ⟨rfl, q, rfl⟩))
            go_roundw
            case rel => exact ⟨k + 1, at_ + t, m - t, c - t, _, rfl, by go_num, by omega, Lib.hid (by have := HEQ.out; omega), Lib.hid (rd_drewN HR5.out q), Lib.hid (row_step (HRBk.out.kept HG5.out HBRk.out) t hle q), Lib.hid (blk_dropAt HBRk.out), Lib.hid (grownBy_drewN HGG.out q)⟩
            case measure => simp [intOf]; omega
          · have her2 : (er == 0) = false := by rw [beq_eq_false_iff_ne]; exact her
            go_wp2_with (first
              | (go_at_call 18; refine HTG.out.mono ?_; rintro e w5 ⟨rfl, hR5, hG5⟩; have hGG := grownBy_trans HG.out hG5; have HT5 := Lib.hid (HTK.out w5 (HR4.out.kept hGG HAR.out) (HC4.out.kept hGG HACR.out) (HRBk.out.kept hG5 HBRk.out)); have HL5 := Lib.hid (HLF.out w5 hR5); have HR5 := Lib.hid hR5; have HG5 := Lib.hid hG5; have HGG := Lib.hid hGG; clear hR5 hG5 hGG)
              | (go_at_call 19; refine HT5.out.mono ?_; rintro e w6 ⟨rfl, rfl⟩)
              | (go_at_call 20; refine HL5.out.mono ?_; rintro e w6 ⟨rfl, q, rfl⟩)
              | (go_at_call 13; refine (works4 _).mono ?_; rintro e w' ⟨rfl, hb⟩))
            go_ret
            exact ⟨rfl, HEND.out _ _ (grownBy_drewN HGG.out q) hb⟩
      · go_wp2_with (go_at_call 13; refine (works4 _).mono ?_; rintro e w' ⟨rfl, hb⟩)
        go_ret
        exact ⟨rfl, (HBW4.out.grown HG.out HBW4.out.size (fun q hq => by cases hq; exact hrw)).trans (hb.mono (Nat.le_trans HBW4.out.size HG.out.size))⟩
  · have hroom2 : roomV l < 0 := by omega
    go_enter Try.func3, Try.ntmps3
    go_wp2_with (first
      | (go_at_call 14; refine (new_bad _ _ _ l _ hr hroom2).mono ?_; rintro e w1 ⟨rfl, hb1⟩; have hr1 := hr.mono hb1)
      | (go_at_call 15; refine (rcodes_bad _ _ _ l _ hr1 hroom2).mono ?_; rintro e w' ⟨rfl, rfl⟩)
      | (go_at_call 13; refine (works4 _).mono ?_; rintro e w' ⟨rfl, hb2⟩))
    go_ret
    exact ⟨rfl, hb1.trans (hb2.mono hb1.size)⟩
end Go.Proofs.Ytbmhdacedicbjaa
