/-
  The walk of the law HuffBack: for all lengths and symbols it returns true and leaves all that was there as it was.
-/
import Derived.Test.YtbmhdacedicbjaaBackQ
import Derived.Test.YtbmhdacedicbjaaGetsP
namespace Go.Proofs.Ytbmhdacedicbjaa
open Go.RowKit Go.Sort

theorem rd_mono {w w' : World} {r : Nat} {bs : List UInt8} {high : Bool} {at_ : Nat} (h : IsRd w r bs high at_) (hb : Below w.heap.size w w') : IsRd w' r bs high at_ :=
  ⟨by obtain ⟨a, c, h1, h2, h3⟩ := h.ex; exact ⟨a, c, block_keep hb h1, h2.mono hb, h3⟩, h.le, h.small⟩
theorem rd_drewN {w : World} {r : Nat} {bs : List UInt8} {high : Bool} {at_ : Nat} (h : IsRd w r bs high at_) (q : Nat) : IsRd (w.drewN q) r bs high at_ := rd_mono h (below_drewN (Below.refl _ _) q)

/-- Behind a Put: what the loop has is still there. -/
theorem back_mid {l : List Int} {high : Bool} {wb : Nat} {w2 wr w5 : World} {ss : List Nat} {vin : Value} {S : Nat → Prop} {B : List Bool} (h : BackAt l high wb w2 ss vin S wr) (hn : WrNext wr S wb high B w5) {bl o : Nat} {u : Value} (hbl : bl < wb) (hc : wr.cell? ⟨bl, o, none⟩ = some u) :
    w5.ownsRow (wb + 1) 3 1 vin ss.length (symV ss) ∧ w5.cell? ⟨bl, o, none⟩ = some u ∧ wr.heap.size ≤ w5.heap.size := by
  obtain ⟨S2, hq, hk, hS⟩ := hn
  exact ⟨owns_keeps h.own hk h.apart, hk.cell hc (fun hs => by have := (h.wr_.lt _ hs).1; omega), hk.size⟩

set_option maxRecDepth 8000 in
set_option maxHeartbeats 8000000 in
theorem law_back (a aS : Option Addr) (n cap m cS : Nat) (l sy : List Int) (high : Bool) (w : World) (hr : Row w 1 a n cap (l.map (Value.int .i64))) (hs : Row w 1 aS m cS (sy.map (Value.int .i64))) :
    Calls Try.prog 6 #[.slice a n cap, .slice aS m cS, .bool high] w (LawEnd w) := by
  have hm := hr.i64
  have hms := hs.i64
  have hl := hr.len1
  have hls := hs.len1
  by_cases hbig : 400 < (n : Int)
  · go_enter Try.func6, Try.ntmps6
    go_wp2_with (go_at_call 13; refine (works4 _).mono ?_; rintro e w' ⟨rfl, hb⟩)
    go_ret
    exact ⟨rfl, hb⟩
  by_cases hroom : 0 ≤ roomV l
  · have h0n : 0 < n := by have := (roomV_ok hroom).1; omega
    have hn320 : n ≤ 320 := by have := (roomV_ok hroom).2.1; omega
    have hok1 := (roomV_ok hroom).2.2.1
    have ha : a ≠ none := fun e => by have := hr.2.2.2.1 e; have := hr.2.1; omega
    have HL := Lib.hid hl
    have HLS := Lib.hid hls
    have HROOM := Lib.hid hroom
    have HOK := Lib.hid hok1
    have HA := Lib.hid ha
    have H15 := Lib.hid (fun s => lenN_le hok1 s)
    clear hl hls hroom ha hok1
    go_enter Try.func6, Try.ntmps6
    go_wp2_with fail
    refine (new_ok 320 stable320 a n cap l w hr HROOM.out hn320 HA.out).mono ?_
    rintro e w1 ⟨p, rfl, hT1, hb1⟩
    have hr1 := hr.mono hb1
    have hs1 := hs.mono hb1
    have hsz1 := hb1.size
    clear hr hs
    go_wp2_with fail
    refine (new_wr high w1).mono ?_
    rintro e w2 ⟨rfl, hQ2, hb2, hsz2⟩
    obtain ⟨wb, hwb⟩ : ∃ wb, wb = w1.heap.size := ⟨_, rfl⟩
    have hr2 := Lib.hid (hr1.mono hb2)
    have hs2 := Lib.hid (hs1.mono hb2)
    have hT2 := Lib.hid ((hT1.mono hb2).weaken (Bl' := fun b => b < w1.heap.size) (fun b h => h.2))
    have HB2 := Lib.hid (hb1.trans (hb2.mono hsz1))
    rw [← hwb] at hQ2 hT2 hb2 hsz2 hsz1 ⊢
    have HQ2 := Lib.hid hQ2
    have hrB : ∀ x, a = some x → x.block < wb := fun x hx => by rw [hwb]; exact hr1.lt h0n x hx
    have hsB : 0 < m → ∀ x, aS = some x → x.block < wb := fun h0 x hx => by rw [hwb]; exact hs1.lt h0 x hx
    have HRB := Lib.hid hrB
    have HSB := Lib.hid hsB
    have hw2 : wb < w2.heap.size := by omega
    clear hr1 hs1 hT1 hb1 hb2 hQ2 hwb hrB hsB hsz2
    go_wp2
    go_loopw [10, 11] (fun vin vi wr => ∃ (k : Nat) (ss : List Nat) (S : Nat → Prop), vi = .int .i64 k ∧ k ≤ m ∧ k ≤ 60 ∧ ss.length ≤ k ∧ Hid (BackAt l high wb w2 ss vin S wr)) (fun _ vi _ => m - (intOf vi).toNat)
    case atStart => exact ⟨0, [], _, rfl, by omega, by omega, by simp, Lib.hid ⟨HQ2.out, World.ownsRow_nil _ _ _ _, fun b h => (by cases h), Below.refl _ _, fun s h => by cases h⟩⟩
    case round =>
      obtain ⟨k, ss, S, rfl, hkm, hk60, hssk, HK⟩ := hrel
      by_cases hlt : k < m
      · by_cases hlt6 : k < 60
        · obtain ⟨bs, os, rfl, hbs, hcs⟩ := (hs2.out.below (HK.out.below.mono (Nat.le_refl _)) (fun x hx => by have := HSB.out (by omega) x hx; exact this)).at 0 k hlt
          have hck := hcs k hlt
          obtain ⟨x, hx⟩ : ∃ x, x = sy.getD k 0 := ⟨_, rfl⟩
          rw [← hx] at hck
          clear hcs hx
          have hTk : IsTb wr (fun b => b < wb) p l := hT2.out.keeps (Keeps.of_below HK.out.below (S := fun b => wb ≤ b) (fun b h => h)) (fun b h1 h2 => by omega)
          have HTK := Lib.hid hTk
          have hrk := hr2.out.below HK.out.below HRB.out
          have HRKK := Lib.hid hrk
          have hwrs := HK.out.below.size
          clear hTk hrk
          by_cases hg0 : 0 ≤ x
          · by_cases hg1 : x < (n : Int)
            · by_cases hg2 : (l.getD x.toNat 0 == 0) = false
              · obtain ⟨s, rfl⟩ := Int.eq_ofNat_of_zero_le hg0
                have hsn : s < n := by omega
                have hsl : s < l.length := by rw [HL.out]; exact hsn
                have hL0 := hok_mem HOK.out (l.getD s 0) (by simp [List.getD, hsl])
                have hL1 : l.getD s 0 ≠ 0 := by simpa using hg2
                have hp : 0 < l.getD s 0 := by omega
                have hput := tput_ok (fun b => b < wb) p wb s l high (bitsOf l ss) S wr HTK.out HK.out.wr_ (fun b h1 h2 => by have := HK.out.wr_.lt b h2; omega) (by have := bitsOf_len l H15.out ss; omega) hsl hp
                obtain ⟨bl, ol, hal, _, hcl⟩ := HRKK.out.at 0 s hsn
                have hkl := hcl s hsn
                have hblw := HRB.out _ hal
                simp only at hblw
                have HNEXT := Lib.hid (fun (w5 w6 : World) (v' : Value) => HK.out.next (w5 := w5) (w6 := w6) (v' := v') hsl hp (by omega))
                have hN1 : decide ((s : Int) < 0) = false := by simp
                have hN2 : decide (n ≤ s) = false := by simp; omega
                generalize l.getD s 0 = Ls at hkl hp
                have hN3 : (Ls == 0) = false := by rw [beq_eq_false_iff_ne]; omega
                have HP := Lib.hid hput
                subst hal
                clear hput hcl hL0 hg0 hg1 hg2
                go_wp2_with (first
                  | (go_at_call 26; refine HP.out.mono ?_; rintro e w5 ⟨rfl, hN5⟩; obtain ⟨own5, kl5, sz5⟩ := back_mid HK.out hN5 hblw hkl; have HN5 := Lib.hid hN5; have OWN5 := Lib.hid own5; clear hN5 own5)
                  | (at_builtin; refine append_at ETI rfl (.tmp 80) (.tmp 82) rfl (wb + 1) _ ss.length _ rfl (OWN5.out.alloc _) _ 1 _ _ rfl (row_new1 _ _ _) (one_mem rfl) (by unfold maxLen; omega) (by omega) (by rw [sizeA]; omega) ?_; intro v' w6 hO6 hg6 hN6; have HNX := Lib.hid (HNEXT.out _ _ _ HN5.out _ hO6 hg6 hN6); clear hO6 hg6 hN6))
                go_roundw
                case rel =>
                  obtain ⟨S', hB⟩ := HNX.out
                  exact ⟨k + 1, ss ++ [s], S', by go_num, by omega, by omega, by simp; omega, Lib.hid hB⟩
                case measure => simp [intOf]; omega
              · obtain ⟨s, rfl⟩ := Int.eq_ofNat_of_zero_le hg0
                have hsn : s < n := by omega
                have HP := Lib.hid (tput_bad (fun b => b < wb) p wb s l wr HTK.out (.inr (.inr (by simpa using hg2))))
                obtain ⟨bl, ol, rfl, _, hcl⟩ := HRKK.out.at 0 s hsn
                have hkl := hcl s hsn
                rw [show l.getD s 0 = 0 from by simpa using hg2] at hkl
                have hN1 : decide ((s : Int) < 0) = false := by simp
                have hN2 : decide (n ≤ s) = false := by simp; omega
                clear hcl hg0 hg1 hg2
                go_wp2_with (go_at_call 26; refine HP.out.mono ?_; rintro e w5 ⟨rfl, rfl⟩)
                go_roundw
                case rel => exact ⟨k + 1, ss, S, by go_num, by omega, by omega, by omega, HK⟩
                case measure => simp [intOf]; omega
            · obtain ⟨s, rfl⟩ := Int.eq_ofNat_of_zero_le hg0
              have HP := Lib.hid (tput_bad (fun b => b < wb) p wb s l wr HTK.out (.inr (.inl (by rw [HL.out]; omega))))
              have hN1 : decide ((s : Int) < 0) = false := by simp
              have hN2 : decide (n ≤ s) = true := by simp; omega
              clear hg0 hg1
              go_wp2_with (go_at_call 26; refine HP.out.mono ?_; rintro e w5 ⟨rfl, rfl⟩)
              go_roundw
              case rel => exact ⟨k + 1, ss, S, by go_num, by omega, by omega, by omega, HK⟩
              case measure => simp [intOf]; omega
          · have HP := Lib.hid (tput_bad (fun b => b < wb) p wb x l wr HTK.out (.inl (by omega)))
            have hN1 : decide (x < 0) = true := by simp; omega
            clear hg0
            go_wp2_with (go_at_call 26; refine HP.out.mono ?_; rintro e w5 ⟨rfl, rfl⟩)
            go_roundw
            case rel => exact ⟨k + 1, ss, S, by go_num, by omega, by omega, by omega, HK⟩
            case measure => simp [intOf]; omega
        · obtain ⟨aI, cI, rfl, hrI, _⟩ := Row.of_owns HK.out.own
          have hIlt : ∀ x, aI = some x → x.block < wr.heap.size := fun x hx => (HK.out.own.lt x.block (by simp [Value.ownBlock, hx])).2
          have hTk : IsTb wr (fun b => b < wb) p l := hT2.out.keeps (Keeps.of_below HK.out.below (S := fun b => wb ≤ b) (fun b h => h)) (fun b h1 h2 => by omega)
          have hlenB := bitsOf_len l H15.out ss
          have hwrs := HK.out.below.size
          have hrk := hr2.out.below HK.out.below HRB.out
          have hBwr := HB2.out.trans (HK.out.below.mono (by omega))
          have HTK := Lib.hid hTk
          have HRI := Lib.hid hrI
          have HRK := Lib.hid hrk
          have HBWR := Lib.hid hBwr
          have HILT := Lib.hid hIlt
          have HLB := Lib.hid hlenB
          clear hTk hrI hrk hBwr hIlt hlenB
          go_wp2_with fail
          refine (wbytes_any wb high (bitsOf l ss) S wr HK.out.wr_ (by have := HLB.out; omega)).mono ?_
          rintro e w3 ⟨bs, vb, hW, rfl, hO3, hb3⟩
          obtain ⟨aB, cB, rfl, hrB, _⟩ := Row.of_owns hO3
          have HW := Lib.hid hW
          have HO3 := Lib.hid hrB
          have HB3 := Lib.hid hb3
          have hs3 := hb3.size
          have hbsl : bs.length ≤ 200 := by have := hW.1; have := HLB.out; omega
          clear hW hO3 hrB hb3
          go_wp2_with fail
          refine (read_any aB cB bs high w3 HO3.out (by omega)).mono ?_
          rintro e w4 ⟨r, rfl, hR4, hrl, hb4⟩
          have hT4 : IsTb w4 (fun b => b ≠ r) p l := ((HTK.out.mono HB3.out).mono hb4).weaken (fun b h => by show b ≠ r; have h2 : b < wb := h; omega)
          have hrI4 := (HRI.out.mono HB3.out).mono hb4
          have hrk4 := (HRK.out.mono HB3.out).mono hb4
          have hIr : ∀ x, aI = some x → x.block ≠ r := fun x hx => by have := HILT.out x hx; omega
          have har : ∀ x, a = some x → x.block ≠ r := fun x hx => by have := HRB.out x hx; omega
          have hBw4 := (HBWR.out.trans (HB3.out.mono HBWR.out.size)).trans (hb4.mono (Nat.le_trans HBWR.out.size hs3))
          have hwr_ : w.heap.size ≤ r := by have := HBWR.out.size; omega
          have HT4 := Lib.hid hT4
          have HRI4 := Lib.hid hrI4
          have HRK4 := Lib.hid hrk4
          have HIR := Lib.hid hIr
          have HAR := Lib.hid har
          have HBW4 := Lib.hid hBw4
          have HR4 := Lib.hid hR4
          clear hT4 hrI4 hrk4 hIr har hBw4 hR4 hb4 hrl hs3 hwrs
          go_wp2
          go_loopw [15] (fun vi wr2 => ∃ j : Nat, vi = .int .i64 j ∧ j ≤ ss.length ∧ Hid (IsRd wr2 r bs high (bitsOf l (ss.take j)).length) ∧ Hid (w4.grownBy wr2 (some r))) (fun vi _ => ss.length - (intOf vi).toNat)
          case atStart => exact ⟨0, rfl, Nat.zero_le _, HR4, Lib.hid (grownBy_refl _ _)⟩
          case round =>
            obtain ⟨j, rfl, hj, HRj, HG⟩ := hrel
            by_cases hjl : j < ss.length
            · have htg := tget_any (fun b => b ≠ r) p r l bs high (bitsOf l (ss.take j)).length wr (HT4.out.kept HG.out (by simp)) HRj.out (by simp)
              rw [back_take HROOM.out HK.out.may HW.out j hjl, ← bitsOf_take l ss j hjl] at htg
              obtain ⟨bI, oI, rfl, _, hcI⟩ := Row.at (enc := fun s : Nat => Value.int .i64 (s : Int)) 0 (HRI4.out.kept HG.out HIR.out) j hjl
              have hcj := hcI j hjl
              have hIr2 : bI ≠ r := by simpa using HIR.out _ rfl
              generalize ss.getD j 0 = s at htg hcj
              have HTG := Lib.hid htg
              have hcj2 : ∀ W, wr.grownBy W (some r) → W.cell? ⟨bI, oI + j, none⟩ = some (.int .i64 (s : Int)) := fun W hW => hW.cell hcj (by simpa using hIr2)
              have HCJ := Lib.hid hcj2
              clear htg hcI hcj hcj2
              go_wp2_with (go_at_call 18; refine HTG.out.mono ?_; rintro e w5 ⟨rfl, hR5, hG5⟩; have hc5 := HCJ.out w5 hG5; have HR5 := Lib.hid hR5; have HG5 := Lib.hid (grownBy_trans HG.out hG5); clear hR5 hG5)
              go_roundw
              case rel => exact ⟨j + 1, by go_num, by omega, HR5, HG5⟩
              case measure => simp [intOf]; omega
            · obtain rfl : j = ss.length := by omega
              have hrd := HRj.out
              rw [List.take_length] at hrd
              have hL8 : (8 * bs.length - (bitsOf l ss).length : Nat) < 8 := by have := HW.out.1; omega
              have htl := tlen_any (fun b => b ≠ r) p l wr (HT4.out.kept HG.out (by simp))
              rw [HL.out] at htl
              have HTL := Lib.hid htl
              have HRD := Lib.hid hrd
              clear htl hrd
              go_wp2_with fail
              refine HTL.out.mono ?_
              rintro e w5 ⟨v5, rfl, hO5, hb5⟩
              obtain ⟨a5, c5, rfl, hr5, _⟩ := Row.of_owns hO5
              have hrk5 := (HRK4.out.kept HG.out HAR.out).mono hb5
              have hBw5 := (HBW4.out.grown HG.out HBW4.out.size (fun q hq => by cases hq; exact hwr_)).trans (hb5.mono (Nat.le_trans HBW4.out.size HG.out.size))
              have hleft := fun q => left_any r bs high (bitsOf l ss).length (w5.drewN q) (rd_drewN (rd_mono HRD.out hb5) q)
              generalize (8 * bs.length - (bitsOf l ss).length : Nat) = L8 at hleft hL8
              have HR5 := Lib.hid hr5
              have HRK5 := Lib.hid hrk5
              have HBW5 := Lib.hid hBw5
              have HLF := Lib.hid hleft
              clear hO5 hr5 hrk5 hBw5 hb5 hleft
              go_wp2
              go_loopw [19] (fun vi wr3 => ∃ (j q : Nat), vi = .int .i64 j ∧ j ≤ n ∧ Hid (wr3 = w5.drewN q)) (fun vi _ => n - (intOf vi).toNat)
              case atStart => exact ⟨0, 0, rfl, Nat.zero_le _, Lib.hid rfl⟩
              case round =>
                obtain ⟨j2, q, rfl, hj2, HWq⟩ := hrel
                obtain rfl := HWq.out
                by_cases hjn : j2 < n
                · obtain ⟨b6, o6, rfl, _, hc6⟩ := HR5.out.at 0 j2 hjn
                  obtain ⟨b7, o7, rfl, _, hc7⟩ := HRK5.out.at 0 j2 hjn
                  have k6 := hc6 j2 hjn
                  have k7 := hc7 j2 hjn
                  generalize l.getD j2 0 = y at k6 k7
                  clear hc6 hc7
                  go_wp2
                  go_quiet (fail)
                  go_wp2
                  go_roundw
                  case rel => exact ⟨j2 + 1, q + nq, by go_num, by omega, Lib.hid (by first | rfl | exact World.drewN_drewN _ _ _ | simp [World.drewN_drewN])⟩
                  case measure => simp [intOf]; omega
                · go_wp2_with (first
                    | (go_at_call 20; refine (HLF.out q).mono ?_; rintro e w6 ⟨rfl, q2, rfl⟩)
                    | (go_at_call 13; refine (works4 _).mono ?_; rintro e w' ⟨rfl, hb⟩))
                  go_ret
                  exact ⟨rfl, (below_drewN HBW5.out (q + q2)).trans (hb.mono (below_drewN HBW5.out (q + q2)).size)⟩
      · obtain ⟨aI, cI, rfl, hrI, _⟩ := Row.of_owns HK.out.own
        have hIlt : ∀ x, aI = some x → x.block < wr.heap.size := fun x hx => (HK.out.own.lt x.block (by simp [Value.ownBlock, hx])).2
        have hTk : IsTb wr (fun b => b < wb) p l := hT2.out.keeps (Keeps.of_below HK.out.below (S := fun b => wb ≤ b) (fun b h => h)) (fun b h1 h2 => by omega)
        have hlenB := bitsOf_len l H15.out ss
        have hwrs := HK.out.below.size
        have hrk := hr2.out.below HK.out.below HRB.out
        have hBwr := HB2.out.trans (HK.out.below.mono (by omega))
        have HTK := Lib.hid hTk
        have HRI := Lib.hid hrI
        have HRK := Lib.hid hrk
        have HBWR := Lib.hid hBwr
        have HILT := Lib.hid hIlt
        have HLB := Lib.hid hlenB
        clear hTk hrI hrk hBwr hIlt hlenB
        go_wp2_with fail
        refine (wbytes_any wb high (bitsOf l ss) S wr HK.out.wr_ (by have := HLB.out; omega)).mono ?_
        rintro e w3 ⟨bs, vb, hW, rfl, hO3, hb3⟩
        obtain ⟨aB, cB, rfl, hrB, _⟩ := Row.of_owns hO3
        have HW := Lib.hid hW
        have HO3 := Lib.hid hrB
        have HB3 := Lib.hid hb3
        have hs3 := hb3.size
        have hbsl : bs.length ≤ 200 := by have := hW.1; have := HLB.out; omega
        clear hW hO3 hrB hb3
        go_wp2_with fail
        refine (read_any aB cB bs high w3 HO3.out (by omega)).mono ?_
        rintro e w4 ⟨r, rfl, hR4, hrl, hb4⟩
        have hT4 : IsTb w4 (fun b => b ≠ r) p l := ((HTK.out.mono HB3.out).mono hb4).weaken (fun b h => by show b ≠ r; have h2 : b < wb := h; omega)
        have hrI4 := (HRI.out.mono HB3.out).mono hb4
        have hrk4 := (HRK.out.mono HB3.out).mono hb4
        have hIr : ∀ x, aI = some x → x.block ≠ r := fun x hx => by have := HILT.out x hx; omega
        have har : ∀ x, a = some x → x.block ≠ r := fun x hx => by have := HRB.out x hx; omega
        have hBw4 := (HBWR.out.trans (HB3.out.mono HBWR.out.size)).trans (hb4.mono (Nat.le_trans HBWR.out.size hs3))
        have hwr_ : w.heap.size ≤ r := by have := HBWR.out.size; omega
        have HT4 := Lib.hid hT4
        have HRI4 := Lib.hid hrI4
        have HRK4 := Lib.hid hrk4
        have HIR := Lib.hid hIr
        have HAR := Lib.hid har
        have HBW4 := Lib.hid hBw4
        have HR4 := Lib.hid hR4
        clear hT4 hrI4 hrk4 hIr har hBw4 hR4 hb4 hrl hs3 hwrs
        go_wp2
        go_loopw [15] (fun vi wr2 => ∃ j : Nat, vi = .int .i64 j ∧ j ≤ ss.length ∧ Hid (IsRd wr2 r bs high (bitsOf l (ss.take j)).length) ∧ Hid (w4.grownBy wr2 (some r))) (fun vi _ => ss.length - (intOf vi).toNat)
        case atStart => exact ⟨0, rfl, Nat.zero_le _, HR4, Lib.hid (grownBy_refl _ _)⟩
        case round =>
          obtain ⟨j, rfl, hj, HRj, HG⟩ := hrel
          by_cases hjl : j < ss.length
          · have htg := tget_any (fun b => b ≠ r) p r l bs high (bitsOf l (ss.take j)).length wr (HT4.out.kept HG.out (by simp)) HRj.out (by simp)
            rw [back_take HROOM.out HK.out.may HW.out j hjl, ← bitsOf_take l ss j hjl] at htg
            obtain ⟨bI, oI, rfl, _, hcI⟩ := Row.at (enc := fun s : Nat => Value.int .i64 (s : Int)) 0 (HRI4.out.kept HG.out HIR.out) j hjl
            have hcj := hcI j hjl
            have hIr2 : bI ≠ r := by simpa using HIR.out _ rfl
            generalize ss.getD j 0 = s at htg hcj
            have HTG := Lib.hid htg
            have hcj2 : ∀ W, wr.grownBy W (some r) → W.cell? ⟨bI, oI + j, none⟩ = some (.int .i64 (s : Int)) := fun W hW => hW.cell hcj (by simpa using hIr2)
            have HCJ := Lib.hid hcj2
            clear htg hcI hcj hcj2
            go_wp2_with (go_at_call 18; refine HTG.out.mono ?_; rintro e w5 ⟨rfl, hR5, hG5⟩; have hc5 := HCJ.out w5 hG5; have HR5 := Lib.hid hR5; have HG5 := Lib.hid (grownBy_trans HG.out hG5); clear hR5 hG5)
            go_roundw
            case rel => exact ⟨j + 1, by go_num, by omega, HR5, HG5⟩
            case measure => simp [intOf]; omega
          · obtain rfl : j = ss.length := by omega
            have hrd := HRj.out
            rw [List.take_length] at hrd
            have hL8 : (8 * bs.length - (bitsOf l ss).length : Nat) < 8 := by have := HW.out.1; omega
            have htl := tlen_any (fun b => b ≠ r) p l wr (HT4.out.kept HG.out (by simp))
            rw [HL.out] at htl
            have HTL := Lib.hid htl
            have HRD := Lib.hid hrd
            clear htl hrd
            go_wp2_with fail
            refine HTL.out.mono ?_
            rintro e w5 ⟨v5, rfl, hO5, hb5⟩
            obtain ⟨a5, c5, rfl, hr5, _⟩ := Row.of_owns hO5
            have hrk5 := (HRK4.out.kept HG.out HAR.out).mono hb5
            have hBw5 := (HBW4.out.grown HG.out HBW4.out.size (fun q hq => by cases hq; exact hwr_)).trans (hb5.mono (Nat.le_trans HBW4.out.size HG.out.size))
            have hleft := fun q => left_any r bs high (bitsOf l ss).length (w5.drewN q) (rd_drewN (rd_mono HRD.out hb5) q)
            generalize (8 * bs.length - (bitsOf l ss).length : Nat) = L8 at hleft hL8
            have HR5 := Lib.hid hr5
            have HRK5 := Lib.hid hrk5
            have HBW5 := Lib.hid hBw5
            have HLF := Lib.hid hleft
            clear hO5 hr5 hrk5 hBw5 hb5 hleft
            go_wp2
            go_loopw [19] (fun vi wr3 => ∃ (j q : Nat), vi = .int .i64 j ∧ j ≤ n ∧ Hid (wr3 = w5.drewN q)) (fun vi _ => n - (intOf vi).toNat)
            case atStart => exact ⟨0, 0, rfl, Nat.zero_le _, Lib.hid rfl⟩
            case round =>
              obtain ⟨j2, q, rfl, hj2, HWq⟩ := hrel
              obtain rfl := HWq.out
              by_cases hjn : j2 < n
              · obtain ⟨b6, o6, rfl, _, hc6⟩ := HR5.out.at 0 j2 hjn
                obtain ⟨b7, o7, rfl, _, hc7⟩ := HRK5.out.at 0 j2 hjn
                have k6 := hc6 j2 hjn
                have k7 := hc7 j2 hjn
                generalize l.getD j2 0 = y at k6 k7
                clear hc6 hc7
                go_wp2
                go_quiet (fail)
                go_wp2
                go_roundw
                case rel => exact ⟨j2 + 1, q + nq, by go_num, by omega, Lib.hid (by first | rfl | exact World.drewN_drewN _ _ _ | simp [World.drewN_drewN])⟩
                case measure => simp [intOf]; omega
              · go_wp2_with (first
                  | (go_at_call 20; refine (HLF.out q).mono ?_; rintro e w6 ⟨rfl, q2, rfl⟩)
                  | (go_at_call 13; refine (works4 _).mono ?_; rintro e w' ⟨rfl, hb⟩))
                go_ret
                exact ⟨rfl, (below_drewN HBW5.out (q + q2)).trans (hb.mono (below_drewN HBW5.out (q + q2)).size)⟩
  · have hroom2 : roomV l < 0 := by omega
    have hd : decide (0 ≤ roomV l) = false := by simpa using hroom2
    go_enter Try.func6, Try.ntmps6
    go_wp2_with (first
      | (go_at_call 14; refine (new_bad _ _ _ l _ hr hroom2).mono ?_; rintro e w1 ⟨rfl, hb1⟩; have hr1 := hr.mono hb1)
      | (go_at_call 24; refine (may_any _ _ _ l _ hr1).mono ?_; rintro e w' ⟨rfl, rfl⟩)
      | (go_at_call 13; refine (works4 _).mono ?_; rintro e w' ⟨rfl, hb2⟩))
    go_ret
    exact ⟨rfl, hb1.trans (hb2.mono hb1.size)⟩
end Go.Proofs.Ytbmhdacedicbjaa
