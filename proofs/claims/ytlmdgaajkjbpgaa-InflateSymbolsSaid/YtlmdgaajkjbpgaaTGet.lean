/-
  Walks of layer 4: a table's next symbol.
-/
import Derived.Test.YtlmdgaajkjbpgaaNew2
namespace Go.Proofs.Ytlmdgaajkjbpgaa
open Go.RowKit Go.Sort

theorem tdead_any (Bl : Nat → Prop) (p : Nat) (l : List Int) (w : World) (h : IsTb w Bl p l) :
    Calls Try.prog 63 #[.pointer (some ⟨p, 0, none⟩)] w fun e w' => e = .returned (.bool false) ∧ w = w' := by
  obtain ⟨⟨aL, cL, aC, cC, aS, cS, srt, hT, hL, hC, hS, hso, b1, b2, b3, hnn⟩, hroom, hp⟩ := h
  have hc := blk_cell hT 0 (by omega)
  unfold tbV at hc
  simp only [if_true] at hc
  obtain ⟨x, rfl⟩ := Option.ne_none_iff_exists'.1 hnn
  have hnil := fun W : World => Lib.run_eql_slice_nil (P := Try.prog) W 32 3 (some x) l.length cL 0 0 Try.underlying32
  clear hT hL hC hS hso b1 b2 b3 hnn
  go_enter Try.func63, Try.ntmps63
  go_wp2
  go_ret
  exact ⟨rfl, rfl⟩

theorem IsTb.kept {w w' : World} {Bl : Nat → Prop} {p r : Nat} {l : List Int} (h : IsTb w Bl p l) (hg : w.grownBy w' (some r)) (hr : ¬ Bl r) : IsTb w' Bl p l := by
  obtain ⟨⟨aL, cL, aC, cC, aS, cS, srt, hT, hL, hC, hS, hso, b1, b2, b3, hnn⟩, hroom, hp⟩ := h
  have hpr : p ≠ r := fun e => hr (e ▸ hp)
  refine ⟨⟨aL, cL, aC, cC, aS, cS, srt, ?_, hL.kept hg (fun x hx e => hr (e ▸ b1 x hx)), hC.kept hg (fun x hx e => hr (e ▸ b2 x hx)), hS.kept hg (fun x hx e => hr (e ▸ b3 x hx)), hso, b1, b2, b3, hnn⟩, hroom, hp⟩
  rw [hg.block p (Array.getElem?_eq_some_iff.1 hT).1 (by simpa using hpr)]
  exact hT
theorem IsTb.mono {w w' : World} {Bl : Nat → Prop} {p : Nat} {l : List Int} (h : IsTb w Bl p l) (hb : Below w.heap.size w w') : IsTb w' Bl p l := by
  obtain ⟨⟨aL, cL, aC, cC, aS, cS, srt, hT, hL, hC, hS, hso, b1, b2, b3, hnn⟩, hroom, hp⟩ := h
  exact ⟨⟨aL, cL, aC, cC, aS, cS, srt, block_keep hb hT, hL.mono hb, hC.mono hb, hS.mono hb, hso, b1, b2, b3, hnn⟩, hroom, hp⟩
theorem IsTb.weaken {w : World} {Bl Bl' : Nat → Prop} {p : Nat} {l : List Int} (h : IsTb w Bl p l) (hB : ∀ b, Bl b → Bl' b) : IsTb w Bl' p l := by
  obtain ⟨⟨aL, cL, aC, cC, aS, cS, srt, hT, hL, hC, hS, hso, b1, b2, b3, hnn⟩, hroom, hp⟩ := h
  exact ⟨⟨aL, cL, aC, cC, aS, cS, srt, hT, hL, hC, hS, hso, fun x hx => hB _ (b1 x hx), fun x hx => hB _ (b2 x hx), fun x hx => hB _ (b3 x hx), hnn⟩, hroom, hB _ hp⟩

/-- One bit, as a number. -/
theorem getV_one (f : Nat → Bool) (high : Bool) : getV f high 1 1 = if f 0 then 1 else 0 := by
  cases high <;> simp [getV, turnN]

theorem get_cut (r n : Nat) (bs : List UInt8) (high : Bool) (at_ : Nat) (w : World) (h : IsRd w r bs high at_) (hn : n ≤ 32) (hgt : 8 * bs.length < at_ + n) :
    Calls Try.prog 43 #[.pointer (some ⟨r, 0, none⟩), .int .i64 n] w fun e w' => e = .returned (.tuple #[.int .u32 0, .int .i64 10]) ∧ ∃ q, w' = w.drewN q := by
  have hdead := rdead_any r bs high at_ w h
  have hleft := left_any r bs high at_ w h
  have hle := h.le
  have hN : decide (8 * bs.length - at_ < n) = true := by simp; omega
  have hN1 : decide ((n : Int) < 0) = false := by simp
  have hN2 : decide (32 < (n : Int)) = false := by simp; omega
  have HD := Lib.hid hdead
  have HL := Lib.hid hleft
  clear hdead hleft h
  go_enter Try.func43, Try.ntmps43
  go_wp2_with (first
    | (go_at_call 36; refine HD.out.mono ?_; rintro e w' ⟨rfl, rfl⟩)
    | (go_at_call 52; refine HL.out.mono ?_; rintro e w' ⟨rfl, q1, rfl⟩))
  go_ret2
  exact ⟨rfl, _, rfl⟩

theorem ofInt_i64 (a : Nat) (ha : a < 4611686018427387904) : (BitVec.ofInt 64 (a : Int)).toNat = a := by
  rw [BitVec.ofInt_natCast, BitVec.toNat_ofNat]; exact Nat.mod_eq_of_lt (by omega)
theorem i64_or_nat (a b : Nat) (ha : a < 4611686018427387904) (hb : b < 4611686018427387904) : bits .or .i64 (a : Int) (b : Int) = ((a ||| b : Nat) : Int) := by
  have hx : a ||| b < 2 ^ 62 := Nat.or_lt_two_pow (by omega) (by omega)
  show IntKind.i64.wrap ((BitVec.ofInt 64 (a : Int) ||| BitVec.ofInt 64 (b : Int)).toNat : Int) = _
  rw [BitVec.toNat_or, ofInt_i64 a ha, ofInt_i64 b hb, IntKind.wrap_i64]
  omega
theorem or_shl (v x : Nat) (hv : v < 65536) (hx : x < 2) : bits .or .i64 ((v : Int) * 2) (x : Int) = (v : Int) * 2 + x := by
  have e : ((v : Int) * 2) = ((v * 2 : Nat) : Int) := by omega
  rw [e, i64_or_nat _ _ (by omega) (by omega), nat_join 1 (v * 2) x (by omega) (by omega)]
  omega

theorem get_one (r : Nat) (bs : List UInt8) (high : Bool) (at_ : Nat) (w : World) (h : IsRd w r bs high at_) (b : Bool) (hb : bitAt bs high at_ = b) (hle2 : at_ + 1 ≤ 8 * bs.length) :
    Calls Try.prog 43 #[.pointer (some ⟨r, 0, none⟩), .int .i64 1] w fun e w' => e = .returned (.tuple #[.int .u32 (if b then 1 else 0), .int .i64 0]) ∧ IsRd w' r bs high (at_ + 1) ∧ w.grownBy w' (some r) :=
  (get_ok r 1 bs high at_ w h (by omega) hle2).mono fun e w' ⟨he, h1, h2⟩ => ⟨by rw [he, getV_one]; simp only [Nat.add_zero, hb]; cases b <;> rfl, h1, h2⟩

set_option maxHeartbeats 2000000 in
theorem tget_any (Bl : Nat → Prop) (p r : Nat) (l : List Int) (bs : List UInt8) (high : Bool) (at_ : Nat) (w : World) (hT : IsTb w Bl p l) (hR : IsRd w r bs high at_) (hrp : ¬ Bl r) :
    Calls Try.prog 55 #[.pointer (some ⟨p, 0, none⟩), .pointer (some ⟨r, 0, none⟩)] w fun e w' =>
      e = .returned (.tuple #[.int .i64 ((takeV l (fun k => bitAt bs high (at_ + k)) (8 * bs.length - at_)).1 : Nat), .int .i64 (takeV l (fun k => bitAt bs high (at_ + k)) (8 * bs.length - at_)).2.2]) ∧
      IsRd w' r bs high (at_ + (takeV l (fun k => bitAt bs high (at_ + k)) (8 * bs.length - at_)).2.1) ∧ w.grownBy w' (some r) := by
  obtain ⟨V, hV⟩ : ∃ V, V = takeV l (fun k => bitAt bs high (at_ + k)) (8 * bs.length - at_) := ⟨_, rfl⟩
  rw [← hV]
  have HV := Lib.hid hV
  have hdead := tdead_any Bl p l w hT
  have HD := Lib.hid hdead
  have HRd := Lib.hid hR
  have hroom := Lib.hid hT.room
  have hlen := (roomV_ok hT.room).2.1
  have hok1 := Lib.hid (roomV_ok hT.room).2.2.1
  obtain ⟨⟨aL, cL, aC, cC, aS, cS, srt, hTb, hL, hC, hS, hso, b1, b2, b3, hnn⟩, -, hpB⟩ := hT
  have hpr : p ≠ r := fun e => hrp (e ▸ hpB)
  have hSr : ∀ x, aS = some x → x.block ≠ r := fun x hx e => hrp (e ▸ b3 x hx)
  have hcn : ∀ W, w.grownBy W (some r) → ∀ m, 1 ≤ m → m ≤ 15 → W.cell? ⟨p, 2 + m, none⟩ = some (.int .i64 (cn l m)) := fun W hW m h1 h2 => by
    have hc := blk_cell hTb (2 + m) (by omega)
    unfold tbV at hc
    rw [if_neg (by omega), if_neg (by omega), if_neg (by omega), Nat.add_sub_cancel_left] at hc
    exact hW.cell hc (by simpa using hpr)
  have hsl : ∀ W, w.grownBy W (some r) → W.cell? ⟨p, 18, none⟩ = some (.slice aS srt.length cS) := fun W hW => by
    have hc := blk_cell hTb 18 (by omega)
    unfold tbV at hc
    simp only [Nat.reduceEqDiff, if_false, if_true] at hc
    exact hW.cell hc (by simpa using hpr)
  have hsle := Lib.hid hso.len
  have HCN := Lib.hid hcn
  have HSL := Lib.hid hsl
  have HSO := Lib.hid hso
  have HS := Lib.hid hS
  have HSR := Lib.hid hSr
  have hsrtl : srt.length ≤ 320 := by
    have h1 := hso.len
    have h2 := length_symsTo hok1.out l.length (Nat.le_refl _)
    rw [List.take_length] at h2
    have h3 : (symsTo l l.length).length ≤ l.length := by unfold symsTo; rw [List.length_map]; exact Nat.le_trans (List.length_filter_le _ _) (by simp)
    omega
  clear hcn hsl hso hTb hL hC hS b1 b2 b3 hnn hpB hR hdead hrp hV hSr
  have hle := HRd.out.le
  go_enter Try.func55, Try.ntmps55
  go_wp2
  go_step3
  go_wp2_with (go_at_call 63; refine HD.out.mono ?_; rintro e w' ⟨rfl, rfl⟩)
  go_step3
  go_wp2
  go_loopw [6, 7, 8, 9] (fun cd fs at2 i wr => ∃ j : Nat, j ≤ 15 ∧ j ≤ 8 * bs.length - at_ ∧ i = .int .i64 (j + 1 : Nat) ∧ cd = .int .i64 (valN (fun k => bitAt bs high (at_ + k)) j : Nat) ∧ fs = .int .i64 (fcode (cn l) j + cn l j) ∧ at2 = .int .i64 (ats l (j + 1)) ∧
      Hid (fcode (cn l) j + cn l j ≤ (valN (fun k => bitAt bs high (at_ + k)) j : Nat)) ∧ Hid (V = takeGo l (fun k => bitAt bs high (at_ + k)) (8 * bs.length - at_) (15 - j) (j + 1)) ∧ Hid (IsRd wr r bs high (at_ + j)) ∧ Hid (w.grownBy wr (some r))) (fun _ _ _ i _ => 17 - (intOf i).toNat)
  case atStart => exact ⟨0, by omega, by omega, rfl, rfl, by simp [fcode, cn], by simp [ats, cn], Lib.hid (by simp [fcode, cn, valN]), HV, HRd, ⟨rfl, rfl, rfl, Nat.le_refl _, fun _ _ _ => rfl⟩⟩
  case round =>
    obtain ⟨j, hj, hjl, rfl, rfl, rfl, rfl, HF, HVj, HRj, HG⟩ := hrel
    by_cases hlt : j < 15
    · have hfuel : 15 - j = (15 - (j + 1)) + 1 := by omega
      have hgo := HVj.out
      rw [hfuel, takeGo] at hgo
      have hslr := HSL.out wr HG.out
      have hcnr := HCN.out wr HG.out (j + 1) (by omega) (by omega)
      have hal := ats_long hok1.out (n := j + 1) (by omega) (by omega)
      have hamono := ats_mono l (j + 1) 16 (by omega)
      have hann := ats_nonneg l (j + 1)
      have hft := fcode_top hroom.out (j + 1) (by omega)
      have hpw := pow_le_15 (n := j + 1) (by omega)
      have hv1 := valN_lt (fun k => bitAt bs high (at_ + k)) j
      have hpj : 2 ^ j ≤ 16384 := Nat.pow_le_pow_right (n := 2) (by omega) (by omega : j ≤ 14)
      have hfj := fcode_top hroom.out j (by omega)
      have hcb := cn_bd l (j + 1)
      have hcbj := cn_bd l j
      have hso1 := hsle.out
      clear hfuel
      by_cases hlong : hasLong l (j + 1) = false
      · rw [if_pos hlong] at hgo
        have heq : (ats l (j + 1) == (srt.length : Int)) = true := by rw [beq_iff_eq]; have := hal.2 hlong; omega
        have HGO := Lib.hid hgo
        clear hgo hal
        go_wp2
        try rw [Exit.noGoto_ret]
        go_ret2
        rw [HGO.out]
        exact ⟨rfl, HRj.out, HG.out⟩
      · rw [if_neg hlong] at hgo
        have hne : ¬ ats l (j + 1) = ats l 16 := fun e => hlong (hal.1 e)
        have heq : (ats l (j + 1) == (srt.length : Int)) = false := by rw [beq_eq_false_iff_ne]; omega
        clear hal
        by_cases hcut : 8 * bs.length - at_ < j + 1
        · rw [if_pos hcut] at hgo
          have HGO := Lib.hid hgo
          have hcc := get_cut r 1 bs high (at_ + j) wr HRj.out (by omega) (by omega)
          have HCC := Lib.hid hcc
          clear hgo hcc
          go_wp2_with (go_at_call 43; refine HCC.out.mono ?_; rintro e w2 ⟨rfl, q, rfl⟩)
          try rw [Exit.noGoto_ret]
          go_ret2
          rw [HGO.out]
          exact ⟨rfl, ⟨by obtain ⟨a, c, h1, h2, h3⟩ := HRj.out.ex; exact ⟨a, c, h1, h2, h3⟩, HRj.out.le, HRj.out.small⟩, grownBy_drewN HG.out q⟩
        · rw [if_neg hcut] at hgo
          have hval : valN (fun k => bitAt bs high (at_ + k)) (j + 1) = 2 * valN (fun k => bitAt bs high (at_ + k)) j + if bitAt bs high (at_ + j) then 1 else 0 := rfl
          have hf0 := HF.out
          obtain ⟨b, hb⟩ : ∃ b, b = bitAt bs high (at_ + j) := ⟨_, rfl⟩
          rw [← hb] at hval
          have hget := get_one r bs high (at_ + j) wr HRj.out b hb.symm (by omega)
          obtain ⟨v, hv⟩ : ∃ v, v = valN (fun k => bitAt bs high (at_ + k)) j := ⟨_, rfl⟩
          rw [← hv] at hval hv1 hf0
          obtain ⟨v', hv'⟩ : ∃ v', v' = valN (fun k => bitAt bs high (at_ + k)) (j + 1) := ⟨_, rfl⟩
          rw [← hv'] at hval hgo
          rw [show valN (fun k => bitAt bs high (at_ + k)) j = v from hv.symm] at *
          obtain ⟨c, hc0, hc1, hget', hor, hv'b⟩ : ∃ c : Int, 0 ≤ c ∧ c ≤ 1 ∧ (Calls Try.prog 43 #[.pointer (some ⟨r, 0, none⟩), .int .i64 1] wr fun e w' => e = .returned (.tuple #[.int .u32 c, .int .i64 0]) ∧ IsRd w' r bs high (at_ + j + 1) ∧ wr.grownBy w' (some r)) ∧
              bits .or .i64 ((v : Int) * 2) c = (v : Int) * 2 + c ∧ (v' : Int) = (v : Int) * 2 + c := by
            cases b
            · exact ⟨0, by omega, by omega, hget, or_shl v 0 (by omega) (by omega), by rw [hval]; simp; omega⟩
            · exact ⟨1, by omega, by omega, hget, or_shl v 1 (by omega) (by omega), by rw [hval]; simp; omega⟩
          have HGET := Lib.hid hget'
          have HV' := Lib.hid hv'
          clear hget hget' hb hval hv' hv b
          have hfs : fcode (cn l) (j + 1) = (fcode (cn l) j + cn l j) * 2 := rfl
          have hfl : fcode (cn l) (j + 1) ≤ (v' : Int) := by rw [hv'b, hfs]; omega
          by_cases hin : (v' : Int) - fcode (cn l) (j + 1) < cn l (j + 1)
          · obtain ⟨k, hfk, hkl, hk1, hk2⟩ := findSym_some (by omega) hfl hin
            rw [hfk] at hgo
            simp only at hgo
            have hsat := HSO.out.at_ k hkl (by omega)
            rw [hk1, Int.toNat_natCast, hk2] at hsat
            have hbnd := ats_mono l (j + 2) 16 (by omega)
            rw [show ats l (j + 2) = ats l (j + 1) + cn l (j + 1) from rfl] at hbnd
            have hidx : (ats l (j + 1) + ((v' : Int) - fcode (cn l) (j + 1))).toNat < srt.length := by omega
            have hidx2 : (ats l (j + 1) + ((v : Int) * 2 + c) - (fcode (cn l) j + cn l j) * 2).toNat = (ats l (j + 1) + ((v' : Int) - fcode (cn l) (j + 1))).toNat := by
              rw [hv'b, hfs]; congr 1; omega
            have hin2 : (v : Int) * 2 + c - (fcode (cn l) j + cn l j) * 2 < cn l (j + 1) := by omega
            have hlow : 0 ≤ ats l (j + 1) + ((v : Int) * 2 + c) - (fcode (cn l) j + cn l j) * 2 := by omega
            have hupp : ats l (j + 1) + ((v : Int) * 2 + c) - (fcode (cn l) j + cn l j) * 2 < (srt.length : Int) := by omega
            obtain ⟨sb, so, hsa, hsb, hscc⟩ := HS.out.at 0 _ hidx
            have hscell := hscc _ hidx
            rw [hsat, ← hidx2] at hscell
            have hsbr : sb ≠ r := HSR.out _ hsa
            have HGO := Lib.hid hgo
            have HSCELL := Lib.hid hscell
            subst hsa
            clear hgo hfk hk2 hsat hscc hscell hfs hfl hin hidx hidx2 hv'b hbnd
            go_wp2_with (go_at_call 43; refine HGET.out.mono ?_; rintro e w2 ⟨rfl, hR2, hG2⟩; have hGG := grownBy_trans HG.out hG2; have hcn2 := HCN.out w2 hGG (j + 1) (by omega) (by omega); have hsl2 := HSL.out w2 hGG; have hsc2 := hGG.cell HSCELL.out (by simpa using hsbr); have HR2 := Lib.hid hR2; have HGG := Lib.hid hGG; clear hR2 hG2 hGG)
            try rw [Exit.noGoto_ret]
            go_ret2
            rw [HGO.out]
            exact ⟨rfl, by simpa [Nat.add_assoc] using HR2.out, HGG.out⟩
          · rw [findSym_none (by omega) (fun h => hin h.2)] at hgo
            simp only at hgo
            have hin2 : cn l (j + 1) ≤ (v : Int) * 2 + c - (fcode (cn l) j + cn l j) * 2 := by omega
            have hhead : fcode (cn l) (j + 1) + cn l (j + 1) ≤ (v' : Int) := by omega
            have HGO := Lib.hid hgo
            have HFS := Lib.hid hfs
            have HVB := Lib.hid hv'b
            have HHEAD := Lib.hid hhead
            clear hgo hfs hfl hin hv'b hhead
            go_wp2_with (go_at_call 43; refine HGET.out.mono ?_; rintro e w2 ⟨rfl, hR2, hG2⟩; have hGG := grownBy_trans HG.out hG2; have hcn2 := HCN.out w2 hGG (j + 1) (by omega) (by omega); have hsl2 := HSL.out w2 hGG; have HR2 := Lib.hid hR2; have HGG := Lib.hid hGG; clear hR2 hG2 hGG)
            go_roundw
            case rel =>
              refine ⟨j + 1, by omega, by omega, by go_num, ?_, ?_, ?_, ?_, ?_, by simpa [Nat.add_assoc] using HR2, HGG⟩
              · rw [← HV'.out, HVB.out]
              · rw [HFS.out]
              · rfl
              · rw [← HV'.out]; exact HHEAD
              · exact Lib.hid HGO.out
            case measure => simp [intOf]; omega
    · obtain rfl : j = 15 := by omega
      have hgo := HVj.out
      simp only [Nat.sub_self, takeGo] at hgo
      have HGO := Lib.hid hgo
      clear hgo
      go_wp2
      try rw [Exit.noGoto_ret]
      go_ret2
      rw [HGO.out]
      exact ⟨rfl, HRj.out, HG.out⟩
end Go.Proofs.Ytlmdgaajkjbpgaa
