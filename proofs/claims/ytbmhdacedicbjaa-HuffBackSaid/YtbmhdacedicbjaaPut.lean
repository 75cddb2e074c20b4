/-
  Walks of layer 4: a symbol's code is put; a table's lengths.
-/
import Derived.Test.YtbmhdacedicbjaaWr4
import Derived.Test.YtbmhdacedicbjaaTGet
import Derived.Test.YtbmhdacedicbjaaBackP
namespace Go.Proofs.Ytbmhdacedicbjaa
open Go.RowKit Go.Sort

theorem IsTb.keeps {w w' : World} {Bl S : Nat → Prop} {p : Nat} {l : List Int} (h : IsTb w Bl p l) (hk : Keeps S w w') (hS : ∀ b, Bl b → ¬ S b) : IsTb w' Bl p l := by
  obtain ⟨⟨aL, cL, aC, cC, aS, cS, srt, hT, hL, hC, hS2, hso, b1, b2, b3, hnn⟩, hroom, hp⟩ := h
  exact ⟨⟨aL, cL, aC, cC, aS, cS, srt, hk.obj hT (hS p hp), hL.keeps hk (fun x hx => hS _ (b1 x hx)), hC.keeps hk (fun x hx => hS _ (b2 x hx)), hS2.keeps hk (fun x hx => hS _ (b3 x hx)), hso, b1, b2, b3, hnn⟩, hroom, hp⟩

theorem bit_of (x u : Nat) (high : Bool) : putL (x / 2 ^ u % 2) high 1 1 = [x.testBit u] := by
  have ht : turnN 0 1 high = 0 := by unfold turnN; cases high <;> rfl
  simp only [putL, ht, List.nil_append]
  rw [Nat.testBit_eq_decide_div_mod_eq, Nat.testBit_eq_decide_div_mod_eq]
  simp

theorem and_one (x u : Nat) (hx : x < 4294967296) : bits .and .u32 ((x : Int) / 2 ^ u) 1 = ((x / 2 ^ u % 2 : Nat) : Int) := by
  have e : (x : Int) / 2 ^ u = ((x / 2 ^ u : Nat) : Int) := by simp only [Int.natCast_ediv, Int.natCast_pow, Int.cast_ofNat_Int]
  have hl : x / 2 ^ u < 4294967296 := Nat.lt_of_le_of_lt (Nat.div_le_self _ _) hx
  rw [e, show (1 : Int) = ((1 : Nat) : Int) from rfl, u32_and_nat _ 1 hl (by omega), Nat.and_one_is_mod]

/-- What Put reads of a table. -/
structure PutFacts (W : World) (p : Nat) (bL oL bC oC n cL cC s : Nat) (x : Int) (m : Int) : Prop where
  c0 : W.cell? ⟨p, 0, none⟩ = some (.slice (some ⟨bL, oL, none⟩) n cL)
  c1 : W.cell? ⟨p, 1, none⟩ = some (.slice (some ⟨bC, oC, none⟩) n cC)
  l : W.cell? ⟨bL, oL + s, none⟩ = some (.int .i64 m)
  x : W.cell? ⟨bC, oC + s, none⟩ = some (.int .u32 x)

theorem put_facts {w : World} {Bl : Nat → Prop} {p : Nat} {l : List Int} (h : IsTb w Bl p l) (s : Nat) (hs : s < l.length) :
    ∃ bL oL bC oC cL cC, ∀ W S, Keeps S w W → (∀ b, Bl b → ¬ S b) → PutFacts W p bL oL bC oC l.length cL cC s (codeAt l s) (l.getD s 0) := by
  obtain ⟨⟨aL, cL, aC, cC, aS, cS, srt, hT, hL, hC, hS, hso, b1, b2, b3, hnn⟩, hroom, hp⟩ := h
  obtain ⟨bL, oL, rfl, _, hcL⟩ := hL.at 0 s hs
  obtain ⟨bC, oC, rfl, _, hcC⟩ := Row.at (enc := id) (.bool false) (l := fl l.length (cdV l l.length)) (by simpa using hC) s hs
  refine ⟨bL, oL, bC, oC, cL, cC, fun W S hk hd => ?_⟩
  have k0 := blk_cell hT 0 (by omega)
  have k1 := blk_cell hT 1 (by omega)
  unfold tbV at k0 k1
  simp only [if_true, Nat.one_ne_zero, if_false] at k0 k1
  have k3 := hcC s hs
  rw [id, show (fl l.length (cdV l l.length)).getD s (.bool false) = .int .u32 (codeAt l s) from by simp [fl, hs, cdV]] at k3
  exact ⟨hk.cell k0 (hd p hp), hk.cell k1 (hd p hp), hk.cell (hcL s hs) (hd _ (b1 _ rfl)), hk.cell k3 (hd _ (b2 _ rfl))⟩

set_option maxRecDepth 8000 in
set_option maxHeartbeats 1000000 in
theorem tput_ok (Bl : Nat → Prop) (p wb s : Nat) (l : List Int) (high : Bool) (B : List Bool) (S : Nat → Prop) (w : World) (hT : IsTb w Bl p l) (h : WrQ w S wb high B) (hS : ∀ b, Bl b → ¬ S b) (hlt : B.length < 274877906944) (hs : s < l.length) (hp : 0 < l.getD s 0) :
    Calls Try.prog 26 #[.pointer (some ⟨p, 0, none⟩), .pointer (some ⟨wb, 0, none⟩), .int .i64 s] w fun e w' => e = .returned (.int .i64 0) ∧ WrNext w S wb high (B ++ codeL l s (lenN l s)) w' := by
  have HQ := Lib.hid h
  have hdead := tdead_any Bl p l w hT
  have HD := Lib.hid hdead
  have h15 := hok_mem (roomV_ok hT.room).2.2.1 (l.getD s 0) (by simp [List.getD, hs])
  have hcode := code_lt hT.room hs hp
  have hcb := codeAt_bd hT.room s
  obtain ⟨bL, oL, bC, oC, cL, cC, hpf⟩ := put_facts hT s hs
  obtain ⟨m, hm⟩ : ∃ m, m = lenN l s := ⟨_, rfl⟩
  obtain ⟨x, hx⟩ : ∃ x : Nat, x = (codeAt l s).toNat := ⟨_, rfl⟩
  have hcB : ∀ u j, u + 1 + j = m → codeB l s j = x.testBit u := by
    intro u j hj
    unfold codeB
    rw [← hx, ← hm, show m - 1 - j = u from by omega]
  have HCB := Lib.hid hcB
  rw [show codeAt l s = (x : Int) from by omega, show l.getD s 0 = (m : Int) from by rw [hm, lenN]; omega] at hpf
  have HPF := Lib.hid fun W hk => hpf W S hk hS
  have hx32 : x < 4294967296 := by omega
  rw [← hm]
  have hm0 : 0 < m := by rw [hm]; unfold lenN; omega
  have hm15 : m ≤ 15 := by rw [hm]; unfold lenN; omega
  have hf0 := hpf w S (Keeps.refl _ _) hS
  obtain ⟨f0, f1, f2, f3⟩ := hf0
  have hN1 : decide ((s : Int) < 0) = false := by simp
  have hN2 : decide (l.length ≤ s) = false := by simp; omega
  have hmz : ((m : Int) == 0) = false := by rw [beq_eq_false_iff_ne]; omega
  have hll := (roomV_ok hT.room).2.1
  generalize l.length = n at *
  clear h hdead hT hS hpf hcB hm hx hcode hcb hp h15
  go_enter Try.func26, Try.ntmps26
  go_wp2_with (go_at_call 55; refine HD.out.mono ?_; rintro e w' ⟨rfl, rfl⟩)
  clear f0 f1 f2 f3
  go_loopw [7] (fun kv wr => ∃ (u j : Nat) (S' : Nat → Prop), kv = .int .i64 ((u : Int) - 1) ∧ u ≤ m ∧ Hid (u + j = m) ∧ Hid (WrQ wr S' wb high (B ++ codeL l s j)) ∧ Hid (Keeps S w wr) ∧ Hid (∀ b, S' b → S b ∨ w.heap.size ≤ b)) (fun kv _ => (intOf kv + 1).toNat)
  case atStart => exact ⟨m, 0, S, by go_num, Nat.le_refl _, Lib.hid rfl, Lib.hid (by simpa [codeL] using HQ.out), Lib.hid (Keeps.refl _ _), Lib.hid (fun b h => .inl h)⟩
  case round =>
    obtain ⟨u, j, S', rfl, hu, HU, HQk, HK, HS⟩ := hrel
    rcases u with _ | u
    · go_wp2
      go_ret
      have hj : j = m := by have := HU.out; omega
      subst hj
      exact ⟨rfl, S', HQk.out, HK.out, HS.out⟩
    · rw [show (((u + 1 : Nat) : Int) - 1) = (u : Int) from by omega]
      obtain ⟨f0, f1, f2, f3⟩ := HPF.out wr HK.out
      have hand := and_one x u hx32
      have hy2 : x / 2 ^ u % 2 < 2 := Nat.mod_lt _ (by omega)
      have hput := wput_any wb 1 (x / 2 ^ u % 2) high (B ++ codeL l s j) S' wr HQk.out (by have := HU.out; rw [List.length_append, codeL_len]; omega) (by omega) (by omega)
      rw [bit_of, ← HCB.out u j (by have := HU.out; omega), List.append_assoc, ← codeL_succ] at hput
      generalize x / 2 ^ u % 2 = y at hput hand hy2
      have HP := Lib.hid hput
      clear hput
      go_wp2_with fail
      refine HP.out.mono ?_
      rintro e w2 ⟨rfl, S2, hQ2, hK2, hS2⟩
      have HQ2 := Lib.hid hQ2
      have HK2 := Lib.hid (HK.out.trans hK2 HS.out)
      have HS2 := Lib.hid (show ∀ b, S2 b → S b ∨ w.heap.size ≤ b from fun b hb => (hS2 b hb).elim (HS.out b) (fun h => .inr (Nat.le_trans HK.out.size h)))
      clear hQ2 hK2 hS2 f0 f1 f2 f3
      go_wp2
      go_roundw
      case rel => exact ⟨u, j + 1, S2, by go_num, by omega, Lib.hid (by have := HU.out; omega), HQ2, HK2, HS2⟩
      case measure => simp [intOf]

set_option maxRecDepth 8000 in
set_option maxHeartbeats 400000 in
theorem tput_bad (Bl : Nat → Prop) (p wb : Nat) (s : Int) (l : List Int) (w : World) (hT : IsTb w Bl p l) (hs : s < 0 ∨ (l.length : Int) ≤ s ∨ l.getD s.toNat 0 = 0) :
    Calls Try.prog 26 #[.pointer (some ⟨p, 0, none⟩), .pointer (some ⟨wb, 0, none⟩), .int .i64 s] w fun e w' => e = .returned (.int .i64 2) ∧ w = w' := by
  have hdead := tdead_any Bl p l w hT
  have HD := Lib.hid hdead
  clear hdead
  by_cases h1 : s < 0
  · have hN1 : decide (s < 0) = true := by simpa using h1
    go_enter Try.func26, Try.ntmps26
    go_wp2_with (go_at_call 55; refine HD.out.mono ?_; rintro e w' ⟨rfl, rfl⟩)
    go_ret
    exact ⟨rfl, rfl⟩
  · obtain ⟨k, rfl⟩ := Int.eq_ofNat_of_zero_le (show 0 ≤ s by omega)
    have hN1 : decide ((k : Int) < 0) = false := by simp
    by_cases h2 : l.length ≤ k
    · have hN2 : decide (l.length ≤ k) = true := by simpa using h2
      obtain ⟨⟨aL, cL, aC, cC, aS, cS, srt, hTb, _⟩, _, _⟩ := hT
      have k0 := blk_cell hTb 0 (by omega)
      unfold tbV at k0
      simp only [if_true] at k0
      generalize l.length = n at *
      clear hTb
      go_enter Try.func26, Try.ntmps26
      go_wp2_with (go_at_call 55; refine HD.out.mono ?_; rintro e w' ⟨rfl, rfl⟩)
      go_ret
      exact ⟨rfl, rfl⟩
    · have hN2 : decide (l.length ≤ k) = false := by simp; omega
      have hz : l.getD k 0 = 0 := by rcases hs with h | h | h; exact absurd h h1; omega; simpa using h
      obtain ⟨bL, oL, bC, oC, cL, cC, hpf⟩ := put_facts hT k (by omega)
      obtain ⟨f0, f1, f2, f3⟩ := hpf w (fun _ => False) (Keeps.refl _ _) (fun _ _ h => h)
      rw [hz] at f2
      have hkn : k < l.length := by omega
      have hll := (roomV_ok hT.room).2.1
      generalize l.length = n at *
      clear hT hpf hz hs f1 f3
      go_enter Try.func26, Try.ntmps26
      go_wp2_with (go_at_call 55; refine HD.out.mono ?_; rintro e w' ⟨rfl, rfl⟩)
      go_ret
      exact ⟨rfl, rfl⟩

set_option maxHeartbeats 400000 in
theorem tlen_any (Bl : Nat → Prop) (p : Nat) (l : List Int) (w : World) (hT : IsTb w Bl p l) :
    Calls Try.prog 28 #[.pointer (some ⟨p, 0, none⟩)] w fun e w' => ∃ v, e = .returned v ∧ w'.ownsRow w.heap.size 3 1 v l.length (l.map (Value.int .i64)) ∧ Below w.heap.size w w' := by
  have hdead := tdead_any Bl p l w hT
  have HD := Lib.hid hdead
  have hll := (roomV_ok hT.room).2.1
  obtain ⟨⟨aL, cL, aC, cC, aS, cS, srt, hTb, hL, _⟩, _, _⟩ := hT
  have k0 := blk_cell hTb 0 (by omega)
  unfold tbV at k0
  simp only [if_true] at k0
  have hcl := cloneI aL l.length cL _ w hL (ints_oneCell _ _) (by omega)
  have HC := Lib.hid hcl
  clear hcl hdead hTb hL
  go_enter Try.func28, Try.ntmps28
  go_wp2_with (first
    | (go_at_call 55; refine HD.out.mono ?_; rintro e w' ⟨rfl, rfl⟩)
    | (go_at_call 48; refine HC.out.mono ?_; rintro e w1 ⟨v, rfl, hO, hb, hnn⟩; have HO := Lib.hid hO; have HB := Lib.hid hb; clear hO hb hnn))
  go_ret
  exact ⟨_, rfl, HO.out, HB.out⟩
end Go.Proofs.Ytbmhdacedicbjaa
