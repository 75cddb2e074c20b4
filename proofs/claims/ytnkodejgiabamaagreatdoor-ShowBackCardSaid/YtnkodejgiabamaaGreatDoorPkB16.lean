/-
  Our texts Sz2 to Sv4, in one.
-/
import Derived.Test.YtnkodejgiabamaaGreatDoorPkB15
import Derived.PlainAid
import Derived.Deep.Cut
set_option maxRecDepth 8000
set_option maxHeartbeats 8000000
namespace Go.Proofs.YtnkodejgiabamaaGreatDoor
theorem print_lenS (k n : Int) (b : Bool) : (printV k n b).1.length ≤ 40 := by
 by_cases h : checkV k n b = 0
 · obtain ⟨-, hc⟩ := checkV_cases h
   unfold printV
   rw [if_pos h]
   show (signL n ++ absL k n.natAbs).length ≤ 40
   have h1 : (signL n).length ≤ 1 := by unfold signL; split <;> simp
   have h2 : (absL k n.natAbs).length ≤ 30 := by
     unfold absL
     split
     · have := decL_len 19 n.natAbs (by omega); omega
     · have h3 := decL_len 19 (n.natAbs / 1000000) (by omega)
       have h4 := (mil_trimF (n.natAbs % 1000000) (by omega)).2.2.2
       rw [List.length_append, List.length_cons]; omega
   rw [List.length_append]; omega
 · unfold printV
   rw [if_neg h]
   simp
theorem textF_lenS (s : List UInt8) : (textF s).length ≤ 2 * s.length + 2 := by
 unfold textF
 have h1 := bareF_len s
 have h2 := hexF_len s
 split <;> (simp only [List.length_cons, List.length_append, List.length_nil]; omega)
mutual
theorem form_lenS : ∀ v : PV, txV v = true → (formV v).length + 1 ≤ 1000 * nodeV v
 | .mk k n s l, h => by
   simp only [txV, Bool.and_eq_true, decide_eq_true_eq] at h
   have h1 := row_lenS l h.1
   have h2 := textF_lenS s
   have h3 := nameF_len s
   have h4 := print_lenS k n true
   have h5 := print_lenS 2 n true
   have hs := h.2
   simp only [formV, nodeV]
   repeat' split
   all_goals first | omega | (simp only [List.length_cons, List.length_append, List.length_nil]; omega)
theorem row_lenS : ∀ l : List PV, txL l = true → (rowF l).length ≤ 1000 * nodeL l
 | [], _ => by simp [rowF]
 | x :: l, h => by
   simp only [txL, Bool.and_eq_true] at h
   have h1 := form_lenS x h.1
   have h2 := more_lenS l h.2
   simp only [rowF, nodeL, List.length_append]
   omega
theorem more_lenS : ∀ l : List PV, txL l = true → (moreF l).length ≤ 1000 * nodeL l
 | [], _ => by simp [moreF]
 | x :: l, h => by
   simp only [txL, Bool.and_eq_true] at h
   have h1 := form_lenS x h.1
   have h2 := more_lenS l h.2
   simp only [moreF, nodeL, List.length_append, List.length_cons]
   omega
end
mutual
theorem depth_nodeS : ∀ v : PV, depthV v ≤ nodeV v
 | .mk k n s l => by
   have := depth_nodesS l
   simp only [depthV, nodeV]
   split <;> omega
theorem depth_nodesS : ∀ l : List PV, depthL l ≤ nodeL l
 | [] => by simp [depthL, nodeL]
 | x :: l => by
   have h1 := depth_nodeS x
   have h2 := depth_nodesS l
   simp only [depthL, nodeL]
   omega
end
def smallV (v : PV) : Bool := decide (0 ≤ fewV v 300) && txV v
theorem small_bd {v : PV} (h : smallV v = true) : depthV v ≤ 300 ∧ (formV v).length ≤ 300000 ∧ nodeV v ≤ 300 ∧ txV v = true := by
 unfold smallV at h
 rw [Bool.and_eq_true, decide_eq_true_eq] at h
 have h1 := fewV_bd v 300 (by omega)
 have h2 := form_lenS v h.2
 have h3 := depth_nodeS v
 exact ⟨by omega, by omega, by omega, h.2⟩
end Go.Proofs.YtnkodejgiabamaaGreatDoor
namespace Go.Proofs.YtnkodejgiabamaaGreatDoor
open Go.RowKit
theorem small_any {v : PV} {sl : Value} {w : World} (hv : IsV w anyF v sl) :
   Calls Tryz.prog 4 #[pvA v sl] w fun e w' => e = .returned (.bool (smallV v)) ∧ Below w.heap.size w w' := by
 have HF := Lib.hid (fun (W : World) (h : Below w.heap.size w W) => few_any _ v sl W 300 (Nat.le_refl _) (by decide) (by decide) (hv.below h))
 have HT := Lib.hid (fun (W : World) (h : Below w.heap.size w W) => texts_any _ v sl W (Nat.le_refl _) (hv.below h))
 obtain ⟨R, hR⟩ : ∃ R, R = smallV v := ⟨_, rfl⟩
 rw [← hR]
 unfold smallV at hR
 obtain ⟨a1, cap1, rfl, -, -, -⟩ := hv.len
 unfold pvA at *
 have hb := (fewV_bd v 300 (by decide))
 have hb1 : -1 ≤ fewV v 300 := hb.1
 have hb2 : fewV v 300 ≤ 300 := hb.2.1
 clear hv hb
 generalize txV v = tx at *
 generalize fewV v 300 = m2 at *
 generalize v.kind = k0 at *
 generalize v.n = n0 at *
 generalize mkB v.s = s0 at *
 generalize v.l.length = l0 at *
 go_enter Tryz.func4, Tryz.ntmps4
 obtain ⟨B, hB⟩ : ∃ B, B = w.heap.size := ⟨_, rfl⟩
 have HX1 := Lib.hid (heapA_new (w := w) (b := B) (.cells #[.int .i64 k0, .int .i64 n0, .string s0, .slice a1 l0 cap1] 24) hB)
 have HW := Lib.hid (belowA w (.cells #[.int .i64 k0, .int .i64 n0, .string s0, .slice a1 l0 cap1] 24))
 go_upto_region 1 with fail
 rw [← hB]
 clear hB
 generalize w.alloc _ = W1 at *
 obtain ⟨⟨c0, c1, c2, c3⟩, -⟩ := cells4 HX1.out
 have HC1 := Lib.hid (HF.out W1 HW.out)
 go_wp2_with fail
 refine HC1.out.mono ?_
 rintro e w2 ⟨rfl, hb⟩
 have HW2 := Lib.hid (HW.out.trans (hb.mono HW.out.size))
 obtain ⟨⟨d0, d1, d2, d3⟩, -⟩ := cells4 (block_keep hb HX1.out)
 have HC2 := Lib.hid (HT.out w2 HW2.out)
 clear hb c0 c1 c2 c3 HF HT HC1 HX1
 by_cases q : 0 ≤ m2
 · have hd : decide (0 ≤ m2) = true := decide_eq_true q
   rw [hd, Bool.true_and] at hR
   subst hR
   go_wp2_with fail
   refine HC2.out.mono ?_
   rintro e w3 ⟨rfl, hb⟩
   have HW3 := Lib.hid (HW2.out.trans (hb.mono HW2.out.size))
   clear hb d0 d1 d2 d3 HC2
   go_wp2
   go_ret
   exact ⟨rfl, HW3.out⟩
 · have hd : decide (0 ≤ m2) = false := decide_eq_false q
   rw [hd, Bool.false_and] at hR
   subst hR
   clear HC2
   go_wp2
   go_ret
   exact ⟨rfl, HW2.out⟩
def mkS (l : List UInt8) : ByteArray := ⟨l.toArray⟩
theorem bl_mkS (l : List UInt8) : bl (mkS l) = l := rfl
theorem mkS_bl (s : ByteArray) : mkS (bl s) = s := rfl
theorem mkS_size (l : List UInt8) : (mkS l).size = l.length := by unfold mkS; simp [ByteArray.size]
theorem mkS_app (a b : List UInt8) : mkS a ++ mkS b = mkS (a ++ b) := ByteArray.mk_append_mk a b
theorem mkS_ext {a b : ByteArray} (h : bl a = bl b) : a = b := by rw [← mkS_bl a, ← mkS_bl b, h]
theorem ret_str {a b : ByteArray} (h : a = b) : Ending.returned (.string a) = .returned (.string b) := by rw [h]
theorem ret_str2 {a b : ByteArray} {x y : Int} (h : a = b) (h2 : x = y) : Ending.returned (.tuple #[.string a, .int .i64 x]) = .returned (.tuple #[.string b, .int .i64 y]) := by rw [h, h2]
theorem dig_ext (d : Nat) (h : d < 10) : (⟨#[48, 49, 50, 51, 52, 53, 54, 55, 56, 57]⟩ : ByteArray).extract d (d + 1) = mkS [UInt8.ofNat (48 + d)] := by
 have : d = 0 ∨ d = 1 ∨ d = 2 ∨ d = 3 ∨ d = 4 ∨ d = 5 ∨ d = 6 ∨ d = 7 ∨ d = 8 ∨ d = 9 := by omega
 rcases this with rfl | rfl | rfl | rfl | rfl | rfl | rfl | rfl | rfl | rfl <;> rfl
def TextEnd (n : Nat) (w : World) (e : Ending) (w' : World) : Prop := e = .returned (.string (mkS (decL n))) ∧ ∃ q, w' = w.drewN q
theorem text9_any (n : Nat) (hn : n < 18446744073709551616) (w : World) : Calls Tryz.prog 61 #[.int .u64 n] w (TextEnd n w) := by
 induction n using Nat.strongRecOn generalizing w with
 | ind n ih =>
   by_cases h : n < 10
   · have HV := Lib.hid (show (⟨#[48, 49, 50, 51, 52, 53, 54, 55, 56, 57]⟩ : ByteArray).extract n (n + 1) = mkS (decL n) by rw [dig_ext n h, decL_small h])
     clear ih
     go_enter Tryz.func61, Tryz.ntmps61
     go_wp2
     go_ret
     exact ⟨ret_str HV.out, 0, rfl⟩
   · have hm : n % 10 < 10 := by omega
     have hd : n / 10 < n := by omega
     have hlen := decL_len 19 (n / 10) (by omega)
     have HV := Lib.hid (show mkS (decL (n / 10)) ++ (⟨#[48, 49, 50, 51, 52, 53, 54, 55, 56, 57]⟩ : ByteArray).extract (n % 10) (n % 10 + 1) = mkS (decL n) by
       rw [dig_ext _ hm, mkS_app, decL_big (n := n) (by omega)])
     have HI := Lib.hid (fun W => ih (n / 10) hd (by omega) W)
     have hsz : (mkS (decL (n / 10))).size ≤ 20 := by rw [mkS_size]; exact hlen
     have hdc : decide ((n : Int) < 10) = false := decide_eq_false (by omega)
     have h10 : (10 : Int) ≤ n := by omega
     clear ih hlen h
     unfold TextEnd at HI
     generalize mkS (decL (n / 10)) = T at *
     go_enter Tryz.func61, Tryz.ntmps61
     go_wp2
     go_quiet ((go_at_call 61; exact Calls.quiet_of (HI.out _)))
     go_wp2
     go_ret
     exact ⟨ret_str HV.out, _, rfl⟩
def strLen : Value → Nat | .string t => t.size | _ => 0
theorem trimByte_any (s : ByteArray) (w : World) (hs : s.size ≤ 100000) :
   Calls Tryz.prog 90 #[.string s, .int .u8 48] w fun e w' => e = .returned (.string (mkS (trimR (bl s)))) ∧ w = w' := by
 obtain ⟨V, hV⟩ : ∃ V, V = trimR (bl s) := ⟨_, rfl⟩
 rw [← hV]
 have HV := Lib.hid hV
 clear hV
 go_enter Tryz.func90, Tryz.ntmps90
 go_wp2
 go_loop [0] (fun v => ∃ T : ByteArray, v = .string T ∧ T.size ≤ 100000 ∧ Hid (V = trimR (bl T))) (fun v => strLen v)
 case atStart => exact ⟨s, rfl, hs, HV⟩
 case round =>
   obtain ⟨T, rfl, hT, HT⟩ := hrel
   by_cases h0 : T.size = 0
   · have HE := Lib.hid (show T = mkS V by
       apply mkS_ext
       have : bl T = [] := List.eq_nil_of_length_eq_zero (by rw [bl_len]; exact h0)
       rw [HT.out, this]; rfl)
     go_wp2
     go_ret
     exact ⟨ret_str HE.out, rfl⟩
   · obtain ⟨m, hm⟩ : ∃ m, T.size = m + 1 := ⟨T.size - 1, by omega⟩
     have hgb := PlainAid.get_bt T
     have hlt : m < T.size := by omega
     have hx : (T[m].toNat : Int) = PlainAid.bt T m := hgb m hlt
     have hsp := bl_take T m hlt
     rw [List.take_of_length_le (by rw [bl_len]; omega)] at hsp
     have HSP := Lib.hid hsp
     have HX := Lib.hid hx
     clear hsp hx h0
     by_cases h48 : PlainAid.bt T m = 48
     · have h48d : (PlainAid.bt T m == 48) = true := by rw [beq_iff_eq]; exact h48
       have HN := Lib.hid (show V = trimR (bl (T.extract 0 m)) by
         rw [HT.out, HSP.out, bl_to, show T[m] = 48 from UInt8.toNat_inj.1 (Int.ofNat_inj.1 (HX.out.trans h48)), trimR_snoc])
       clear h48
       go_wp2
       go_round
       case rel => exact ⟨_, rfl, by rw [ByteArray.size_extract]; omega, HN⟩
       case measure => simp [strLen, ByteArray.size_extract]; omega
     · have h48d : (PlainAid.bt T m == 48) = false := by rw [beq_eq_false_iff_ne]; exact h48
       have HE := Lib.hid (show T = mkS V by
         apply mkS_ext
         rw [bl_mkS, HT.out, HSP.out, trimR_stop]
         intro e; exact h48 (by rw [← HX.out, e]; rfl))
       clear h48
       go_wp2
       go_ret
       exact ⟨ret_str HE.out, rfl⟩
theorem trimRight_any (s : ByteArray) (w : World) (hs : s.size ≤ 100000) :
   Calls Tryz.prog 63 #[.string s, .string ⟨#[48]⟩] w fun e w' => e = .returned (.string (mkS (trimR (bl s)))) ∧ w = w' := by
 have HT := Lib.hid (fun W => trimByte_any s W hs)
 by_cases he : s.toList = []
 · have HE := Lib.hid (show s = mkS (trimR (bl s)) by apply mkS_ext; rw [bl_mkS, ← toL, he]; rfl)
   generalize mkS (trimR (bl s)) = V at *
   go_enter Tryz.func63, Tryz.ntmps63
   go_wp2
   go_ret
   exact ⟨ret_str HE.out, rfl⟩
 · have he2 : s.toList.isEmpty = false := by simpa using he
   generalize mkS (trimR (bl s)) = V at *
   clear he
   go_enter Tryz.func63, Tryz.ntmps63
   go_wp2_with (go_at_call 90; refine (HT.out _).mono ?_; rintro e w' ⟨rfl, rfl⟩)
   go_ret
   exact ⟨rfl, rfl⟩
theorem zeros_ext (k : Nat) (h : k ≤ 64) : (mkS (List.replicate 64 48)).extract 0 k = mkS (List.replicate k 48) := by
 apply mkS_ext
 rw [bl_to, bl_mkS, bl_mkS, List.take_replicate, Nat.min_eq_left h]
theorem case20 (k : Nat) (h : k < 20) : k = 0 ∨ k = 1 ∨ k = 2 ∨ k = 3 ∨ k = 4 ∨ k = 5 ∨ k = 6 ∨ k = 7 ∨ k = 8 ∨ k = 9 ∨ k = 10 ∨ k = 11 ∨ k = 12 ∨ k = 13 ∨ k = 14 ∨ k = 15 ∨ k = 16 ∨ k = 17 ∨ k = 18 ∨ k = 19 := by omega
theorem mul64_any (k : Nat) (h : k < 20) (w : World) : Calls Tryz.prog 132 #[.int .u64 1, .int .u64 k] w fun e w' => e = .returned (.tuple #[.int .u64 0, .int .u64 k]) ∧ w = w' := by
 rcases case20 k h with rfl | rfl | rfl | rfl | rfl | rfl | rfl | rfl | rfl | rfl | rfl | rfl | rfl | rfl | rfl | rfl | rfl | rfl | rfl | rfl
 all_goals
   go_enter Tryz.func132, Tryz.ntmps132
   go_wp2
   go_ret2
   exact ⟨rfl, rfl⟩
theorem mul_any (k : Nat) (h : k < 20) (w : World) : Calls Tryz.prog 111 #[.int .u64 1, .int .u64 k] w fun e w' => e = .returned (.tuple #[.int .u64 0, .int .u64 k]) ∧ w = w' := by
 have HM := Lib.hid (fun W => mul64_any k h W)
 go_enter Tryz.func111, Tryz.ntmps111
 go_wp2_with (go_at_call 132; refine (HM.out _).mono ?_; rintro e w' ⟨rfl, rfl⟩)
 go_ret2
 exact ⟨rfl, rfl⟩
set_option maxRecDepth 100000 in
theorem repeat_any (k : Nat) (h : k < 20) (w : World) : Calls Tryz.prog 89 #[.string ⟨#[48]⟩, .int .i64 k] w fun e w' => e = .returned (.string (mkS (List.replicate k 48))) ∧ w = w' := by
 have HM := Lib.hid (fun W => mul_any k h W)
 obtain ⟨V, hV⟩ : ∃ V, V = mkS (List.replicate k 48) := ⟨_, rfl⟩
 rw [← hV]
 have HV := Lib.hid hV
 clear hV
 by_cases h0 : k = 0
 · subst h0
   go_enter Tryz.func89, Tryz.ntmps89
   go_wp2
   go_ret
   exact ⟨ret_str HV.out.symm, rfl⟩
 by_cases h1 : k = 1
 · subst h1
   go_enter Tryz.func89, Tryz.ntmps89
   go_wp2
   go_ret
   exact ⟨ret_str HV.out.symm, rfl⟩
 have h0d : ((k : Int) == 0) = false := by rw [beq_eq_false_iff_ne]; omega
 have h1d : ((k : Int) == 1) = false := by rw [beq_eq_false_iff_ne]; omega
 have hn : decide ((k : Int) < 0) = false := decide_eq_false (by omega)
 have hk19 : (k : Int) ≤ 19 := by omega
 have hk0 : (0 : Int) ≤ k := by omega
 have h128 : decide ((k : Int) ≤ 128) = true := decide_eq_true (by omega)
 have h64 : decide ((k : Int) ≤ 64) = true := decide_eq_true (by omega)
 have HE := Lib.hid (show (mkS (List.replicate 64 48)).extract 0 k = V by rw [HV.out]; exact zeros_ext k (by omega))
 clear h0 h1
 go_enter Tryz.func89, Tryz.ntmps89
 go_wp2_with fail
 refine (HM.out _).mono ?_
 rintro e w' ⟨rfl, rfl⟩
 go_wp2_with fail
 refine (pre_any _ 48 _ (by decide)).mono ?_
 rintro e w' ⟨rfl, rfl⟩
 rw [show hd1 _ 48 = false from rfl]
 go_wp2_with fail
 refine (pre_any _ 48 _ (by decide)).mono ?_
 rintro e w' ⟨rfl, rfl⟩
 rw [show hd1 _ 48 = false from rfl]
 go_wp2_with fail
 refine (pre_any _ 48 _ (by decide)).mono ?_
 rintro e w' ⟨rfl, rfl⟩
 rw [show hd1 _ 48 = true from rfl]
 go_wp2
 go_ret
 exact ⟨ret_str HE.out, rfl⟩
def PadEnd (n d : Int) (w : World) (e : Ending) (w' : World) : Prop := e = .returned (.tuple #[.string (mkS (padV n d).1), .int .i64 (padV n d).2]) ∧ ∃ q, w' = w.drewN q
theorem padV_bad {n d : Int} (h : n < 0 ∨ d < 1 ∨ 20 < d ∨ d < ((decL n.toNat).length : Int)) : padV n d = ([], 2) := by unfold padV; rw [if_pos h]
theorem padV_ok {N : Nat} {d : Int} (h1 : 1 ≤ d) (h2 : d ≤ 20) (h3 : ((decL N).length : Int) ≤ d) : padV N d = (padL N d.toNat, 0) := by unfold padV; rw [if_neg (by simp; omega)]; simp
theorem pad_any (n d : Int) (w : World) (hn : n < 9223372036854775808) (hn0 : -9223372036854775808 ≤ n) (hd0 : -9223372036854775808 ≤ d) (hd1 : d ≤ 9223372036854775807) :
   Calls Tryz.prog 62 #[.int .i64 n, .int .i64 d] w (PadEnd n d w) := by
 obtain ⟨V, hV⟩ : ∃ V, V = padV n d := ⟨_, rfl⟩
 unfold PadEnd
 rw [← hV]
 have HV := Lib.hid hV
 clear hV
 by_cases h1 : n < 0
 · have HE := Lib.hid (show V = ([], 2) by rw [HV.out]; exact padV_bad (.inl h1))
   clear hn hn0 hd0 hd1
   go_enter Tryz.func62, Tryz.ntmps62
   go_wp2
   go_ret2
   exact ⟨by rw [HE.out]; rfl, 0, rfl⟩
 have h1d : decide (n < 0) = false := by simpa using h1
 by_cases h2 : d < 1
 · have HE := Lib.hid (show V = ([], 2) by rw [HV.out]; exact padV_bad (.inr (.inl h2)))
   clear hn hn0 hd0 hd1 h1
   go_enter Tryz.func62, Tryz.ntmps62
   go_wp2
   go_ret2
   exact ⟨by rw [HE.out]; rfl, 0, rfl⟩
 have h2d : decide (d < 1) = false := by simpa using h2
 by_cases h3 : 20 < d
 · have HE := Lib.hid (show V = ([], 2) by rw [HV.out]; exact padV_bad (.inr (.inr (.inl h3))))
   clear hn hn0 hd0 hd1 h1 h2
   go_enter Tryz.func62, Tryz.ntmps62
   go_wp2
   go_ret2
   exact ⟨by rw [HE.out]; rfl, 0, rfl⟩
 have h3d : decide (20 < d) = false := by simpa using h3
 obtain ⟨N, rfl⟩ := Int.eq_ofNat_of_zero_le (show 0 ≤ n by omega)
 have h2' : 1 ≤ d := by omega
 have h3' : d ≤ 20 := by omega
 have HT := Lib.hid (fun W => text9_any N (by omega) W)
 unfold TextEnd at HT
 have hsz : (mkS (decL N)).size = (decL N).length := mkS_size _
 have hl1 := (decL_spec N).2.2
 have hconv : IntKind.u64.wrap (N : Int) = (N : Int) := IntWalk.u64_in _ (by omega)
 clear hn hn0 hd0 hd1 h1 h2 h3
 by_cases h4 : d < ((decL N).length : Int)
 · have HE := Lib.hid (show V = ([], 2) by rw [HV.out]; exact padV_bad (.inr (.inr (.inr (by simpa using h4)))))
   generalize (decL N).length = len at *
   generalize mkS (decL N) = T at *
   go_enter Tryz.func62, Tryz.ntmps62
   go_wp2_with (go_at_call 61; refine (HT.out _).mono ?_; rintro e w' ⟨rfl, q, rfl⟩)
   go_ret2
   exact ⟨by rw [HE.out]; rfl, q, rfl⟩
 · have h4d : decide (d < ((decL N).length : Int)) = false := by simpa using h4
   obtain ⟨k, hk⟩ := Int.eq_ofNat_of_zero_le (show 0 ≤ d - ((decL N).length : Int) by omega)
   have HR := Lib.hid (fun W => repeat_any k (by omega) W)
   have hzz : (mkS (List.replicate k 48)).size = k := by rw [mkS_size, List.length_replicate]
   have hk19 : k ≤ 19 := by omega
   have hl20 : (decL N).length ≤ 20 := by omega
   have HE := Lib.hid (show V = (bl (mkS (List.replicate k 48) ++ mkS (decL N)), 0) by
     rw [HV.out, padV_ok h2' h3' (by omega), mkS_app, bl_mkS]
     unfold padL
     rw [show d.toNat - (decL N).length = k from by omega])
   clear h4
   generalize (decL N).length = len at *
   generalize mkS (decL N) = T at *
   generalize mkS (List.replicate k 48) = Z at *
   go_enter Tryz.func62, Tryz.ntmps62
   go_wp2_with (first
     | (go_at_call 61; refine (HT.out _).mono ?_; rintro e w' ⟨rfl, q, rfl⟩)
     | (go_at_call 89; refine (HR.out _).mono ?_; rintro e w' ⟨rfl, rfl⟩))
   go_ret2
   exact ⟨by rw [HE.out]; rfl, q, rfl⟩
def PrintEnd (k n : Int) (bare : Bool) (w : World) (e : Ending) (w' : World) : Prop := e = .returned (.tuple #[.string (mkS (printV k n bare).1), .int .i64 (printV k n bare).2]) ∧ Below w.heap.size w w'
theorem printV_bad {k n : Int} {b : Bool} (h : checkV k n b = 2) : printV k n b = ([], 2) := by unfold printV; rw [if_neg (by omega)]
theorem printV_ok {k n : Int} {b : Bool} (h : checkV k n b = 0) : printV k n b = (signL n ++ absL k n.natAbs, 0) := by unfold printV; rw [if_pos h]
theorem checkV_is (k n : Int) (b : Bool) : checkV k n b = 0 ∨ checkV k n b = 2 := by unfold checkV; split <;> simp
theorem padV6 (A : Nat) : padV ((A % 1000000 : Nat) : Int) 6 = (padL (A % 1000000) 6, 0) := by
 have h := decL_len 5 (A % 1000000) (by omega)
 rw [padV_ok (by omega) (by omega) (by omega)]; rfl
theorem pad6_len (A : Nat) : (padL (A % 1000000) 6).length = 6 := padL_len (decL_len 5 (A % 1000000) (by omega))
theorem print_any (k n : Int) (s : ByteArray) (a : Option Addr) (m c : Nat) (w : World) (hm : (m : Int) ≤ 9223372036854775807) :
   Calls Tryz.prog 33 #[.agg #[.int .i64 k, .int .i64 n, .string s, .slice a m c]] w (PrintEnd k n (bareV s m) w) := by
 obtain ⟨V, hV⟩ : ∃ V, V = printV k n (bareV s m) := ⟨_, rfl⟩
 unfold PrintEnd
 rw [← hV]
 have HV := Lib.hid hV
 have HC := Lib.hid (fun W => check_any k n s a m c W hm)
 have HBX := Lib.hid (show (w.alloc (.cells #[.int .i64 k, .int .i64 n, .string s, .slice a m c] 24)).heap[w.heap.size]? = some (.cells #[.int .i64 k, .int .i64 n, .string s, .slice a m c] 24 (0, 0)) from heapA_new _ rfl)
 have HB0 := Lib.hid (belowA w (.cells #[.int .i64 k, .int .i64 n, .string s, .slice a m c] 24))
 clear hV hm
 rcases checkV_is k n (bareV s m) with hc | hc
 case inr =>
   have HE := Lib.hid (show V = ([], 2) by rw [HV.out]; exact printV_bad hc)
   rw [hc] at HC
   clear hc
   go_enter Tryz.func33, Tryz.ntmps33
   go_wp2_with (go_at_call 58; refine (HC.out _).mono ?_; rintro e w' ⟨rfl, hb⟩)
   go_ret2
   exact ⟨by rw [HE.out]; rfl, HB0.out.trans (hb.mono HB0.out.size)⟩
 have HE := Lib.hid (show V = (signL n ++ absL k n.natAbs, 0) by rw [HV.out]; exact printV_ok hc)
 obtain ⟨-, hkn⟩ := checkV_cases hc
 rw [hc] at HC
 clear hc
 obtain ⟨A, hA⟩ : ∃ A : Nat, A = n.natAbs := ⟨_, rfl⟩
 rw [← hA] at HE
 have hAb : A ≤ 2147483647000000 := by omega
 have HT := Lib.hid (fun W => text9_any A (by omega) W)
 have HT2 := Lib.hid (fun W => text9_any (A / 1000000) (by omega) W)
 unfold TextEnd at HT HT2
 have hconv : IntKind.u64.wrap (A : Int) = (A : Int) := IntWalk.u64_in _ (by omega)
 have hconv2 : IntKind.u64.wrap ((A / 1000000 : Nat) : Int) = ((A / 1000000 : Nat) : Int) := IntWalk.u64_in _ (by omega)
 have hTs : (mkS (decL A)).size ≤ 20 := by rw [mkS_size]; exact decL_len 19 A (by omega)
 have hTs2 : (mkS (decL (A / 1000000))).size ≤ 20 := by rw [mkS_size]; exact decL_len 19 _ (by omega)
 rcases hkn with ⟨rfl, hn1, hn2⟩ | ⟨rfl, hn1, hn2⟩
 · have HE2 := Lib.hid (show V = (signL n ++ decL A, 0) by rw [HE.out]; rfl)
   by_cases hn : n < 0
   · have hAn : -n = (A : Int) := by omega
     have HR := Lib.hid (show (⟨#[45]⟩ : ByteArray) ++ mkS (decL A) = mkS (signL n ++ decL A) by rw [← mkS_app]; unfold signL; rw [if_pos hn]; rfl)
     clear hA
     generalize mkS (decL A) = T at *
     go_enter Tryz.func33, Tryz.ntmps33
     go_wp2_with fail
     refine (HC.out _).mono ?_
     rintro e w1 ⟨rfl, hb1⟩
     have HK1 := Lib.hid (block_keep hb1 HBX.out)
     have HB1 := Lib.hid (HB0.out.trans (hb1.mono HB0.out.size))
     obtain ⟨⟨k0, k1, k2, k3⟩, -⟩ := cells4 HK1.out
     clear hb1
     go_wp2
     go_quiet (fail)
     go_wp2_with (go_at_call 61; refine (HT.out _).mono ?_; rintro e w' ⟨rfl, q, rfl⟩)
     go_ret2
     exact ⟨ret_str2 (by rw [HE2.out]; exact HR.out) (by rw [HE2.out]), by simpa using below_drewN (below_drewN HB1.out nq) q⟩
   · obtain rfl : n = (A : Int) := by omega
     have HR := Lib.hid (show (⟨#[]⟩ : ByteArray) ++ mkS (decL A) = mkS (signL (A : Int) ++ decL A) by rw [← mkS_app]; unfold signL; rw [if_neg hn]; rfl)
     clear hA hn
     generalize mkS (decL A) = T at *
     go_enter Tryz.func33, Tryz.ntmps33
     go_wp2_with fail
     refine (HC.out _).mono ?_
     rintro e w1 ⟨rfl, hb1⟩
     have HK1 := Lib.hid (block_keep hb1 HBX.out)
     have HB1 := Lib.hid (HB0.out.trans (hb1.mono HB0.out.size))
     obtain ⟨⟨k0, k1, k2, k3⟩, -⟩ := cells4 HK1.out
     clear hb1
     go_wp2
     go_quiet (fail)
     go_wp2_with (go_at_call 61; refine (HT.out _).mono ?_; rintro e w' ⟨rfl, q, rfl⟩)
     go_ret2
     exact ⟨ret_str2 (by rw [HE2.out]; exact HR.out) (by rw [HE2.out]), by simpa using below_drewN (below_drewN HB1.out nq) q⟩
 · have HE2 := Lib.hid (show V = (signL n ++ (decL (A / 1000000) ++ 46 :: trimF (padL (A % 1000000) 6)), 0) by rw [HE.out]; rfl)
   have hp := fun W => pad_any ((A % 1000000 : Nat) : Int) 6 W (by omega) (by omega) (by omega) (by omega)
   unfold PadEnd at hp
   rw [padV6] at hp
   have HP := Lib.hid hp
   have hFs : (mkS (padL (A % 1000000) 6)).size = 6 := by rw [mkS_size]; exact pad6_len A
   have HTR := Lib.hid (fun W => trimRight_any ((mkS (padL (A % 1000000) 6)).extract 1 6) W (by rw [ByteArray.size_extract]; omega))
   have HTF := Lib.hid (show (mkS (padL (A % 1000000) 6)).extract 0 1 ++ mkS (trimR (bl ((mkS (padL (A % 1000000) 6)).extract 1 6))) = mkS (trimF (padL (A % 1000000) 6)) by
     apply mkS_ext
     rw [bl_app, bl_mkS, bl_mkS, bl_to]
     have h6 := bl_from (mkS (padL (A % 1000000) 6)) 1
     rw [hFs] at h6
     rw [h6, bl_mkS]; rfl)
   have hFe : ((mkS (padL (A % 1000000) 6)).extract 0 1 ++ mkS (trimR (bl ((mkS (padL (A % 1000000) 6)).extract 1 6)))).size ≤ 6 := by
     rw [HTF.out, mkS_size]; exact (mil_trimF (A % 1000000) (by omega)).2.2.2
   have hF1 : (mkS (trimR (bl ((mkS (padL (A % 1000000) 6)).extract 1 6)))).size ≤ 6 := by rw [size_app] at hFe; omega
   have hF0 : ((mkS (padL (A % 1000000) 6)).extract 0 1).size ≤ 6 := by rw [ByteArray.size_extract]; omega
   clear hp
   by_cases hn : n < 0
   · have hAn : -n = (A : Int) := by omega
     have HR := Lib.hid (show (⟨#[45]⟩ : ByteArray) ++ mkS (decL (A / 1000000)) ++ ⟨#[46]⟩ ++ ((mkS (padL (A % 1000000) 6)).extract 0 1 ++ mkS (trimR (bl ((mkS (padL (A % 1000000) 6)).extract 1 6)))) = mkS (signL n ++ (decL (A / 1000000) ++ 46 :: trimF (padL (A % 1000000) 6))) by
       rw [HTF.out]
       unfold signL; rw [if_pos hn]
       apply mkS_ext
       simp only [bl_app, bl_mkS]
       simp [bl])
     clear hA HTF
     generalize mkS (decL (A / 1000000)) = T at *
     generalize mkS (padL (A % 1000000) 6) = F at *
     go_enter Tryz.func33, Tryz.ntmps33
     go_wp2_with fail
     refine (HC.out _).mono ?_
     rintro e w1 ⟨rfl, hb1⟩
     have HK1 := Lib.hid (block_keep hb1 HBX.out)
     have HB1 := Lib.hid (HB0.out.trans (hb1.mono HB0.out.size))
     obtain ⟨⟨k0, k1, k2, k3⟩, -⟩ := cells4 HK1.out
     clear hb1
     go_wp2
     go_quiet (fail)
     go_wp2_with fail
     refine (HP.out _).mono ?_
     rintro e w2 ⟨rfl, q, rfl⟩
     go_wp2_with fail
     go_quiet ((go_at_call 63; exact (HTR.out _).mono fun _ _ ⟨he, hm⟩ => ⟨he, _, hm.symm⟩))
     go_wp2_with (go_at_call 61; refine (HT2.out _).mono ?_; rintro e w' ⟨rfl, q2, rfl⟩)
     go_ret2
     exact ⟨ret_str2 (by rw [HE2.out]; exact HR.out) (by rw [HE2.out]), by simpa using below_drewN HB1.out _⟩
   · obtain rfl : n = (A : Int) := by omega
     have HR := Lib.hid (show (⟨#[]⟩ : ByteArray) ++ mkS (decL (A / 1000000)) ++ ⟨#[46]⟩ ++ ((mkS (padL (A % 1000000) 6)).extract 0 1 ++ mkS (trimR (bl ((mkS (padL (A % 1000000) 6)).extract 1 6)))) = mkS (signL (A : Int) ++ (decL (A / 1000000) ++ 46 :: trimF (padL (A % 1000000) 6))) by
       rw [HTF.out]
       unfold signL; rw [if_neg hn]
       apply mkS_ext
       simp only [bl_app, bl_mkS]
       simp [bl])
     clear hA HTF hn
     generalize mkS (decL (A / 1000000)) = T at *
     generalize mkS (padL (A % 1000000) 6) = F at *
     go_enter Tryz.func33, Tryz.ntmps33
     go_wp2_with fail
     refine (HC.out _).mono ?_
     rintro e w1 ⟨rfl, hb1⟩
     have HK1 := Lib.hid (block_keep hb1 HBX.out)
     have HB1 := Lib.hid (HB0.out.trans (hb1.mono HB0.out.size))
     obtain ⟨⟨k0, k1, k2, k3⟩, -⟩ := cells4 HK1.out
     clear hb1
     go_wp2
     go_quiet (fail)
     go_wp2_with fail
     refine (HP.out _).mono ?_
     rintro e w2 ⟨rfl, q, rfl⟩
     go_wp2_with fail
     go_quiet ((go_at_call 63; exact (HTR.out _).mono fun _ _ ⟨he, hm⟩ => ⟨he, _, hm.symm⟩))
     go_wp2_with (go_at_call 61; refine (HT2.out _).mono ?_; rintro e w' ⟨rfl, q2, rfl⟩)
     go_ret2
     exact ⟨ret_str2 (by rw [HE2.out]; exact HR.out) (by rw [HE2.out]), by simpa using below_drewN HB1.out _⟩
theorem depthL_takeS {l : List PV} {k : Nat} {x : PV} (hx : l[k]? = some x) : depthL (l.take (k + 1)) = max (depthL (l.take k)) (depthV x) := by
 induction l generalizing k with
 | nil => cases hx
 | cons y l ih =>
   cases k with
   | zero =>
     have : y = x := by simpa using hx
     subst this
     simp [depthL]
   | succ k =>
     rw [List.take_succ_cons, List.take_succ_cons]
     simp only [depthL]
     rw [ih (by simpa using hx)]; omega
theorem depthL_memS {x : PV} : ∀ (l : List PV) (k : Nat), l[k]? = some x → depthV x ≤ depthL l
 | [], k, h => by cases h
 | y :: l, 0, h => by
   have : y = x := by simpa using h
   subst this
   simp only [depthL]; omega
 | y :: l, k + 1, h => by
   have := depthL_memS l k (by simpa using h)
   simp only [depthL]; omega
theorem depthV_is (v : PV) : depthV v = if v.kind = 6 ∨ v.kind = 7 then 1 + depthL v.l else 1 := by obtain ⟨_, _, _, _⟩ := v; rfl
theorem vdepth_any : ∀ (N : Nat) (v : PV) (sl : Value) (w : World), SizeOf.sizeOf v ≤ N → depthV v ≤ 1000 → IsV w anyF v sl →
   Calls Tryz.prog 28 #[pvA v sl] w fun e w' => e = .returned (.int .i64 (depthV v : Nat)) ∧ Below w.heap.size w w' := by
 intro N
 induction N with
 | zero => intro v sl w h; obtain ⟨_, _, _, _⟩ := v; simp at h
 | succ N ih =>
 intro v sl w hN hd hv
 obtain ⟨a1, cap1, e1, g1, g2, g3⟩ := hv.len
 subst e1
 have HA := Lib.hid hv
 have HIH := Lib.hid ih
 have HN := Lib.hid hN
 have HSA := Lib.hid (fun (k : Nat) (x : PV) (h : v.l[k]? = some x) => sizeOf_mem h)
 have m1 : (v.l.length : Int) ≤ 9223372036854775807 := by unfold maxLen at g2; omega
 have hdv := depthV_is v
 unfold pvA
 obtain ⟨DV, hDV⟩ : ∃ DV, DV = depthV v := ⟨_, rfl⟩
 rw [← hDV] at hd hdv ⊢
 clear hDV
 clear ih hN hv
 obtain ⟨la, hla⟩ : ∃ la, la = v.l := ⟨_, rfl⟩
 have HLA := Lib.hid hla
 rw [← hla] at hdv HA HSA m1 g1 ⊢
 clear hla g2 g3
 have HHK : ∀ k, k = v.kind → DV = if k = 6 ∨ k = 7 then 1 + depthL la else 1 := fun k e => by rw [e]; exact hdv
 obtain ⟨k0, hk0⟩ : ∃ k, k = v.kind := ⟨_, rfl⟩
 have hdk := HHK k0 hk0
 rw [← hk0]
 have HD := Lib.hid hd
 clear HHK hdv hk0 hd
 generalize v.n = n0 at *
 generalize mkB v.s = s0 at *
 go_enter Tryz.func28, Tryz.ntmps28
 obtain ⟨B, hB⟩ : ∃ B, B = w.heap.size := ⟨_, rfl⟩
 have HX1 := Lib.hid (heapA_new (w := w) (b := B) (.cells #[.int .i64 k0, .int .i64 n0, .string s0, .slice a1 la.length cap1] 24) hB)
 have HW := Lib.hid (belowA w (.cells #[.int .i64 k0, .int .i64 n0, .string s0, .slice a1 la.length cap1] 24))
 go_upto_region 2 with fail
 rw [← hB]
 clear hB
 generalize w.alloc _ = W1 at *
 obtain ⟨⟨c0, c1, c2, c3⟩, -⟩ := cells4 HX1.out
 by_cases hk : k0 = 6 ∨ k0 = 7
 case neg =>
   have hk6 : (k0 == 6) = false := by rw [beq_eq_false_iff_ne]; omega
   have hk7 : (k0 == 7) = false := by rw [beq_eq_false_iff_ne]; omega
   rw [if_neg hk] at hdk
   subst hdk
   clear hk HA HIH HN HSA HD HLA
   go_wp2
   go_ret
   exact ⟨rfl, HW.out⟩
 rw [if_pos hk] at hdk
 have HDK := Lib.hid hdk
 have hdl : depthL la ≤ 999 := by have := HD.out; omega
 clear hdk
 have hor : ∀ {Q : Prop}, (k0 = 6 → Q) → (k0 = 7 → Q) → Q := fun h6 h7 => hk.elim h6 h7
 have HFIN : Hid (∀ w', Below w.heap.size w w' → w' = w') := Lib.hid fun _ _ => rfl
 clear hk HFIN
 refine hor (fun e6 => ?_) (fun e7 => ?_)
 all_goals
   first | subst e6 | subst e7
   clear hor
   go_wp2
   go_loopw [3, 17] (fun vn vk wr => ∃ (k n : Nat), vk = .int .i64 k ∧ vn = .int .i64 n ∧ n ≤ 999 ∧ k ≤ la.length ∧ Hid (Below W1.heap.size W1 wr) ∧ Hid (n = depthL (la.take k))) (fun _ vk _ => la.length - (intOf vk).toNat)
   case atStart => exact ⟨0, 0, rfl, rfl, by omega, Nat.zero_le _, Below.refl _ _, rfl⟩
   case round =>
     obtain ⟨k, n, rfl, rfl, hn, hk, HWR1, HV⟩ := hrel
     have HWR := Lib.hid (HW.out.trans (HWR1.out.mono HW.out.size))
     by_cases q1 : k < la.length
     case neg =>
       have hkl : k = la.length := by omega
       subst hkl
       have hv := HV.out
       rw [List.take_length] at hv
       have hv2 : DV = 1 + n := by rw [HDK.out, hv]
       have HV9 := Lib.hid hv2
       clear hv hv2 HV HA HIH HN HSA c0 c1 c2 c3 HDK
       go_wp2
       go_ret
       exact ⟨by rw [HV9.out]; push_cast; rfl, HWR.out⟩
     obtain ⟨x, hx⟩ : ∃ x, la[k]? = some x := ⟨_, List.getElem?_eq_getElem q1⟩
     obtain ⟨-, -, -, b1, o1, rfl, -, -, hax⟩ := (HA.out.below HWR.out).at (by omega)
     rw [← HLA.out] at hax
     obtain ⟨sx, hsx, x0, x1, x2, x3⟩ := hax k x hx
     have hlt : SizeOf.sizeOf x < SizeOf.sizeOf v := HSA.out k x hx
     have hN := HN.out
     have hdx := depthL_memS la k hx
     have hv : max n (depthV x) = depthL (la.take (k + 1)) := by rw [depthL_takeS hx]; have := HV.out; omega
     have HV2 := Lib.hid hv
     have hdx2 : depthV x ≤ 999 := by omega
     obtain ⟨sa', sc', rfl, -, -, -⟩ := hsx.len
     have HCALL := Lib.hid (fun (W : World) (hb : Below wr.heap.size wr W) => HIH.out x _ W (by omega) (by omega) (hsx.below hb))
     simp only [pvA] at HCALL
     clear hv hsx hlt hN hax hx HA HIH HV HSA HLA HN hdx c0 c1 c2 c3
     generalize depthV x = d at *
     have hkl : (0 : Int) ≤ (k : Int) := by omega
     have hki : (k : Int) < (la.length : Int) := by omega
     have hd1 : decide (k < la.length) = true := decide_eq_true q1
     generalize x.kind = xk at *
     generalize x.n = xn at *
     generalize mkB x.s = xs at *
     generalize x.l.length = xl at *
     have HB4 := Lib.hid (belowA wr (.cells #[.int .i64 xk, .int .i64 xn, .string xs, .slice sa' xl sc'] 24))
     have HK4 := Lib.hid (heapA_new (w := wr) (b := wr.heap.size) (.cells #[.int .i64 xk, .int .i64 xn, .string xs, .slice sa' xl sc'] 24) rfl)
     have HW4 := Lib.hid (HWR1.out.trans (HB4.out.mono HWR1.out.size))
     go_upto_region 6 with fail
     obtain ⟨r4, hr4⟩ : ∃ r4, r4 = wr.heap.size := ⟨_, rfl⟩
     rw [← hr4] at HK4 ⊢
     clear hr4 x0 x1 x2 x3
     have HC4 := Lib.hid (HCALL.out _ HB4.out)
     clear HCALL HB4
     generalize wr.alloc _ = W4 at *
     obtain ⟨⟨x0, x1, x2, x3⟩, -⟩ := cells4 HK4.out
     go_wp2_with fail
     refine HC4.out.mono ?_
     rintro e w5 ⟨rfl, hb5⟩
     have HW5 := Lib.hid (HW4.out.trans (hb5.mono HW4.out.size))
     clear hb5 x0 x1 x2 x3 HC4
     by_cases hc : n < d
     · have hm : max n d = d := by omega
       have hm2 : max (n : Int) (d : Int) = (d : Int) := by omega
       rw [hm] at HV2
       have hd1 : decide ((n : Int) < (d : Int)) = true := decide_eq_true (by omega)
       have hd2 : decide (n < d) = true := decide_eq_true hc
       have hc2 : (n : Int) ≤ (d : Int) := by omega
       go_wp2
       go_roundw
       case rel => exact ⟨k + 1, d, by go_num, by go_num, by omega, by omega, HW5, HV2⟩
       case measure => simp [intOf]; omega
     · have hm : max n d = n := by omega
       have hm2 : max (n : Int) (d : Int) = (n : Int) := by omega
       rw [hm] at HV2
       have hd1 : decide ((n : Int) < (d : Int)) = false := decide_eq_false (by omega)
       have hd2 : decide (n < d) = false := decide_eq_false hc
       have hc2 : (d : Int) ≤ (n : Int) := by omega
       go_wp2
       go_roundw
       case rel => exact ⟨k + 1, n, by go_num, by go_num, by omega, by omega, HW5, HV2⟩
       case measure => simp [intOf]; omega
theorem eqBs (a b : List UInt8) : ((mkB a).toList == b) = decide (a = b) := by
 rw [toList_mkB]; by_cases h : a = b <;> simp [h]
theorem plain_any (k n : Int) (s : List UInt8) (a : Option Addr) (m c : Nat) (w : World) :
   Calls Tryz.prog 57 #[.agg #[.int .i64 k, .int .i64 n, .string (mkB s), .slice a m c]] w fun e w' => e = .returned (.bool (n == 0 && decide (s = []) && m == 0)) ∧ Below w.heap.size w w' := by
 have hs := eqBs s []
 generalize decide (s = []) = ds at *
 generalize mkB s = S at *
 have HB := Lib.hid (belowA w (.cells #[.int .i64 k, .int .i64 n, .string S, .slice a m c] 24))
 have hm : ((m : Int) == 0) = (m == 0) := by rw [Bool.eq_iff_iff]; simp
 cases h1 : (n == 0)
 · go_enter Tryz.func57, Tryz.ntmps57
   go_wp2
   go_ret
   exact ⟨rfl, HB.out⟩
 · cases ds
   · go_enter Tryz.func57, Tryz.ntmps57
     go_wp2
     go_ret
     exact ⟨rfl, HB.out⟩
   · cases h2 : (m == 0)
     · rw [h2] at hm
       go_enter Tryz.func57, Tryz.ntmps57
       go_wp2
       go_ret
       exact ⟨rfl, HB.out⟩
     · rw [h2] at hm
       go_enter Tryz.func57, Tryz.ntmps57
       go_wp2
       go_ret
       exact ⟨rfl, HB.out⟩
theorem evenN_getS {l : List PV} (h : evenN l = true) {k : Nat} {x : PV} (hx : l[k * 2]? = some x) : x.kind = 5 := by
 induction k generalizing l with
 | zero =>
   match l, h with
   | [a], h => have e : a = x := by simpa using hx
               subst e; simpa [evenN] using h
   | a :: b :: l, h => have e : a = x := by simpa using hx
                       subst e; simp [evenN] at h; exact h.1
   | [], _ => simp at hx
 | succ k ih =>
   match l, h with
   | [], _ => simp at hx
   | [a], _ => simp at hx
   | a :: b :: l, h => exact ih (l := l) (by simp [evenN] at h; exact h.2) (by rw [show (k + 1) * 2 = k * 2 + 2 by omega] at hx; simpa using hx)
theorem evenN_of : ∀ (l : List PV), (∀ k x, l[k * 2]? = some x → x.kind = 5) → evenN l = true
 | [], _ => rfl
 | [a], h => by have := h 0 a rfl; simp [evenN, this]
 | a :: b :: l, h => by
   have h1 := h 0 a rfl
   have h2 := evenN_of l (fun k x hx => h (k + 1) x (by rw [show (k + 1) * 2 = k * 2 + 2 by omega]; simpa using hx))
   simp [evenN, h1, h2]
theorem asc_getS {l : List PV} (h : ascV (twoV l) = true) (he : l.length % 2 = 0) {k : Nat} {x y : PV} (hx : l[k * 2]? = some x) (hy : l[k * 2 + 2]? = some y) : sLt x.s y.s = true := by
 induction k generalizing l with
 | zero =>
   match l, h with
   | [], _ => cases hx
   | [a], _ => cases hy
   | [a, b], _ => cases hy
   | [a, b, c], _ => simp at he
   | a :: b :: c :: d :: l, h =>
     have e1 : a = x := by simpa using hx
     have e2 : c = y := by simpa using hy
     subst e1 e2
     simp [twoV, ascV] at h
     exact h.1
 | succ k ih =>
   match l, h with
   | [], _ => cases hx
   | [a], _ => simp at he
   | a :: b :: l, h =>
     refine ih (l := l) ?_ (by simp at he; omega) (by rw [show (k + 1) * 2 = k * 2 + 2 by omega] at hx; simpa using hx) (by rw [show (k + 1) * 2 + 2 = (k * 2 + 2) + 2 by omega] at hy; simpa using hy)
     match l, h with
     | [], _ => rfl
     | [c], _ => rfl
     | c :: d :: l, h => simp [twoV, ascV] at h ⊢; exact h.2
theorem asc_ofS : ∀ (l : List PV), (∀ k x y, l[k * 2]? = some x → l[k * 2 + 2]? = some y → sLt x.s y.s = true) → ascV (twoV l) = true
 | [], _ => rfl
 | [a], _ => rfl
 | [a, b], _ => rfl
 | [a, b, c], _ => rfl
 | a :: b :: c :: d :: l, h => by
   have h1 := h 0 a c rfl rfl
   have h2 := asc_ofS (c :: d :: l) (fun k x y hx hy => h (k + 1) x y (by rw [show (k + 1) * 2 = k * 2 + 2 by omega]; simpa using hx) (by rw [show (k + 1) * 2 + 2 = (k * 2 + 2) + 2 by omega]; simpa using hy))
   simp [twoV, ascV] at h2 ⊢
   exact ⟨h1, h2⟩
def dictC (l : List PV) : Int := if l.length % 2 ≠ 0 then 2 else if evenN l = false then 2 else if ascV (twoV l) = true then 0 else 16
theorem vdict_any {v : PV} {sl : Value} {w : World} (hv : IsV w anyF v sl) :
   Calls Tryz.prog 59 #[pvA v sl] w fun e w' => e = .returned (.int .i64 (dictC v.l)) ∧ Below w.heap.size w w' := by
 obtain ⟨a1, cap1, e1, g1, g2, g3⟩ := hv.len
 subst e1
 have HA := Lib.hid hv
 have m1 : (v.l.length : Int) ≤ 9223372036854775807 := by unfold maxLen at g2; omega
 unfold pvA
 clear hv g2 g3
 obtain ⟨la, hla⟩ : ∃ la, la = v.l := ⟨_, rfl⟩
 have HLA := Lib.hid hla
 rw [← hla] at m1 g1 HA ⊢
 clear hla
 obtain ⟨R, hR⟩ : ∃ R, R = dictC la := ⟨_, rfl⟩
 rw [← hR]
 unfold dictC at hR
 have HR := Lib.hid hR
 clear hR
 generalize v.kind = k0 at *
 generalize v.n = n0 at *
 generalize mkB v.s = s0 at *
 go_enter Tryz.func59, Tryz.ntmps59
 obtain ⟨B, hB⟩ : ∃ B, B = w.heap.size := ⟨_, rfl⟩
 have HX1 := Lib.hid (heapA_new (w := w) (b := B) (.cells #[.int .i64 k0, .int .i64 n0, .string s0, .slice a1 la.length cap1] 24) hB)
 have HW := Lib.hid (belowA w (.cells #[.int .i64 k0, .int .i64 n0, .string s0, .slice a1 la.length cap1] 24))
 go_upto_region 1 with fail
 rw [← hB]
 clear hB
 generalize w.alloc _ = W1 at *
 obtain ⟨⟨c0, c1, c2, c3⟩, -⟩ := cells4 HX1.out
 by_cases he : la.length % 2 = 0
 case neg =>
   have he1 : ((la.length : Int) % 2 == 1) = true := by rw [beq_iff_eq]; omega
   have he2 : ((la.length : Int) % 2 == 0) = false := by rw [beq_eq_false_iff_ne]; omega
   have he3 : ((la.length : Int) % 2 != 0) = true := by simp only [bne, he2, Bool.not_false]
   have hr := HR.out
   rw [if_pos he] at hr
   subst hr
   clear HR HA he
   go_wp2
   go_ret
   exact ⟨rfl, HW.out⟩
 have he1 : ((la.length : Int) % 2 == 1) = false := by rw [beq_eq_false_iff_ne]; omega
 have he2 : ((la.length : Int) % 2 == 0) = true := by rw [beq_iff_eq]; omega
 have he3 : ((la.length : Int) % 2 != 0) = false := by simp only [bne, he2, Bool.not_true]
 have HE := Lib.hid he
 have hr := HR.out
 rw [if_neg (by omega)] at hr
 clear HR
 have HR := Lib.hid hr
 clear hr he
 go_wp2
 clear he1 he2 he3
 go_loopw [3] (fun vk wr => ∃ j K : Nat, vk = .int .i64 (K : Int) ∧ Hid (K = j * 2) ∧ K ≤ la.length ∧ wr = W1 ∧ Hid (∀ i x, i < j → la[i * 2]? = some x → x.kind = 5)) (fun vk _ => la.length + 2 - (intOf vk).toNat)
 case atStart => exact ⟨0, 0, rfl, rfl, by omega, rfl, Lib.hid fun i x h => absurd h (Nat.not_lt_zero _)⟩
 case round =>
   obtain ⟨j, k, rfl, HK, hj, hwr, HG⟩ := hrel
   rw [hwr]
   clear hwr
   have hke : k < la.length → k + 2 ≤ la.length := fun h => by have h1 := HK.out; have h2 := HE.out; omega
   by_cases q1 : k < la.length
   case pos =>
     obtain ⟨x, hx⟩ : ∃ x, la[k]? = some x := ⟨_, List.getElem?_eq_getElem q1⟩
     obtain ⟨-, -, -, b1, o1, rfl, -, -, hax⟩ := (HA.out.below HW.out).at (by omega)
     rw [← HLA.out] at hax
     obtain ⟨sx, -, x0, -⟩ := hax k x hx
     have hkl : (0 : Int) ≤ (k : Int) := by omega
     have hki : (k : Int) < (la.length : Int) := by omega
     have hd1 : decide (k < la.length) = true := decide_eq_true q1
     have hd2 : decide ((k : Int) < (la.length : Int)) = true := decide_eq_true hki
     have hk2 := hke q1
     clear hke
     by_cases h5 : x.kind = 5
     · rw [h5] at x0
       have HG2 := Lib.hid (show ∀ i y, i < j + 1 → la[i * 2]? = some y → y.kind = 5 from fun i y hi hy => by
         by_cases e : i = j
         · subst e
           have h1 := HK.out
           rw [← h1, hx] at hy
           cases hy
           exact h5
         · exact HG.out i y (by omega) hy)
       clear hax hx h5 HG
       go_wp2
       go_roundw
       case rel => exact ⟨j + 1, k + 2, by go_num, by have := HK.out; show k + 2 = (j + 1) * 2; omega, hk2, trivial, HG2⟩
       case measure => simp [intOf]; omega
     · have h51 : (x.kind == 5) = false := by rw [beq_eq_false_iff_ne]; exact h5
       have h52 : (x.kind != 5) = true := by simp only [bne, h51, Bool.not_false]
       have hev : evenN la = false := by
         cases hq : evenN la with
         | false => rfl
         | true => exact absurd (evenN_getS hq (k := j) (by rw [← HK.out]; exact hx)) h5
       have hr := HR.out
       rw [if_pos hev] at hr
       subst hr
       generalize x.kind = xk at *
       clear hax hx h5 HG HR HA hev HK HE
       go_wp2
       go_ret
       exact ⟨rfl, HW.out⟩
   have hd1 : decide (k < la.length) = false := decide_eq_false q1
   have hd2 : decide ((k : Int) < (la.length : Int)) = false := decide_eq_false (by omega)
   have hq2 : ¬ (k : Int) < (la.length : Int) := by omega
   have hev : evenN la = true := evenN_of la fun i x hx => HG.out i x (by
     have h1 := HK.out
     have h2 := (List.getElem?_eq_some_iff.1 hx).1
     omega) hx
   have hr := HR.out
   rw [if_neg (by rw [hev]; decide)] at hr
   clear HR
   have HR := Lib.hid hr
   clear hr HK hj hke HG hev
   go_wp2
   clear hd1 hd2 hq2 q1
   clear c0 c1 c2 c3
   go_loopw [4] (fun vk wr => ∃ j m K : Nat, vk = .int .i64 (K : Int) ∧ Hid (m = j * 2) ∧ m + 2 = K ∧ m ≤ la.length ∧ Hid (Below W1.heap.size W1 wr) ∧ Hid (∀ i x y, i < j → la[i * 2]? = some x → la[i * 2 + 2]? = some y → sLt x.s y.s = true)) (fun vk _ => la.length + 4 - (intOf vk).toNat)
   case atStart => exact ⟨0, 0, 2, by go_num, rfl, rfl, by omega, Below.refl _ _, Lib.hid fun i x y h => absurd h (Nat.not_lt_zero _)⟩
   case round =>
     obtain ⟨j, m, K, rfl, HK, hmK, hm2, HWR, HG⟩ := hrel
     have HW2 := Lib.hid (HW.out.trans (HWR.out.mono HW.out.size))
     obtain ⟨⟨c0, c1, c2, c3⟩, -⟩ := cells4 (block_keep HWR.out HX1.out)
     by_cases q2 : K < la.length
     case neg =>
       have hd0 : decide (K < la.length) = false := decide_eq_false q2
       have hd1 : decide ((K : Int) < (la.length : Int)) = false := decide_eq_false (by omega)
       have hq2 : ¬ (K : Int) < (la.length : Int) := by omega
       have has : ascV (twoV la) = true := asc_ofS la fun i x y hx hy => HG.out i x y (by
         have h1 := HK.out
         have h2 := (List.getElem?_eq_some_iff.1 hy).1
         omega) hx hy
       have hr := HR.out
       rw [if_pos has] at hr
       subst hr
       clear HG HA HR has HK HE hmK
       go_wp2
       go_ret
       exact ⟨rfl, HW2.out⟩
     obtain ⟨x, hx⟩ : ∃ x, la[m]? = some x := ⟨_, List.getElem?_eq_getElem (by omega)⟩
     obtain ⟨y, hy⟩ : ∃ y, la[K]? = some y := ⟨_, List.getElem?_eq_getElem q2⟩
     have hK2 : K + 2 ≤ la.length := by have h1 := HK.out; have h2 := HE.out; omega
     obtain ⟨-, -, -, b1, o1, rfl, -, -, hax⟩ := (HA.out.below HW2.out).at (by omega)
     rw [← HLA.out] at hax
     obtain ⟨sx, -, -, -, x2, -⟩ := hax m x hx
     obtain ⟨sy, -, -, -, y2, -⟩ := hax K y hy
     have l1 : Op.bytesLess (mkB x.s).toList (mkB y.s).toList = sLt x.s y.s := by rw [toList_mkB, toList_mkB, less_mkB]
     have l2 : Op.bytesLess (mkB y.s).toList (mkB x.s).toList = sLt y.s x.s := by rw [toList_mkB, toList_mkB, less_mkB]
     have l3 : ((mkB y.s).toList == (mkB x.s).toList) = decide (y.s = x.s) := by rw [toList_mkB x.s]; exact eqBs _ _
     have l4 : ((mkB x.s).toList == (mkB y.s).toList) = decide (x.s = y.s) := by rw [toList_mkB y.s]; exact eqBs _ _
     have u3 := BelowW.cell c3
     have e2 := BelowW.cell x2
     have r2 := BelowW.cell y2
     have hd0 : decide (K < la.length) = true := decide_eq_true q2
     have hd1 : decide ((K : Int) < (la.length : Int)) = true := decide_eq_true (by omega)
     have hkl : (0 : Int) ≤ (m : Int) := by omega
     have hki : (m : Int) < (la.length : Int) := by omega
     have hkl2 : (0 : Int) ≤ (K : Int) := by omega
     have hki2 : (K : Int) < (la.length : Int) := by omega
     have hkm : (K : Int) - 2 = (m : Int) := by omega
     have hkw : IntKind.i64.wrap ((K : Int) - 2) = (m : Int) := by rw [IntWalk.i64_in _ (by omega)]; omega
     have hkw2 : IntKind.i64.wrap (m : Int) = (m : Int) := IntWalk.i64_in _ (by omega)
     by_cases hlt : sLt x.s y.s = true
     · rw [hlt] at l1
       rw [sLt_as _ _ hlt] at l2
       have hne : x.s ≠ y.s := fun e => by rw [e, sLt_ir] at hlt; cases hlt
       rw [decide_eq_false (fun e => hne e.symm)] at l3
       rw [decide_eq_false hne] at l4
       have HG2 := Lib.hid (show ∀ i u z, i < j + 1 → la[i * 2]? = some u → la[i * 2 + 2]? = some z → sLt u.s z.s = true from fun i u z hi hu hz => by
         by_cases e : i = j
         · subst e
           have h1 := HK.out
           rw [← h1, hx] at hu
           rw [← h1, hmK, hy] at hz
           cases hu
           cases hz
           exact hlt
         · exact HG.out i u z (by omega) hu hz)
       clear hax hx hy HG HA hlt x2 y2 hne HR
       generalize mkB x.s = sX at *
       generalize mkB y.s = sY at *
       have HMK := Lib.hid hmK
       clear hmK
       go_wp2
       refine wp_region_below (by kernel_rfl) (by kernel_rfl) ?_
       repeat (go_big_quiet_step (fail))
       refine wpQuiet_nil ?_
       rintro _ ⟨⟨w4, hb4⟩, rfl⟩
       have HW4 := Lib.hid (HWR.out.trans (hb4.mono HWR.out.size))
       clear u3 e2 r2 c0 c1 c2 c3 hb4 l1 l2 l3 l4
       go_wp2
       exact ⟨⟨j + 1, K, K + 2, by go_num, by have h1 := HK.out; have h2 := HMK.out; show K = (j + 1) * 2; omega, rfl, by omega, HW4, HG2⟩, by simp [intOf]; omega⟩
     · have hge : sLt x.s y.s = false := by simpa using hlt
       rw [hge] at l1
       have has : ascV (twoV la) = false := by
         cases hq : ascV (twoV la) with
         | false => rfl
         | true => exact absurd (asc_getS hq HE.out (k := j) (by rw [← HK.out]; exact hx) (by rw [← HK.out, hmK]; exact hy)) hlt
       have hr := HR.out
       rw [if_neg (by rw [has]; decide)] at hr
       subst hr
       by_cases hgt : sLt y.s x.s = true
       · rw [hgt] at l2
         have hne : x.s ≠ y.s := fun e => by rw [e, sLt_ir] at hgt; cases hgt
         rw [decide_eq_false (fun e => hne e.symm)] at l3
         rw [decide_eq_false hne] at l4
         clear hax hx hy HG HA hlt x2 y2 hne HR has hge hgt HK HE
         generalize mkB x.s = sX at *
         generalize mkB y.s = sY at *
         clear hmK
         go_wp2
         refine wp_region_below (by kernel_rfl) (by kernel_rfl) ?_
         repeat (go_big_quiet_step (fail))
         refine wpQuiet_nil ?_
         rintro _ ⟨⟨w4, hb4⟩, rfl⟩
         have HW4 := Lib.hid (HW2.out.trans (hb4.mono HW2.out.size))
         clear u3 e2 r2 c0 c1 c2 c3 hb4 l1 l2 l3 l4
         go_wp2
         go_ret
         exact ⟨rfl, HW4.out⟩
       · have hgf : sLt y.s x.s = false := by simpa using hgt
         rw [hgf] at l2
         have heq : x.s = y.s := by
           by_cases e : x.s = y.s
           · exact e
           · exact absurd (sLt_tri _ _ hge e) (by rw [hgf]; decide)
         rw [decide_eq_true heq.symm] at l3
         rw [decide_eq_true heq] at l4
         clear hax hx hy HG HA hlt x2 y2 HR has hge hgt hgf HK HE heq
         generalize mkB x.s = sX at *
         generalize mkB y.s = sY at *
         clear hmK
         go_wp2
         refine wp_region_below (by kernel_rfl) (by kernel_rfl) ?_
         repeat (go_big_quiet_step (fail))
         refine wpQuiet_nil ?_
         rintro _ ⟨⟨w4, hb4⟩, rfl⟩
         have HW4 := Lib.hid (HW2.out.trans (hb4.mono HW2.out.size))
         clear u3 e2 r2 c0 c1 c2 c3 hb4 l1 l2 l3 l4
         go_wp2
         go_ret
         exact ⟨rfl, HW4.out⟩
theorem idx_memS (o : List UInt8) (c : UInt8) : decide (0 ≤ Lib.indexByte o c) = decide (c ∈ o) := by
 have hg := Lib.indexByte_ge o c
 by_cases h : Lib.indexByte o c = -1
 · rw [h, decide_eq_false (idx_none _ _ h)]; rfl
 · obtain ⟨i, hi⟩ := Int.eq_ofNat_of_zero_le (show 0 ≤ Lib.indexByte o c by omega)
   obtain ⟨a, t, e, -, -⟩ := idx_some _ _ _ hi
   rw [hi, decide_eq_true (by omega), decide_eq_true (by rw [e]; simp)]
theorem vown_k0 {n : Int} {s : List UInt8} {l : List PV} {a1 : Option Addr} {cap1 : Nat} {w : World} (_m1 : (l.length : Int) ≤ 9223372036854775807) :
   Calls Tryz.prog 31 #[.agg #[.int .i64 0, .int .i64 n, .string (mkB s), .slice a1 l.length cap1]] w fun e w' => e = .returned (.int .i64 (if n = 0 ∧ s = [] ∧ l = [] then 0 else 2)) ∧ Below w.heap.size w w' := by
 obtain ⟨R, hR⟩ : ∃ R, R = (if n = 0 ∧ s = [] ∧ l = [] then 0 else 2 : Int) := ⟨_, rfl⟩
 rw [← hR]
 have HR := Lib.hid hR
 have HB := Lib.hid (belowA w (.cells #[.int .i64 0, .int .i64 n, .string (mkB s), .slice a1 l.length cap1] 24))
 clear hR
 have HP := Lib.hid (fun W => plain_any 0 n s a1 l.length cap1 W)
 have hq : R = if (n == 0 && decide (s = []) && l.length == 0) = true then 0 else 2 := by
   rw [HR.out]; cases l <;> simp
 clear HR
 obtain ⟨b, hb⟩ : ∃ b, b = (n == 0 && decide (s = []) && l.length == 0) := ⟨_, rfl⟩
 rw [← hb] at HP hq
 have HQ := Lib.hid hq
 clear hb hq
 generalize l.length = m at *
 generalize mkB s = S at *
 cases b
 · obtain rfl : R = 2 := HQ.out
   clear HQ
   go_enter Tryz.func31, Tryz.ntmps31
   go_wp2_with (go_at_call 57; refine (HP.out _).mono ?_; rintro e w1 ⟨rfl, hb1⟩)
   go_ret
   exact ⟨rfl, HB.out.trans (hb1.mono HB.out.size)⟩
 · obtain rfl : R = 0 := HQ.out
   clear HQ
   go_enter Tryz.func31, Tryz.ntmps31
   go_wp2_with (go_at_call 57; refine (HP.out _).mono ?_; rintro e w1 ⟨rfl, hb1⟩)
   go_ret
   exact ⟨rfl, HB.out.trans (hb1.mono HB.out.size)⟩
theorem vown_k1 {n : Int} {s : List UInt8} {l : List PV} {a1 : Option Addr} {cap1 : Nat} {w : World} (_m1 : (l.length : Int) ≤ 9223372036854775807) :
   Calls Tryz.prog 31 #[.agg #[.int .i64 1, .int .i64 n, .string (mkB s), .slice a1 l.length cap1]] w fun e w' => e = .returned (.int .i64 (if (n = 0 ∨ n = 1) ∧ s = [] ∧ l = [] then 0 else 2)) ∧ Below w.heap.size w w' := by
 obtain ⟨R, hR⟩ : ∃ R, R = (if (n = 0 ∨ n = 1) ∧ s = [] ∧ l = [] then 0 else 2 : Int) := ⟨_, rfl⟩
 rw [← hR]
 have HR := Lib.hid hR
 have HB := Lib.hid (belowA w (.cells #[.int .i64 1, .int .i64 n, .string (mkB s), .slice a1 l.length cap1] 24))
 clear hR
 by_cases hn0 : n = 0
 · have en0 : (n == 0) = true := by rw [beq_iff_eq]; exact hn0
   have en0' : (n != 0) = false := by simp only [bne, en0, Bool.not_true]
   by_cases hs0 : s = []
   · have es0 : (mkB s).toList = [] := by rw [toList_mkB]; exact hs0
     have es0b : ((mkB s).toList == []) = true := by rw [beq_iff_eq]; exact es0
     have es0c : ((mkB s).toList != []) = false := by simp only [bne, es0b, Bool.not_true]
     by_cases hm0 : l = []
     · have em0 : (l.length == 0) = true := by rw [hm0]; rfl
       have em0' : ((l.length : Int) == 0) = true := by rw [hm0]; rfl
       have hr := HR.out
       obtain rfl : R = 0 := by rw [hr]; simp [hn0, hs0, hm0]
       clear HR hr hn0 hs0 hm0
       generalize l.length = m at *
       generalize mkB s = S at *
       go_enter Tryz.func31, Tryz.ntmps31
       go_wp2
       go_ret
       exact ⟨rfl, HB.out⟩
     · have em0 : (l.length == 0) = false := by rw [beq_eq_false_iff_ne]; exact fun e => hm0 (List.eq_nil_of_length_eq_zero e)
       have em0' : ((l.length : Int) == 0) = false := by rw [beq_eq_false_iff_ne]; exact fun e => hm0 (List.eq_nil_of_length_eq_zero (by omega))
       have hr := HR.out
       obtain rfl : R = 2 := by rw [hr]; simp [hn0, hs0, hm0]
       clear HR hr hn0 hs0 hm0
       generalize l.length = m at *
       generalize mkB s = S at *
       go_enter Tryz.func31, Tryz.ntmps31
       go_wp2
       go_ret
       exact ⟨rfl, HB.out⟩
   · have es0b : ((mkB s).toList == []) = false := by rw [beq_eq_false_iff_ne, toList_mkB]; exact hs0
     have es0c : ((mkB s).toList != []) = true := by simp only [bne, es0b, Bool.not_false]
     have hr := HR.out
     obtain rfl : R = 2 := by rw [hr]; simp [hn0, hs0]
     clear HR hr hn0 hs0
     generalize l.length = m at *
     generalize mkB s = S at *
     go_enter Tryz.func31, Tryz.ntmps31
     go_wp2
     go_ret
     exact ⟨rfl, HB.out⟩
 · have en0 : (n == 0) = false := by rw [beq_eq_false_iff_ne]; exact hn0
   have en0' : (n != 0) = true := by simp only [bne, en0, Bool.not_false]
   by_cases hn1 : n = 1
   · have en1 : (n == 1) = true := by rw [beq_iff_eq]; exact hn1
     by_cases hs0 : s = []
     · have es0 : (mkB s).toList = [] := by rw [toList_mkB]; exact hs0
       have es0b : ((mkB s).toList == []) = true := by rw [beq_iff_eq]; exact es0
       have es0c : ((mkB s).toList != []) = false := by simp only [bne, es0b, Bool.not_true]
       by_cases hm0 : l = []
       · have em0 : (l.length == 0) = true := by rw [hm0]; rfl
         have em0' : ((l.length : Int) == 0) = true := by rw [hm0]; rfl
         have hr := HR.out
         obtain rfl : R = 0 := by rw [hr]; simp [hn1, hs0, hm0]
         clear HR hr hn0 hn1 hs0 hm0
         generalize l.length = m at *
         generalize mkB s = S at *
         go_enter Tryz.func31, Tryz.ntmps31
         go_wp2
         go_ret
         exact ⟨rfl, HB.out⟩
       · have em0 : (l.length == 0) = false := by rw [beq_eq_false_iff_ne]; exact fun e => hm0 (List.eq_nil_of_length_eq_zero e)
         have em0' : ((l.length : Int) == 0) = false := by rw [beq_eq_false_iff_ne]; exact fun e => hm0 (List.eq_nil_of_length_eq_zero (by omega))
         have hr := HR.out
         obtain rfl : R = 2 := by rw [hr]; simp [hn1, hs0, hm0]
         clear HR hr hn0 hn1 hs0 hm0
         generalize l.length = m at *
         generalize mkB s = S at *
         go_enter Tryz.func31, Tryz.ntmps31
         go_wp2
         go_ret
         exact ⟨rfl, HB.out⟩
     · have es0b : ((mkB s).toList == []) = false := by rw [beq_eq_false_iff_ne, toList_mkB]; exact hs0
       have es0c : ((mkB s).toList != []) = true := by simp only [bne, es0b, Bool.not_false]
       have hr := HR.out
       obtain rfl : R = 2 := by rw [hr]; simp [hn1, hs0]
       clear HR hr hn0 hn1 hs0
       generalize l.length = m at *
       generalize mkB s = S at *
       go_enter Tryz.func31, Tryz.ntmps31
       go_wp2
       go_ret
       exact ⟨rfl, HB.out⟩
   · have en1 : (n == 1) = false := by rw [beq_eq_false_iff_ne]; exact hn1
     have hr := HR.out
     obtain rfl : R = 2 := by rw [hr]; simp [hn0, hn1]
     clear HR hr hn0 hn1
     generalize l.length = m at *
     generalize mkB s = S at *
     go_enter Tryz.func31, Tryz.ntmps31
     go_wp2
     go_ret
     exact ⟨rfl, HB.out⟩
theorem vown_k4 {n : Int} {s : List UInt8} {l : List PV} {a1 : Option Addr} {cap1 : Nat} {w : World} (_m1 : (l.length : Int) ≤ 9223372036854775807) :
   Calls Tryz.prog 31 #[.agg #[.int .i64 4, .int .i64 n, .string (mkB s), .slice a1 l.length cap1]] w fun e w' => e = .returned (.int .i64 (if n = 0 ∧ l = [] then 0 else 2)) ∧ Below w.heap.size w w' := by
 obtain ⟨R, hR⟩ : ∃ R, R = (if n = 0 ∧ l = [] then 0 else 2 : Int) := ⟨_, rfl⟩
 rw [← hR]
 have HR := Lib.hid hR
 have HB := Lib.hid (belowA w (.cells #[.int .i64 4, .int .i64 n, .string (mkB s), .slice a1 l.length cap1] 24))
 clear hR
 by_cases hn0 : n = 0
 · have en0 : (n == 0) = true := by rw [beq_iff_eq]; exact hn0
   have en0' : (n != 0) = false := by simp only [bne, en0, Bool.not_true]
   by_cases hm0 : l = []
   · have em0 : (l.length == 0) = true := by rw [hm0]; rfl
     have em0' : ((l.length : Int) == 0) = true := by rw [hm0]; rfl
     have hr := HR.out
     obtain rfl : R = 0 := by rw [hr]; simp [hn0, hm0]
     clear HR hr hn0 hm0
     generalize l.length = m at *
     generalize mkB s = S at *
     go_enter Tryz.func31, Tryz.ntmps31
     go_wp2
     go_ret
     exact ⟨rfl, HB.out⟩
   · have em0 : (l.length == 0) = false := by rw [beq_eq_false_iff_ne]; exact fun e => hm0 (List.eq_nil_of_length_eq_zero e)
     have em0' : ((l.length : Int) == 0) = false := by rw [beq_eq_false_iff_ne]; exact fun e => hm0 (List.eq_nil_of_length_eq_zero (by omega))
     have hr := HR.out
     obtain rfl : R = 2 := by rw [hr]; simp [hn0, hm0]
     clear HR hr hn0 hm0
     generalize l.length = m at *
     generalize mkB s = S at *
     go_enter Tryz.func31, Tryz.ntmps31
     go_wp2
     go_ret
     exact ⟨rfl, HB.out⟩
 · have en0 : (n == 0) = false := by rw [beq_eq_false_iff_ne]; exact hn0
   have en0' : (n != 0) = true := by simp only [bne, en0, Bool.not_false]
   have hr := HR.out
   obtain rfl : R = 2 := by rw [hr]; simp [hn0]
   clear HR hr hn0
   generalize l.length = m at *
   generalize mkB s = S at *
   go_enter Tryz.func31, Tryz.ntmps31
   go_wp2
   go_ret
   exact ⟨rfl, HB.out⟩
theorem vown_k6 {n : Int} {s : List UInt8} {l : List PV} {a1 : Option Addr} {cap1 : Nat} {w : World} (_m1 : (l.length : Int) ≤ 9223372036854775807) :
   Calls Tryz.prog 31 #[.agg #[.int .i64 6, .int .i64 n, .string (mkB s), .slice a1 l.length cap1]] w fun e w' => e = .returned (.int .i64 (if n = 0 ∧ s = [] then 0 else 2)) ∧ Below w.heap.size w w' := by
 obtain ⟨R, hR⟩ : ∃ R, R = (if n = 0 ∧ s = [] then 0 else 2 : Int) := ⟨_, rfl⟩
 rw [← hR]
 have HR := Lib.hid hR
 have HB := Lib.hid (belowA w (.cells #[.int .i64 6, .int .i64 n, .string (mkB s), .slice a1 l.length cap1] 24))
 clear hR
 by_cases hn0 : n = 0
 · have en0 : (n == 0) = true := by rw [beq_iff_eq]; exact hn0
   have en0' : (n != 0) = false := by simp only [bne, en0, Bool.not_true]
   by_cases hs0 : s = []
   · have es0 : (mkB s).toList = [] := by rw [toList_mkB]; exact hs0
     have es0b : ((mkB s).toList == []) = true := by rw [beq_iff_eq]; exact es0
     have es0c : ((mkB s).toList != []) = false := by simp only [bne, es0b, Bool.not_true]
     have hr := HR.out
     obtain rfl : R = 0 := by rw [hr]; simp [hn0, hs0]
     clear HR hr hn0 hs0
     generalize l.length = m at *
     generalize mkB s = S at *
     go_enter Tryz.func31, Tryz.ntmps31
     go_wp2
     go_ret
     exact ⟨rfl, HB.out⟩
   · have es0b : ((mkB s).toList == []) = false := by rw [beq_eq_false_iff_ne, toList_mkB]; exact hs0
     have es0c : ((mkB s).toList != []) = true := by simp only [bne, es0b, Bool.not_false]
     have hr := HR.out
     obtain rfl : R = 2 := by rw [hr]; simp [hn0, hs0]
     clear HR hr hn0 hs0
     generalize l.length = m at *
     generalize mkB s = S at *
     go_enter Tryz.func31, Tryz.ntmps31
     go_wp2
     go_ret
     exact ⟨rfl, HB.out⟩
 · have en0 : (n == 0) = false := by rw [beq_eq_false_iff_ne]; exact hn0
   have en0' : (n != 0) = true := by simp only [bne, en0, Bool.not_false]
   have hr := HR.out
   obtain rfl : R = 2 := by rw [hr]; simp [hn0]
   clear HR hr hn0
   generalize l.length = m at *
   generalize mkB s = S at *
   go_enter Tryz.func31, Tryz.ntmps31
   go_wp2
   go_ret
   exact ⟨rfl, HB.out⟩
theorem vown_k8 {n : Int} {s : List UInt8} {l : List PV} {a1 : Option Addr} {cap1 : Nat} {w : World} (_m1 : (l.length : Int) ≤ 9223372036854775807) :
   Calls Tryz.prog 31 #[.agg #[.int .i64 8, .int .i64 n, .string (mkB s), .slice a1 l.length cap1]] w fun e w' => e = .returned (.int .i64 (if 1 ≤ n ∧ n ≤ 4096 ∧ s = [] ∧ l = [] then 0 else 2)) ∧ Below w.heap.size w w' := by
 obtain ⟨R, hR⟩ : ∃ R, R = (if 1 ≤ n ∧ n ≤ 4096 ∧ s = [] ∧ l = [] then 0 else 2 : Int) := ⟨_, rfl⟩
 rw [← hR]
 have HR := Lib.hid hR
 have HB := Lib.hid (belowA w (.cells #[.int .i64 8, .int .i64 n, .string (mkB s), .slice a1 l.length cap1] 24))
 clear hR
 by_cases hg1 : 1 ≤ n
 · have eg1 : decide (1 ≤ n) = true := decide_eq_true hg1
   by_cases hle : n ≤ 4096
   · have ele : decide (n ≤ 4096) = true := decide_eq_true hle
     by_cases hs0 : s = []
     · have es0 : (mkB s).toList = [] := by rw [toList_mkB]; exact hs0
       have es0b : ((mkB s).toList == []) = true := by rw [beq_iff_eq]; exact es0
       have es0c : ((mkB s).toList != []) = false := by simp only [bne, es0b, Bool.not_true]
       by_cases hm0 : l = []
       · have em0 : (l.length == 0) = true := by rw [hm0]; rfl
         have em0' : ((l.length : Int) == 0) = true := by rw [hm0]; rfl
         have hr := HR.out
         obtain rfl : R = 0 := by rw [hr]; simp [hg1, hle, hs0, hm0]
         clear HR hr hg1 hle hs0 hm0
         generalize l.length = m at *
         generalize mkB s = S at *
         go_enter Tryz.func31, Tryz.ntmps31
         go_wp2
         go_ret
         exact ⟨rfl, HB.out⟩
       · have em0 : (l.length == 0) = false := by rw [beq_eq_false_iff_ne]; exact fun e => hm0 (List.eq_nil_of_length_eq_zero e)
         have em0' : ((l.length : Int) == 0) = false := by rw [beq_eq_false_iff_ne]; exact fun e => hm0 (List.eq_nil_of_length_eq_zero (by omega))
         have hr := HR.out
         obtain rfl : R = 2 := by rw [hr]; simp [hg1, hle, hs0, hm0]
         clear HR hr hg1 hle hs0 hm0
         generalize l.length = m at *
         generalize mkB s = S at *
         go_enter Tryz.func31, Tryz.ntmps31
         go_wp2
         go_ret
         exact ⟨rfl, HB.out⟩
     · have es0b : ((mkB s).toList == []) = false := by rw [beq_eq_false_iff_ne, toList_mkB]; exact hs0
       have es0c : ((mkB s).toList != []) = true := by simp only [bne, es0b, Bool.not_false]
       have hr := HR.out
       obtain rfl : R = 2 := by rw [hr]; simp [hg1, hle, hs0]
       clear HR hr hg1 hle hs0
       generalize l.length = m at *
       generalize mkB s = S at *
       go_enter Tryz.func31, Tryz.ntmps31
       go_wp2
       go_ret
       exact ⟨rfl, HB.out⟩
   · have ele : decide (n ≤ 4096) = false := decide_eq_false hle
     have hr := HR.out
     obtain rfl : R = 2 := by rw [hr]; simp [hg1, hle]
     clear HR hr hg1 hle
     generalize l.length = m at *
     generalize mkB s = S at *
     go_enter Tryz.func31, Tryz.ntmps31
     go_wp2
     go_ret
     exact ⟨rfl, HB.out⟩
 · have eg1 : decide (1 ≤ n) = false := decide_eq_false hg1
   have hr := HR.out
   obtain rfl : R = 2 := by rw [hr]; simp [hg1]
   clear HR hr hg1
   generalize l.length = m at *
   generalize mkB s = S at *
   go_enter Tryz.func31, Tryz.ntmps31
   go_wp2
   go_ret
   exact ⟨rfl, HB.out⟩
theorem vown_k2 {n : Int} {s : List UInt8} {l : List PV} {a1 : Option Addr} {cap1 : Nat} {w : World} (_m1 : (l.length : Int) ≤ 9223372036854775807) :
   Calls Tryz.prog 31 #[.agg #[.int .i64 2, .int .i64 n, .string (mkB s), .slice a1 l.length cap1]] w fun e w' => e = .returned (.int .i64 (checkV 2 n (bareV (mkB s) l.length))) ∧ Below w.heap.size w w' := by
 obtain ⟨R, hR⟩ : ∃ R, R = (checkV 2 n (bareV (mkB s) l.length) : Int) := ⟨_, rfl⟩
 rw [← hR]
 have HR := Lib.hid hR
 have HB := Lib.hid (belowA w (.cells #[.int .i64 2, .int .i64 n, .string (mkB s), .slice a1 l.length cap1] 24))
 clear hR
 have HP := Lib.hid (fun W => check_any 2 n (mkB s) a1 l.length cap1 W _m1)
 rw [← HR.out] at HP
 clear HR
 generalize l.length = m at *
 generalize mkB s = S at *
 go_enter Tryz.func31, Tryz.ntmps31
 go_wp2_with (go_at_call 58; refine (HP.out _).mono ?_; rintro e w1 ⟨rfl, hb1⟩)
 go_ret
 exact ⟨rfl, HB.out.trans (hb1.mono HB.out.size)⟩
theorem vown_k3 {n : Int} {s : List UInt8} {l : List PV} {a1 : Option Addr} {cap1 : Nat} {w : World} (_m1 : (l.length : Int) ≤ 9223372036854775807) :
   Calls Tryz.prog 31 #[.agg #[.int .i64 3, .int .i64 n, .string (mkB s), .slice a1 l.length cap1]] w fun e w' => e = .returned (.int .i64 (checkV 3 n (bareV (mkB s) l.length))) ∧ Below w.heap.size w w' := by
 obtain ⟨R, hR⟩ : ∃ R, R = (checkV 3 n (bareV (mkB s) l.length) : Int) := ⟨_, rfl⟩
 rw [← hR]
 have HR := Lib.hid hR
 have HB := Lib.hid (belowA w (.cells #[.int .i64 3, .int .i64 n, .string (mkB s), .slice a1 l.length cap1] 24))
 clear hR
 have HP := Lib.hid (fun W => check_any 3 n (mkB s) a1 l.length cap1 W _m1)
 rw [← HR.out] at HP
 clear HR
 generalize l.length = m at *
 generalize mkB s = S at *
 go_enter Tryz.func31, Tryz.ntmps31
 go_wp2_with (go_at_call 58; refine (HP.out _).mono ?_; rintro e w1 ⟨rfl, hb1⟩)
 go_ret
 exact ⟨rfl, HB.out.trans (hb1.mono HB.out.size)⟩
theorem vown_k5 {n : Int} {s : List UInt8} {l : List PV} {a1 : Option Addr} {cap1 : Nat} {w : World} (_m1 : (l.length : Int) ≤ 9223372036854775807) :
   Calls Tryz.prog 31 #[.agg #[.int .i64 5, .int .i64 n, .string (mkB s), .slice a1 l.length cap1]] w fun e w' => e = .returned (.int .i64 (if 127 < s.length ∨ (0 : UInt8) ∈ s then 17 else if n = 0 ∧ l = [] then 0 else 2)) ∧ Below w.heap.size w w' := by
 obtain ⟨R, hR⟩ : ∃ R, R = (if 127 < s.length ∨ (0 : UInt8) ∈ s then 17 else if n = 0 ∧ l = [] then 0 else 2 : Int) := ⟨_, rfl⟩
 rw [← hR]
 have HR := Lib.hid hR
 have HB := Lib.hid (belowA w (.cells #[.int .i64 5, .int .i64 n, .string (mkB s), .slice a1 l.length cap1] 24))
 clear hR
 have hsz : (mkB s).size = s.length := mkB_size s
 have HI := Lib.hid (fun W => sidx2_any (mkB s) 0 W)
 rw [show bl (mkB s) = s from rfl, show (0 : Int).toNat.toUInt8 = 0 from rfl] at HI
 have him := idx_memS s 0
 generalize Lib.indexByte s 0 = ix at *
 by_cases h127 : 127 < s.length
 · have hd1 : decide (127 < (mkB s).size) = true := decide_eq_true (by omega)
   have hd2 : decide ((127 : Int) < ((mkB s).size : Int)) = true := decide_eq_true (by omega)
   obtain rfl : R = 17 := by rw [HR.out, if_pos (.inl h127)]
   clear HR HI him h127 hsz
   generalize mkB s = S at *
   generalize l.length = m at *
   go_enter Tryz.func31, Tryz.ntmps31
   go_wp2
   go_ret
   exact ⟨rfl, HB.out⟩
 have hd1 : decide (127 < (mkB s).size) = false := decide_eq_false (by omega)
 have hd2 : decide ((127 : Int) < ((mkB s).size : Int)) = false := decide_eq_false (by omega)
 by_cases hz : (0 : UInt8) ∈ s
 · rw [decide_eq_true hz] at him
   obtain rfl : R = 17 := by rw [HR.out, if_pos (.inr hz)]
   clear HR h127 hsz hz
   generalize mkB s = S at *
   generalize l.length = m at *
   go_enter Tryz.func31, Tryz.ntmps31
   go_wp2_with (go_at_call 56; refine (HI.out _).mono ?_; rintro e w1 ⟨rfl, rfl⟩)
   go_ret
   exact ⟨rfl, HB.out⟩
 rw [decide_eq_false hz] at him
 have hr := HR.out
 rw [if_neg (by rintro (h | h); exact h127 h; exact hz h)] at hr
 clear HR h127 hz hsz
 have HR := Lib.hid hr
 clear hr
 by_cases hn0 : n = 0
 · have en0 : (n == 0) = true := by rw [beq_iff_eq]; exact hn0
   have en0' : (n != 0) = false := by simp only [bne, en0, Bool.not_true]
   by_cases hm0 : l = []
   · have em0 : (l.length == 0) = true := by rw [hm0]; rfl
     have em0' : ((l.length : Int) == 0) = true := by rw [hm0]; rfl
     have hr := HR.out
     obtain rfl : R = 0 := by rw [hr]; simp [hn0, hm0]
     clear HR hr hn0 hm0
     generalize l.length = m at *
     generalize mkB s = S at *
     go_enter Tryz.func31, Tryz.ntmps31
     go_wp2_with (go_at_call 56; refine (HI.out _).mono ?_; rintro e w1 ⟨rfl, rfl⟩)
     go_ret
     exact ⟨rfl, HB.out⟩
   · have em0 : (l.length == 0) = false := by rw [beq_eq_false_iff_ne]; exact fun e => hm0 (List.eq_nil_of_length_eq_zero e)
     have em0' : ((l.length : Int) == 0) = false := by rw [beq_eq_false_iff_ne]; exact fun e => hm0 (List.eq_nil_of_length_eq_zero (by omega))
     have hr := HR.out
     obtain rfl : R = 2 := by rw [hr]; simp [hn0, hm0]
     clear HR hr hn0 hm0
     generalize l.length = m at *
     generalize mkB s = S at *
     go_enter Tryz.func31, Tryz.ntmps31
     go_wp2_with (go_at_call 56; refine (HI.out _).mono ?_; rintro e w1 ⟨rfl, rfl⟩)
     go_ret
     exact ⟨rfl, HB.out⟩
 · have en0 : (n == 0) = false := by rw [beq_eq_false_iff_ne]; exact hn0
   have en0' : (n != 0) = true := by simp only [bne, en0, Bool.not_false]
   have hr := HR.out
   obtain rfl : R = 2 := by rw [hr]; simp [hn0]
   clear HR hr hn0
   generalize l.length = m at *
   generalize mkB s = S at *
   go_enter Tryz.func31, Tryz.ntmps31
   go_wp2_with (go_at_call 56; refine (HI.out _).mono ?_; rintro e w1 ⟨rfl, rfl⟩)
   go_ret
   exact ⟨rfl, HB.out⟩
theorem vown_k7 {n : Int} {s : List UInt8} {l : List PV} {a1 : Option Addr} {cap1 : Nat} {w : World} (hv : IsV w anyF (.mk 7 n s l) (.slice a1 l.length cap1)) :
   Calls Tryz.prog 31 #[.agg #[.int .i64 7, .int .i64 n, .string (mkB s), .slice a1 l.length cap1]] w fun e w' => e = .returned (.int .i64 (if n = 0 ∧ s = [] then dictC l else 2)) ∧ Below w.heap.size w w' := by
 obtain ⟨R, hR⟩ : ∃ R, R = (if n = 0 ∧ s = [] then dictC l else 2 : Int) := ⟨_, rfl⟩
 rw [← hR]
 have HR := Lib.hid hR
 have HB := Lib.hid (belowA w (.cells #[.int .i64 7, .int .i64 n, .string (mkB s), .slice a1 l.length cap1] 24))
 have HD := Lib.hid (fun (W : World) (h : Below w.heap.size w W) => vdict_any (hv.below h))
 clear hR hv
 simp only [pvA, PV.kind, PV.n, PV.s, PV.l] at HD
 generalize hdc : dictC l = dc at *
 clear hdc
 by_cases hn0 : n = 0
 · have en0 : (n == 0) = true := by rw [beq_iff_eq]; exact hn0
   have en0' : (n != 0) = false := by simp only [bne, en0, Bool.not_true]
   by_cases hs0 : s = []
   · have es0 : (mkB s).toList = [] := by rw [toList_mkB]; exact hs0
     have es0b : ((mkB s).toList == []) = true := by rw [beq_iff_eq]; exact es0
     have es0c : ((mkB s).toList != []) = false := by simp only [bne, es0b, Bool.not_true]
     have hr := HR.out
     obtain rfl : R = dc := by rw [hr]; simp [hn0, hs0]
     clear HR hr hn0 hs0
     generalize l.length = m at *
     generalize mkB s = S at *
     go_enter Tryz.func31, Tryz.ntmps31
     go_wp2_with (go_at_call 59; refine (HD.out _ HB.out).mono ?_; rintro e w1 ⟨rfl, hb1⟩)
     go_ret
     first | exact ⟨rfl, HB.out⟩ | exact ⟨rfl, HB.out.trans (hb1.mono HB.out.size)⟩
   · have es0b : ((mkB s).toList == []) = false := by rw [beq_eq_false_iff_ne, toList_mkB]; exact hs0
     have es0c : ((mkB s).toList != []) = true := by simp only [bne, es0b, Bool.not_false]
     have hr := HR.out
     obtain rfl : R = 2 := by rw [hr]; simp [hn0, hs0]
     clear HR hr hn0 hs0
     generalize l.length = m at *
     generalize mkB s = S at *
     go_enter Tryz.func31, Tryz.ntmps31
     go_wp2_with (go_at_call 59; refine (HD.out _ HB.out).mono ?_; rintro e w1 ⟨rfl, hb1⟩)
     go_ret
     first | exact ⟨rfl, HB.out⟩ | exact ⟨rfl, HB.out.trans (hb1.mono HB.out.size)⟩
 · have en0 : (n == 0) = false := by rw [beq_eq_false_iff_ne]; exact hn0
   have en0' : (n != 0) = true := by simp only [bne, en0, Bool.not_false]
   have hr := HR.out
   obtain rfl : R = 2 := by rw [hr]; simp [hn0]
   clear HR hr hn0
   generalize l.length = m at *
   generalize mkB s = S at *
   go_enter Tryz.func31, Tryz.ntmps31
   go_wp2_with (go_at_call 59; refine (HD.out _ HB.out).mono ?_; rintro e w1 ⟨rfl, hb1⟩)
   go_ret
   first | exact ⟨rfl, HB.out⟩ | exact ⟨rfl, HB.out.trans (hb1.mono HB.out.size)⟩
theorem vown_kx {k n : Int} {S : ByteArray} {m : Nat} {a1 : Option Addr} {cap1 : Nat} {w : World} (hk : k ≠ 0 ∧ k ≠ 1 ∧ k ≠ 2 ∧ k ≠ 3 ∧ k ≠ 4 ∧ k ≠ 5 ∧ k ≠ 6 ∧ k ≠ 7 ∧ k ≠ 8) :
   Calls Tryz.prog 31 #[.agg #[.int .i64 k, .int .i64 n, .string S, .slice a1 m cap1]] w fun e w' => e = .returned (.int .i64 2) ∧ Below w.heap.size w w' := by
 obtain ⟨h0, h1, h2, h3, h4, h5, h6, h7, h8⟩ := hk
 have e0 : (k == 0) = false := by rw [beq_eq_false_iff_ne]; exact h0
 have e1 : (k == 1) = false := by rw [beq_eq_false_iff_ne]; exact h1
 have e2 : (k == 2) = false := by rw [beq_eq_false_iff_ne]; exact h2
 have e3 : (k == 3) = false := by rw [beq_eq_false_iff_ne]; exact h3
 have e4 : (k == 4) = false := by rw [beq_eq_false_iff_ne]; exact h4
 have e5 : (k == 5) = false := by rw [beq_eq_false_iff_ne]; exact h5
 have e6 : (k == 6) = false := by rw [beq_eq_false_iff_ne]; exact h6
 have e7 : (k == 7) = false := by rw [beq_eq_false_iff_ne]; exact h7
 have e8 : (k == 8) = false := by rw [beq_eq_false_iff_ne]; exact h8
 have HB := Lib.hid (belowA w (.cells #[.int .i64 k, .int .i64 n, .string S, .slice a1 m cap1] 24))
 clear h0 h1 h2 h3 h4 h5 h6 h7 h8
 go_enter Tryz.func31, Tryz.ntmps31
 go_wp2
 go_ret
 exact ⟨rfl, HB.out⟩
theorem bare_mkB (s : List UInt8) (l : List PV) : bareV (mkB s) l.length = decide (s = [] ∧ l = []) := by
 show (decide (s = []) && decide (l.length = 0)) = _
 cases s <;> cases l <;> simp
theorem own_numS {k n : Int} {s : List UInt8} {l : List PV} : checkV k n (bareV (mkB s) l.length) = if s = [] ∧ l = [] then checkV k n true else 2 := by
 rw [bare_mkB]
 by_cases h : s = [] ∧ l = []
 · rw [if_pos h, decide_eq_true h]
 · rw [if_neg h, decide_eq_false h]; unfold checkV; rw [if_neg (by simp)]
theorem vown_any {v : PV} {sl : Value} {w : World} (hv : IsV w anyF v sl) :
   Calls Tryz.prog 31 #[pvA v sl] w fun e w' => e = .returned (.int .i64 (ownC v)) ∧ Below w.heap.size w w' := by
 obtain ⟨a1, cap1, e1, g1, g2, -⟩ := hv.len
 subst e1
 have m1 : (v.l.length : Int) ≤ 9223372036854775807 := by unfold maxLen at g2; omega
 obtain ⟨k, n, s, l⟩ := v
 simp only [pvA, PV.kind, PV.n, PV.s, PV.l] at m1 g1 hv ⊢
 simp only [ownC]
 by_cases h0 : k = 0
 · subst h0; rw [if_pos rfl]; exact vown_k0 m1
 rw [if_neg h0]
 by_cases h1 : k = 1
 · subst h1; rw [if_pos rfl]; exact vown_k1 m1
 rw [if_neg h1]
 by_cases h2 : k = 2
 · subst h2; rw [if_pos (.inl rfl), ← own_numS]; exact vown_k2 m1
 by_cases h3 : k = 3
 · subst h3; rw [if_pos (.inr rfl), ← own_numS]; exact vown_k3 m1
 rw [if_neg (by omega)]
 by_cases h4 : k = 4
 · subst h4; rw [if_pos rfl]; exact vown_k4 m1
 rw [if_neg h4]
 by_cases h5 : k = 5
 · subst h5; rw [if_pos rfl]; exact vown_k5 m1
 rw [if_neg h5]
 by_cases h6 : k = 6
 · subst h6; rw [if_pos rfl]; exact vown_k6 m1
 rw [if_neg h6]
 by_cases h7 : k = 7
 · subst h7
   rw [if_pos rfl]
   have e : (if n ≠ 0 ∨ s ≠ [] ∨ l.length % 2 ≠ 0 then 2 else if evenN l = false then 2 else if ascV (twoV l) = true then 0 else 16 : Int) = if n = 0 ∧ s = [] then dictC l else 2 := by
     unfold dictC
     by_cases hn : n = 0
     · by_cases hs : s = []
       · by_cases hl : l.length % 2 = 0
         · rw [if_neg (show ¬ (n ≠ 0 ∨ s ≠ [] ∨ l.length % 2 ≠ 0) from by simp [hn, hs, hl]), if_pos (show n = 0 ∧ s = [] from ⟨hn, hs⟩), if_neg (show ¬ l.length % 2 ≠ 0 from by simp [hl])]
         · rw [if_pos (.inr (.inr hl)), if_pos (show n = 0 ∧ s = [] from ⟨hn, hs⟩), if_pos hl]
       · rw [if_pos (.inr (.inl hs)), if_neg (fun h => hs h.2)]
     · rw [if_pos (.inl hn), if_neg (fun h => hn h.1)]
   rw [e]
   exact vown_k7 hv
 rw [if_neg h7]
 by_cases h8 : k = 8
 · subst h8; rw [if_pos rfl]; exact vown_k8 m1
 rw [if_neg h8]
 exact vown_kx ⟨h0, h1, by omega, by omega, h4, h5, h6, h7, h8⟩
end Go.Proofs.YtnkodejgiabamaaGreatDoor
