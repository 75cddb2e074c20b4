/-
  Our texts Sw5 to Sy1, in one.
-/
import Derived.Test.YtnkodejgiabamaaGreatDoorPkB16
import Derived.Shelf.Abstract
import Derived.Deep.RegionHeld3
set_option maxRecDepth 8000
set_option maxHeartbeats 8000000
namespace Go.Proofs.YtnkodejgiabamaaGreatDoor
open Go.RowKit
theorem readF_take {l : List UInt8} {k : Nat} {c : UInt8} (h : l[k]? = some c) : readF (l.take (k + 1)) = (readF (l.take k) && (decide (32 ≤ c.toNat) && decide (c.toNat ≤ 126))) := by
 unfold readF
 rw [List.take_add_one, h, List.all_append]
 simp
theorem readF_bad {l : List UInt8} {k : Nat} {c : UInt8} (h : l[k]? = some c) (hb : (decide (32 ≤ c.toNat) && decide (c.toNat ≤ 126)) = false) : readF l = false := by
 unfold readF
 rw [Bool.eq_false_iff]
 intro ha
 rw [List.all_eq_true] at ha
 have := ha c (List.mem_of_getElem? h)
 rw [hb] at this
 cases this
theorem readableW (s : List UInt8) (w : World) (hl : s.length ≤ 10000000) :
   Calls Tryz.prog 54 #[.string (mkB s)] w fun e w' => e = .returned (.bool (readF s)) ∧ w = w' := by
 have hsz : (mkB s).size = s.length := mkB_size s
 have hszi : ((mkB s).size : Int) = s.length := by rw [hsz]
 have HSZ := Lib.hid hsz
 obtain ⟨R, hR⟩ : ∃ R, R = readF s := ⟨_, rfl⟩
 rw [← hR]
 have HR := Lib.hid hR
 clear hR
 go_enter Tryz.func54, Tryz.ntmps54
 go_wp2
 go_loopw [6] (fun vk wr => ∃ k : Nat, vk = .int .i64 k ∧ k ≤ s.length ∧ wr = w ∧ Hid (readF (s.take k) = true)) (fun vk _ => s.length - (intOf vk).toNat)
 case atStart => exact ⟨0, rfl, Nat.zero_le _, rfl, Lib.hid rfl⟩
 case round =>
   obtain ⟨k, rfl, hk, hwr, HG⟩ := hrel
   rw [hwr]
   clear hwr
   by_cases q1 : k < s.length
   case neg =>
     have hd1 : decide (k < s.length) = false := decide_eq_false q1
     have hd2 : decide ((k : Int) < (s.length : Int)) = false := decide_eq_false (by omega)
     have hq2 : ¬ (k : Int) < (s.length : Int) := by omega
     have hg := HG.out
     rw [List.take_of_length_le (by omega)] at hg
     have hr := HR.out
     rw [hg] at hr
     subst hr
     clear hg HG HR
     go_wp2
     go_ret
     exact ⟨rfl, rfl⟩
   have hd1 : decide (k < s.length) = true := decide_eq_true q1
   have hd2 : decide ((k : Int) < (s.length : Int)) = true := decide_eq_true (by omega)
   have hk0 : (0 : Int) ≤ (k : Int) := by omega
   have hk1 : (k : Int) < (s.length : Int) := by omega
   have hk2 : k < (mkB s).size := by omega
   obtain ⟨c, hc⟩ : ∃ c, c = s[k]'q1 := ⟨_, rfl⟩
   have hcs : s[k]? = some c := by rw [hc]; exact List.getElem?_eq_getElem q1
   obtain ⟨n, hn⟩ : ∃ n, n = c.toNat := ⟨_, rfl⟩
   have hat : ((mkB s)[k]'hk2).toNat = n := by rw [hn, hc]; exact at_mkB q1 hk2
   by_cases h1 : n < 32
   · have b1 : decide (n < 32) = true := decide_eq_true h1
     have b1' : decide ((n : Int) < 32) = true := decide_eq_true (by omega)
     have hb : readF s = false := readF_bad hcs (by rw [← hn, decide_eq_false (by omega), Bool.false_and])
     have hr := HR.out
     rw [hb] at hr
     subst hr
     clear HG HR hb hcs hc hn h1
     go_wp2
     go_ret
     exact ⟨rfl, rfl⟩
   have b1 : decide (n < 32) = false := decide_eq_false h1
   have b1' : decide ((n : Int) < 32) = false := decide_eq_false (by omega)
   by_cases h2 : 126 < n
   · have b2 : decide (126 < n) = true := decide_eq_true h2
     have b2' : decide ((126 : Int) < (n : Int)) = true := decide_eq_true (by omega)
     have hb : readF s = false := readF_bad hcs (by rw [← hn, decide_eq_false (show ¬ n ≤ 126 by omega), Bool.and_false])
     have hr := HR.out
     rw [hb] at hr
     subst hr
     clear HG HR hb hcs hc hn h1 h2
     go_wp2
     go_ret
     exact ⟨rfl, rfl⟩
   have b2 : decide (126 < n) = false := decide_eq_false h2
   have b2' : decide ((126 : Int) < (n : Int)) = false := decide_eq_false (by omega)
   have HG2 := Lib.hid (show readF (s.take (k + 1)) = true by rw [readF_take hcs, HG.out, ← hn, decide_eq_true (by omega), decide_eq_true (by omega)]; rfl)
   clear HG hcs hc hn h1 h2
   go_wp2
   go_roundw
   case rel => exact ⟨k + 1, by go_num, by omega, trivial, HG2⟩
   case measure => simp [intOf]; omega
theorem hexsW {w : World} {S : Nat → Prop} {p : Nat} {out : List UInt8} (h : WrQ w S p out) (s : List UInt8) (hl : out.length + 2 * s.length + 4 ≤ 10000000) (hrd : readF s = false) :
   Calls Tryz.prog 27 #[.pointer (some ⟨p, 0, none⟩), .string (mkB s)] w fun e w' => e = .returned (.tuple #[]) ∧ WrNext w S p (out ++ textF s) w' := by
 have HTX := Lib.hid (show textF s = 60 :: (hexF s ++ [62]) by unfold textF; rw [if_neg (by rw [hrd]; decide)])
 have HRD := Lib.hid (fun W => readableW s W (by omega))
 rw [hrd] at HRD
 have HA := Lib.hid (writeByteW h 60 60 rfl (by omega))
 have hsz : (mkB s).size = s.length := mkB_size s
 have hszi : ((mkB s).size : Int) = s.length := by rw [hsz]
 have HSZ := Lib.hid hsz
 have hm : (s.length : Int) ≤ 10000000 := by omega
 clear hrd
 go_enter Tryz.func27, Tryz.ntmps27
 go_wp2_with (go_at_call 54; refine (HRD.out _).mono ?_; rintro e w' ⟨rfl, rfl⟩)
 refine HA.out.mono ?_
 rintro e w1 ⟨rfl, hN1⟩
 have HN1 := Lib.hid hN1
 clear hN1 HA HRD
 go_wp2
 go_loopw [15] (fun vk wr => ∃ k : Nat, vk = .int .i64 k ∧ k ≤ s.length ∧ Hid (WrNext w S p ((out ++ [60]) ++ hexF (s.take k)) wr)) (fun vk _ => s.length - (intOf vk).toNat)
 case atStart => exact ⟨0, rfl, Nat.zero_le _, Lib.hid (by rw [List.take_zero]; simpa [hexF] using HN1.out)⟩
 case round =>
   obtain ⟨k, rfl, hk, HN⟩ := hrel
   obtain ⟨S1, hq1, hk1', hs1⟩ := HN.out
   have HQ1 := Lib.hid hq1
   have HK1 := Lib.hid hk1'
   have HS1 := Lib.hid hs1
   have hlen : ((out ++ [60]) ++ hexF (s.take k)).length + 2 ≤ 10000000 := by
     have h1 := hexF_len (s.take k)
     rw [List.length_take] at h1
     simp
     omega
   have HOL := Lib.hid hlen
   clear hq1 hk1' hs1 HN HN1 hlen
   by_cases q1 : k < s.length
   case neg =>
     have hd1 : decide (k < s.length) = false := decide_eq_false q1
     have hd2 : decide ((k : Int) < (s.length : Int)) = false := decide_eq_false (by omega)
     have hq2 : ¬ (k : Int) < (s.length : Int) := by omega
     have HWB := Lib.hid (writeByteW HQ1.out 62 62 rfl (by have := HOL.out; omega))
     have HTK := Lib.hid (show s.take k = s from List.take_of_length_le (by omega))
     go_wp2_with fail
     refine HWB.out.mono ?_
     rintro e w2 ⟨rfl, hN2⟩
     have HE := Lib.hid (show WrNext w S p (out ++ textF s) w2 by
       have h3 := WrNext.trans HK1.out HS1.out hN2
       rw [HTK.out] at h3
       rw [HTX.out]
       simpa using h3)
     clear hN2
     go_wp2
     first
       | go_end0
       | refine bodyPost_ret (results_none rfl _ _ _) rfl ?_
     exact ⟨rfl, HE.out⟩
   have hd1 : decide (k < s.length) = true := decide_eq_true q1
   have hd2 : decide ((k : Int) < (s.length : Int)) = true := decide_eq_true (by omega)
   have hk0 : (0 : Int) ≤ (k : Int) := by omega
   have hk1 : (k : Int) < (s.length : Int) := by omega
   have hk2 : k < (mkB s).size := by omega
   obtain ⟨c, hc⟩ : ∃ c, c = s[k]'q1 := ⟨_, rfl⟩
   have hcs : s[k]? = some c := by rw [hc]; exact List.getElem?_eq_getElem q1
   have hT := hexF_take hcs
   obtain ⟨n, hn⟩ : ∃ n, n = c.toNat := ⟨_, rfl⟩
   have hat : ((mkB s)[k]'hk2).toNat = n := by rw [hn, hc]; exact at_mkB q1 hk2
   have HH := Lib.hid (hexW HQ1.out c HOL.out)
   rw [← hn] at HH
   have HT := Lib.hid hT
   clear hT hn hc hcs
   go_wp2_with fail
   refine HH.out.mono ?_
   rintro e w2 ⟨rfl, hN2⟩
   have HN2 := Lib.hid (show WrNext w S p ((out ++ [60]) ++ hexF (s.take (k + 1))) w2 by
     rw [HT.out, ← List.append_assoc (out ++ [60])]
     exact WrNext.trans HK1.out HS1.out hN2)
   clear hN2 HH
   go_wp2
   go_roundw
   case rel => exact ⟨k + 1, by go_num, by omega, HN2⟩
   case measure => simp [intOf]; omega
theorem baresW {w : World} {S : Nat → Prop} {p : Nat} {out : List UInt8} (h : WrQ w S p out) (s : List UInt8) (hl : out.length + 2 * s.length + 4 ≤ 10000000) (hrd : readF s = true) :
   Calls Tryz.prog 27 #[.pointer (some ⟨p, 0, none⟩), .string (mkB s)] w fun e w' => e = .returned (.tuple #[]) ∧ WrNext w S p (out ++ textF s) w' := by
 have HTX := Lib.hid (show textF s = 40 :: (bareF s ++ [41]) by unfold textF; rw [if_pos hrd])
 have HRD := Lib.hid (fun W => readableW s W (by omega))
 rw [hrd] at HRD
 have HA := Lib.hid (writeByteW h 40 40 rfl (by omega))
 have hsz : (mkB s).size = s.length := mkB_size s
 have hszi : ((mkB s).size : Int) = s.length := by rw [hsz]
 have HSZ := Lib.hid hsz
 have hm : (s.length : Int) ≤ 10000000 := by omega
 clear hrd
 go_enter Tryz.func27, Tryz.ntmps27
 go_wp2_with (go_at_call 54; refine (HRD.out _).mono ?_; rintro e w' ⟨rfl, rfl⟩)
 refine HA.out.mono ?_
 rintro e w1 ⟨rfl, hN1⟩
 have HN1 := Lib.hid hN1
 clear hN1 HA HRD
 go_wp2
 go_loopw [34] (fun vk wr => ∃ k : Nat, vk = .int .i64 k ∧ k ≤ s.length ∧ Hid (WrNext w S p ((out ++ [40]) ++ bareF (s.take k)) wr)) (fun vk _ => s.length - (intOf vk).toNat)
 case atStart => exact ⟨0, rfl, Nat.zero_le _, Lib.hid (by rw [List.take_zero]; simpa [bareF] using HN1.out)⟩
 case round =>
   obtain ⟨k, rfl, hk, HN⟩ := hrel
   obtain ⟨S1, hq1, hk1', hs1⟩ := HN.out
   have HQ1 := Lib.hid hq1
   have HK1 := Lib.hid hk1'
   have HS1 := Lib.hid hs1
   have hlen : ((out ++ [40]) ++ bareF (s.take k)).length + 2 ≤ 10000000 ∨ k = s.length := by
     have h1 := bareF_len (s.take k)
     rw [List.length_take] at h1
     simp
     omega
   have hlen1 : ((out ++ [40]) ++ bareF (s.take k)).length ≤ 10000000 := by
     have h1 := bareF_len (s.take k)
     rw [List.length_take] at h1
     simp
     omega
   have HOL := Lib.hid hlen
   have HOL1 := Lib.hid hlen1
   clear hq1 hk1' hs1 HN HN1 hlen hlen1
   by_cases q1 : k < s.length
   case neg =>
     have hd1 : decide (k < s.length) = false := decide_eq_false q1
     have hd2 : decide ((k : Int) < (s.length : Int)) = false := decide_eq_false (by omega)
     have hq2 : ¬ (k : Int) < (s.length : Int) := by omega
     have HWB := Lib.hid (writeByteW HQ1.out 41 41 rfl HOL1.out)
     have HTK := Lib.hid (show s.take k = s from List.take_of_length_le (by omega))
     go_wp2_with fail
     refine HWB.out.mono ?_
     rintro e w2 ⟨rfl, hN2⟩
     have HE := Lib.hid (show WrNext w S p (out ++ textF s) w2 by
       have h3 := WrNext.trans HK1.out HS1.out hN2
       rw [HTK.out] at h3
       rw [HTX.out]
       simpa using h3)
     clear hN2
     go_wp2
     first
       | go_end0
       | refine bodyPost_ret (results_none rfl _ _ _) rfl ?_
     exact ⟨rfl, HE.out⟩
   have hd1 : decide (k < s.length) = true := decide_eq_true q1
   have hd2 : decide ((k : Int) < (s.length : Int)) = true := decide_eq_true (by omega)
   have hk0 : (0 : Int) ≤ (k : Int) := by omega
   have hk1 : (k : Int) < (s.length : Int) := by omega
   have hk2 : k < (mkB s).size := by omega
   obtain ⟨c, hc⟩ : ∃ c, c = s[k]'q1 := ⟨_, rfl⟩
   have hcs : s[k]? = some c := by rw [hc]; exact List.getElem?_eq_getElem q1
   have hT := bareF_take hcs
   obtain ⟨n, hn⟩ : ∃ n, n = c.toNat := ⟨_, rfl⟩
   have hat : ((mkB s)[k]'hk2).toNat = n := by rw [hn, hc]; exact at_mkB q1 hk2
   have hI := fun W => sidx2_any ⟨#[40, 41, 92]⟩ (c.toNat : Int) W
   rw [u8_back] at hI
   have hix : decide (0 ≤ Lib.indexByte [40, 41, 92] c) = decide (c ∈ [(40 : UInt8), 41, 92]) := idx_memS _ _
   have hbr : brF c = if c ∈ [(40 : UInt8), 41, 92] then [92, c] else [c] := by unfold brF; simp
   have hl2 : ((out ++ [40]) ++ bareF (s.take k)).length + 2 ≤ 10000000 := by rcases HOL.out with h | h; exact h; omega
   have HWB := Lib.hid (fun (S1 : Nat → Prop) (W : World) (o : List UInt8) (hq : WrQ W S1 p o) (ho : o.length ≤ 10000000) => writeByteW hq c n (by rw [hn]) ho)
   have HW92 := Lib.hid (writeByteW HQ1.out 92 92 rfl HOL1.out)
   rw [← hn] at hI
   have HI := Lib.hid (show ∀ W, Calls Tryz.prog 56 #[.string ⟨#[40, 41, 92]⟩, .int .u8 (n : Int)] W fun e w' => e = .returned (.int .i64 (Lib.indexByte [40, 41, 92] c)) ∧ W = w' from hI)
   have HT := Lib.hid hT
   have HBR := Lib.hid hbr
   have HL2 := Lib.hid hl2
   clear hT hn hc hcs hI hbr hl2
   generalize Lib.indexByte [40, 41, 92] c = ix at *
   by_cases hm92 : c ∈ [(40 : UInt8), 41, 92]
   · rw [decide_eq_true hm92] at hix
     have HCB := Lib.hid (show brF c = [92, c] by rw [HBR.out, if_pos hm92])
     clear HBR hm92
     go_wp2_with (go_at_call 56; refine (HI.out _).mono ?_; rintro e w' ⟨rfl, rfl⟩)
     refine HW92.out.mono ?_
     rintro e w2 ⟨rfl, hN2⟩
     obtain ⟨S2, hq2, hk2', hs2⟩ := hN2
     have HW2 := Lib.hid (HWB.out S2 w2.drew _ (hq2.keep (Below.refl _ _).drew) (by have := HL2.out; simp at this ⊢; omega))
     have HFIN := Lib.hid (fun (w3 : World) (hN3 : WrNext w2.drew S2 p ((((out ++ [40]) ++ bareF (s.take k)) ++ [92]) ++ [c]) w3) => show WrNext w S p ((out ++ [40]) ++ bareF (s.take (k + 1))) w3 by
       rw [HT.out, HCB.out]
       have h3 := WrNext.trans HK1.out HS1.out (WrNext.trans hk2' hs2 (WrNext.above (Below.refl _ _).drew hN3))
       rw [List.append_assoc _ [92]] at h3
       rw [← List.append_assoc (out ++ [40])]
       exact h3)
     clear hq2 hk2' hs2 HW92 HWB HCB HT
     go_wp2
     go_region_with ((go_at_call 35; refine HW2.out.mono ?_; rintro e w3 ⟨rfl, hN3⟩; have HN3 := Lib.hid (HFIN.out _ hN3); clear hN3))
     go_wp2
     go_roundw
     case rel => exact ⟨k + 1, by go_num, by omega, HN3⟩
     case measure => simp [intOf]; omega
   · rw [decide_eq_false hm92] at hix
     have HCB := Lib.hid (show brF c = [c] by rw [HBR.out, if_neg hm92])
     have HW2 := Lib.hid (HWB.out S1 wr.drew _ (HQ1.out.keep (Below.refl _ _).drew) (by have := HL2.out; omega))
     have HFIN := Lib.hid (fun (w3 : World) (hN3 : WrNext wr.drew S1 p (((out ++ [40]) ++ bareF (s.take k)) ++ [c]) w3) => show WrNext w S p ((out ++ [40]) ++ bareF (s.take (k + 1))) w3 by
       rw [HT.out, HCB.out]
       have h3 := WrNext.trans HK1.out HS1.out (WrNext.above (Below.refl _ _).drew hN3)
       rw [← List.append_assoc (out ++ [40])]
       exact h3)
     clear HBR hm92 HW92 HWB HCB HT
     go_wp2_with (go_at_call 56; refine (HI.out _).mono ?_; rintro e w' ⟨rfl, rfl⟩)
     go_region_with ((go_at_call 35; refine HW2.out.mono ?_; rintro e w3 ⟨rfl, hN3⟩; have HN3 := Lib.hid (HFIN.out _ hN3); clear hN3))
     go_wp2
     go_roundw
     case rel => exact ⟨k + 1, by go_num, by omega, HN3⟩
     case measure => simp [intOf]; omega
theorem textW {w : World} {S : Nat → Prop} {p : Nat} {out : List UInt8} (h : WrQ w S p out) (s : List UInt8) (hl : out.length + 2 * s.length + 4 ≤ 10000000) :
   Calls Tryz.prog 27 #[.pointer (some ⟨p, 0, none⟩), .string (mkB s)] w fun e w' => e = .returned (.tuple #[]) ∧ WrNext w S p (out ++ textF s) w' := by
 cases hrd : readF s
 · exact hexsW h s hl hrd
 · exact baresW h s hl hrd
theorem cellsByteW : Tryz.prog.cellsOf 5 = 1 := by kernel_rfl
theorem keeps_freezeW {S : Nat → Prop} {w : World} {a : Addr} (h : S a.block) (n : Nat) : Keeps S w (w.freeze a n) := by
 unfold World.freeze
 split
 · exact Keeps.refl _ _
 · exact ⟨rfl, rfl, rfl, by simp, fun b _ hn => by
     simp only [Array.getElem?_modify]
     rw [if_neg (fun e : a.block = b => hn (e ▸ h))]⟩
set_option maxRecDepth 100000 in
theorem stringW {w : World} {S : Nat → Prop} {p : Nat} {out : List UInt8} (h : WrQ w S p out) (h0 : out ≠ []) :
   Calls Tryz.prog 20 #[.pointer (some ⟨p, 0, none⟩)] w fun e w' => e = .returned (.string (mkB out)) ∧ Keeps S w w' := by
 obtain ⟨ad, v, h⟩ := h
 obtain ⟨-, c1⟩ := h.cells
 have hl0 : out.length ≠ 0 := by simpa using h0
 obtain ⟨g, cap, cur, rfl, hbg, hg, hnc, hcm, hcs, htake⟩ : ∃ g cap cur, v = .slice (some ⟨g, 0, none⟩) out.length cap ∧ p + 1 ≤ g ∧ w.heap[g]? = some (.cells cur 5 (0, 0)) ∧ out.length ≤ cap ∧ cap ≤ maxLen ∧ cur.size = cap * 1 ∧ cur.toList.take (out.length * 1) = out.map u8W := by
   rcases h.row.2 with ⟨_, hz⟩ | ⟨g, cap, cur, hv, r⟩
   · exact absurd hz hl0
   · exact ⟨g, cap, cur, hv, r⟩
 have c1' : w.drew.cell? ⟨p, 1, none⟩ = some (.slice (some ⟨g, 0, none⟩) out.length cap) := c1
 have hSD : (Builtin.unsafeSliceData_ #[32] 73 #[.slice (some ⟨g, 0, none⟩) out.length cap]).run Tryz.prog w.drew = .ok (.pointer (some ⟨g, 0, none⟩)) w.drew :=
   Lib.run_unsafeSliceData_row _ _ _ _ _ _ (by omega)
 have hUS : (Builtin.unsafeString_ #[73, 3] 9 #[.pointer (some ⟨g, 0, none⟩), .int .i64 out.length]).run Tryz.prog w.drew = .ok (.string ⟨out.toArray⟩) (w.drew.freeze ⟨g, 0, none⟩ out.length) := by
   refine Lib.run_unsafeString_row w.drew 73 3 9 5 Tryz.underlying73 cellsByteW g cur.size (by have hg' : w.drew.heap[g]? = some (.cells cur 5 (0, 0)) := hg; simp [World.shape?, hg']) out h0 (by omega) (by unfold maxLen at hcm; omega) ?_
   intro j x hx
   exact h.row.cells (g := g) rfl j (u8W x) (by simp [hx])
 have HK := Lib.hid (show Keeps S w (w.drew.freeze ⟨g, 0, none⟩ out.length) from Keeps.trans ((Keeps.refl S w).drewN 1) (keeps_freezeW (S := S) (h.at_ g rfl) _) (fun _ hx => .inl hx))
 clear h htake hcs hg
 go_enter Tryz.func20, Tryz.ntmps20
 go_wp2
 go_region
 all_goals
   go_wp2
   go_ret
   exact ⟨rfl, HK.out⟩
mutual
theorem IsV.ltS {w : World} {F : Nat → Prop} : ∀ (v : PV) {sl : Value}, IsV w F v sl → IsV w (fun b => F b ∧ b < w.heap.size) v sl
 | .mk _ _ _ l, _, ⟨a, cap, cs, h, hr, hF, hs⟩ => ⟨a, cap, cs, h, hr, fun h0 x hx => ⟨hF h0 x hx, by
     obtain ⟨b, off, ha, hb, _⟩ := hr.2.2.2.2 h0
     rw [ha] at hx
     cases hx
     exact hb⟩, IsVs.ltS l hs⟩
theorem IsVs.ltS {w : World} {F : Nat → Prop} : ∀ (l : List PV) {cs : List Value}, IsVs w F l cs → IsVs w (fun b => F b ∧ b < w.heap.size) l cs
 | [], _, h => h
 | v :: l, _, ⟨sl, t, h, hv, ht⟩ => ⟨sl, t, h, IsV.ltS v hv, IsVs.ltS l ht⟩
end
theorem firstL_take {l : List PV} {k : Nat} {x : PV} (hx : l[k]? = some x) (h : firstL (l.take k) = 0) : firstL (l.take (k + 1)) = firstC x := by
 induction l generalizing k with
 | nil => cases hx
 | cons y l ih =>
   cases k with
   | zero =>
     have : y = x := by simpa using hx
     subst this
     simp only [List.take_succ_cons, List.take_zero, firstL]
     split
     · rfl
     · rename_i e
       have e2 : firstC y = 0 := by simpa using e
       rw [e2]
   | succ k =>
     rw [List.take_succ_cons] at h ⊢
     simp only [firstL] at h ⊢
     by_cases e : firstC y = 0
     · rw [if_neg (by simpa using e)] at h ⊢
       exact ih (by simpa using hx) h
     · rw [if_pos e] at h; exact absurd h e
theorem firstL_bad {l : List PV} {k : Nat} {x : PV} (hx : l[k]? = some x) (h : firstL (l.take k) = 0) (he : firstC x ≠ 0) : firstL l = firstC x := by
 induction l generalizing k with
 | nil => cases hx
 | cons y l ih =>
   cases k with
   | zero =>
     have : y = x := by simpa using hx
     subst this
     simp only [firstL]
     rw [if_pos he]
   | succ k =>
     rw [List.take_succ_cons] at h
     simp only [firstL] at h ⊢
     by_cases e : firstC y = 0
     · rw [if_neg (by simpa using e)] at h ⊢
       exact ih (by simpa using hx) h
     · rw [if_pos e] at h; exact absurd h e
theorem firstC_is (v : PV) : firstC v = if ownC v ≠ 0 then ownC v else if v.kind = 6 ∨ v.kind = 7 then firstL v.l else 0 := by obtain ⟨k, n, s, l⟩ := v; simp only [firstC]; rfl
theorem lt_of_heapS {w : World} {b : Nat} {o : Obj} (h : w.heap[b]? = some o) : b < w.heap.size := (Array.getElem?_eq_some_iff.1 h).1
theorem keepsB {w w' : World} {S : Nat → Prop} (h : Below w.heap.size w w') : Keeps S w w' := ⟨h.os, h.tape, h.output, h.size, fun b hb _ => h.block b hb⟩
structure ErrM (w w' : World) (p : Nat) (e : Int) : Prop where
 blk : w'.heap[p]? = some (.cells #[.int .i64 e] 27 (0, 0))
 keeps : Keeps (fun b => b = p) w w'
theorem check1_any {v : PV} {sl : Value} {w : World} {p : Nat} {e0 : Int} (hv : IsV w (fun b => b ≠ p) v sl) (hb : w.heap[p]? = some (.cells #[.int .i64 e0] 27 (0, 0))) :
   Calls Tryz.prog 30 #[pvA v sl, .pointer (some ⟨p, 0, none⟩)] w fun e w' => e = .returned (.bool (ownC v == 0)) ∧ ErrM w w' p (ownC v) := by
 have HO := Lib.hid (fun (W : World) (h : Below w.heap.size w W) => vown_any (hv.any.below h))
 obtain ⟨a1, cap1, e1, -, -, -⟩ := hv.len
 subst e1
 unfold pvA at HO ⊢
 generalize ownC v = oc at *
 generalize v.kind = k0 at *
 generalize v.n = n0 at *
 generalize mkB v.s = s0 at *
 generalize v.l.length = m at *
 clear hv
 go_enter Tryz.func30, Tryz.ntmps30
 obtain ⟨B, hB⟩ : ∃ B, B = w.heap.size := ⟨_, rfl⟩
 have hbw := belowA w (.cells #[.int .i64 k0, .int .i64 n0, .string s0, .slice a1 m cap1] 24)
 have HX1 := Lib.hid (heapA_new (w := w) (b := B) (.cells #[.int .i64 k0, .int .i64 n0, .string s0, .slice a1 m cap1] 24) hB)
 have HP1 := Lib.hid (block_keep hbw hb)
 have HW := Lib.hid hbw
 clear hbw hb
 go_upto_region 1 with fail
 rw [← hB]
 clear hB
 generalize w.alloc _ = W1 at *
 obtain ⟨⟨c0, c1, c2, c3⟩, -⟩ := cells4 HX1.out
 go_wp2_with fail
 refine (HO.out _ HW.out).mono ?_
 rintro e w2 ⟨rfl, hb2⟩
 have HP2 := Lib.hid (block_keep hb2 HP1.out)
 have HW2 := Lib.hid (HW.out.trans (hb2.mono HW.out.size))
 clear hb2 c0 c1 c2 c3
 have p0 : w2.cell? ⟨p, 0, none⟩ = some (.int .i64 e0) := by rw [cell_of_row w2 p 0 _ _ _ HP2.out]; rfl
 have pf : w2.frozen? ⟨p, 0, none⟩ = false := frozen_of_row w2 p 0 _ _ HP2.out
 have HE := Lib.hid (show ErrM w (w2.setCell ⟨p, 0, none⟩ (.int .i64 oc)) p oc from ⟨by rw [heap_setCell_same w2 p 0 _ _ _ HP2.out]; rfl, (keepsB (S := fun b => b = p) HW2.out).setCell (a := ⟨p, 0, none⟩) (.inl rfl) _⟩)
 go_upto_region 2 with fail
 have q0 : (w2.setCell ⟨p, 0, none⟩ (.int .i64 oc)).cell? ⟨p, 0, none⟩ = some (.int .i64 oc) := by rw [cell_of_row _ p 0 _ _ _ HE.out.blk]; rfl
 clear p0 pf
 generalize w2.setCell _ _ = W3 at *
 go_wp2
 go_ret
 exact ⟨rfl, HE.out⟩
theorem ErrM.trans {w w1 w2 : World} {p : Nat} {e2 : Int} (h : Keeps (fun b => b = p) w w1) (k : ErrM w1 w2 p e2) : ErrM w w2 p e2 := ⟨k.blk, h.trans k.keeps fun _ hb => .inl hb⟩
theorem IsV.err {w w' : World} {p : Nat} {v : PV} {sl : Value} (h : IsV w (fun b => b ≠ p) v sl) (k : Keeps (fun b => b = p) w w') : IsV w' (fun b => b ≠ p) v sl := IsV.keep ⟨k.size, fun b hb hf => k.block b hb hf⟩ (fun _ h => h) v h
theorem walk_any (p : Nat) : ∀ (N : Nat) (v : PV) (sl : Value) (w : World), SizeOf.sizeOf v ≤ N → IsV w (fun b => b ≠ p) v sl → w.heap[p]? = some (.cells #[.int .i64 0] 27 (0, 0)) →
   Calls Tryz.prog 29 #[pvA v sl, .func (.func 30) #[] #[.pointer (some ⟨p, 0, none⟩)]] w fun e w' => e = .returned (.bool (firstC v == 0)) ∧ ErrM w w' p (firstC v) := by
 intro N
 induction N with
 | zero => intro v sl w h; obtain ⟨_, _, _, _⟩ := v; simp at h
 | succ N ih =>
 intro v sl w hN hv hb
 have eg := enters_of Tryz.func30 (by kernel_rfl) rfl
 obtain ⟨a1, cap1, e1, g1, g2, g3⟩ := hv.len
 subst e1
 have HA := Lib.hid hv
 have HIH := Lib.hid ih
 have HN := Lib.hid hN
 have HSA := Lib.hid (fun (k : Nat) (x : PV) (h : v.l[k]? = some x) => sizeOf_mem h)
 have m1 : (v.l.length : Int) ≤ 9223372036854775807 := by unfold maxLen at g2; omega
 have HCH := Lib.hid (fun (W : World) (h : Below w.heap.size w W) => check1_any (hv.below h) (block_keep h hb))
 have hfc := firstC_is v
 have hpl : p < w.heap.size := (Array.getElem?_eq_some_iff.1 hb).1
 unfold pvA at HCH ⊢
 clear ih hN hv hb g2 g3
 obtain ⟨FC, hFC⟩ : ∃ FC, FC = firstC v := ⟨_, rfl⟩
 rw [← hFC] at hfc ⊢
 clear hFC
 obtain ⟨la, hla⟩ : ∃ la, la = v.l := ⟨_, rfl⟩
 have HLA := Lib.hid hla
 rw [← hla] at hfc HA HSA m1 g1 HCH ⊢
 clear hla
 obtain ⟨k0, hk0⟩ : ∃ k, k = v.kind := ⟨_, rfl⟩
 rw [← hk0] at hfc HCH ⊢
 clear hk0
 have HFC := Lib.hid hfc
 clear hfc
 generalize ownC v = oc at *
 generalize v.n = n0 at *
 generalize mkB v.s = s0 at *
 go_enter Tryz.func29, Tryz.ntmps29
 obtain ⟨B, hB⟩ : ∃ B, B = w.heap.size := ⟨_, rfl⟩
 have HX1 := Lib.hid (heapA_new (w := w) (b := B) (.cells #[.int .i64 k0, .int .i64 n0, .string s0, .slice a1 la.length cap1] 24) hB)
 have HW := Lib.hid (belowA w (.cells #[.int .i64 k0, .int .i64 n0, .string s0, .slice a1 la.length cap1] 24))
 have HPL := Lib.hid hpl
 have hBp : B ≠ p := by omega
 go_upto_region 1 with fail
 rw [← hB]
 clear hB hpl
 generalize w.alloc _ = W1 at *
 obtain ⟨⟨c0, c1, c2, c3⟩, -⟩ := cells4 HX1.out
 have HBP := Lib.hid hBp
 clear hBp
 go_wp2_with fail
 refine (HCH.out _ HW.out).mono ?_
 rintro e w2 ⟨rfl, he2⟩
 have HX2 := Lib.hid ((he2.keeps.block B (lt_of_heapS HX1.out) HBP.out).trans HX1.out)
 have HE2 := Lib.hid (ErrM.trans (keepsB HW.out) he2)
 clear he2 c0 c1 c2 c3 HX1 HW HCH
 obtain ⟨⟨c0, c1, c2, c3⟩, -⟩ := cells4 HX2.out
 have hfc := HFC.out
 by_cases ho : oc = 0
 case neg =>
   have eo : (oc == 0) = false := by rw [beq_eq_false_iff_ne]; exact ho
   rw [if_pos ho] at hfc
   subst hfc
   clear HFC HA HIH HN HSA HLA ho
   have HEO := Lib.hid eo
   go_wp2
   go_ret
   exact ⟨by rw [HEO.out]; rfl, HE2.out⟩
 subst ho
 rw [if_neg (by simp)] at hfc
 clear HFC
 by_cases hk : k0 = 6 ∨ k0 = 7
 case neg =>
   have hk6 : (k0 == 6) = false := by rw [beq_eq_false_iff_ne]; omega
   have hk7 : (k0 == 7) = false := by rw [beq_eq_false_iff_ne]; omega
   have hk6' : (k0 != 6) = true := by simp only [bne, hk6, Bool.not_false]
   have hk7' : (k0 != 7) = true := by simp only [bne, hk7, Bool.not_false]
   rw [if_neg hk] at hfc
   subst hfc
   clear hk HA HIH HN HSA HLA
   go_wp2
   go_ret
   exact ⟨rfl, HE2.out⟩
 rw [if_pos hk] at hfc
 have HFC := Lib.hid hfc
 clear hfc
 have hor : ∀ {Q : Prop}, (k0 = 6 → Q) → (k0 = 7 → Q) → Q := fun h6 h7 => hk.elim h6 h7
 clear hk
 refine hor (fun e6 => ?_) (fun e7 => ?_)
 all_goals
   first | subst e6 | subst e7
   clear hor
   go_wp2
   clear c0 c1 c2 c3
   go_loopw [22] (fun vk wr => ∃ (k : Nat), vk = .int .i64 k ∧ k ≤ la.length ∧ Hid (ErrM w wr p 0) ∧ Hid (firstL (la.take k) = 0)) (fun vk _ => la.length - (intOf vk).toNat)
   case atStart => exact ⟨0, rfl, Nat.zero_le _, HE2, Lib.hid rfl⟩
   case round =>
     obtain ⟨k, rfl, hk, HER, HV⟩ := hrel
     by_cases q1 : k < la.length
     case neg =>
       have hkl : k = la.length := by omega
       subst hkl
       have hv := HV.out
       rw [List.take_length] at hv
       have hf := HFC.out
       rw [hv] at hf
       subst hf
       clear hv HFC HV HA HIH HN HSA HLA
       go_wp2
       go_ret
       exact ⟨rfl, HER.out⟩
     obtain ⟨x, hx⟩ : ∃ x, la[k]? = some x := ⟨_, List.getElem?_eq_getElem q1⟩
     obtain ⟨-, -, -, b1, o1, rfl, -, -, hax⟩ := (HA.out.err HER.out.keeps).at (by omega)
     rw [← HLA.out] at hax
     obtain ⟨sx, hsx, x0, x1, x2, x3⟩ := hax k x hx
     have hlt : SizeOf.sizeOf x < SizeOf.sizeOf v := HSA.out k x hx
     have hN := HN.out
     obtain ⟨sa', sc', rfl, -, -, -⟩ := hsx.len
     have HCALL := Lib.hid (fun (W : World) (hb : Below wr.heap.size wr W) => HIH.out x _ W (by omega) (hsx.below hb) (block_keep hb HER.out.blk))
     simp only [pvA] at HCALL
     have HT0 := Lib.hid (fun (h : firstC x = 0) => (firstL_take hx HV.out).trans h)
     have HT1 := Lib.hid (fun (h : firstC x ≠ 0) => firstL_bad hx HV.out h)
     clear hsx hlt hN hax hx HA HIH HV HSA HLA HN
     generalize firstC x = fx at *
     have hkl : (0 : Int) ≤ (k : Int) := by omega
     have hki : (k : Int) < (la.length : Int) := by omega
     have hd1 : decide (k < la.length) = true := decide_eq_true q1
     generalize x.kind = xk at *
     generalize x.n = xn at *
     generalize mkB x.s = xs at *
     generalize x.l.length = xl at *
     have HB4 := Lib.hid (belowA wr (.cells #[.int .i64 xk, .int .i64 xn, .string xs, .slice sa' xl sc'] 24))
     have HK4 := Lib.hid (heapA_new (w := wr) (b := wr.heap.size) (.cells #[.int .i64 xk, .int .i64 xn, .string xs, .slice sa' xl sc'] 24) rfl)
     go_upto_region 8 with fail
     obtain ⟨r4, hr4⟩ : ∃ r4, r4 = wr.heap.size := ⟨_, rfl⟩
     rw [← hr4] at HK4 ⊢
     clear hr4 x0 x1 x2 x3
     have HC4 := Lib.hid (HCALL.out _ HB4.out)
     have HE4 := Lib.hid (HER.out.keeps.trans (keepsB (S := fun b => b = p) HB4.out) fun _ hb => .inl hb)
     clear HCALL HB4 HER
     generalize wr.alloc _ = W4 at *
     obtain ⟨⟨x0, x1, x2, x3⟩, -⟩ := cells4 HK4.out
     go_wp2_with fail
     refine HC4.out.mono ?_
     rintro e w5 ⟨rfl, he5⟩
     have HE5 := Lib.hid (ErrM.trans HE4.out he5)
     clear he5 x0 x1 x2 x3 HC4 HE4
     by_cases hf : fx = 0
     · have ef : (fx == 0) = true := by rw [hf]; rfl
       have HV2 := Lib.hid (HT0.out hf)
       rw [hf] at HE5
       clear HT0 HT1 hf
       go_wp2
       go_roundw
       case rel => exact ⟨k + 1, by go_num, by omega, HE5, HV2⟩
       case measure => simp [intOf]; omega
     · have ef : (fx == 0) = false := by rw [beq_eq_false_iff_ne]; exact hf
       have hF : FC = fx := HFC.out.trans (HT1.out hf)
       subst hF
       have HEF := Lib.hid ef
       clear HT0 HT1 hf HFC
       go_wp2
       go_ret
       exact ⟨by rw [HEF.out]; rfl, HE5.out⟩
theorem vcheck_any {v : PV} {sl : Value} {w : World} (hv : IsV w anyF v sl) (hd : depthV v ≤ 1000) :
   Calls Tryz.prog 18 #[pvA v sl] w fun e w' => e = .returned (.int .i64 (checkC v)) ∧ Below w.heap.size w w' := by
 have HD := Lib.hid (fun (W : World) (h : Below w.heap.size w W) => vdepth_any _ v sl W (Nat.le_refl _) hd (hv.below h))
 have HWK := Lib.hid (fun (W : World) (p : Nat) (h : Below w.heap.size w W) (hp : w.heap.size ≤ p) (hb : W.heap[p]? = some (.cells #[.int .i64 0] 27 (0, 0))) =>
   walk_any p _ v sl W (Nat.le_refl _) (IsV.keep (F := fun b => anyF b ∧ b < w.heap.size) (Stays.of_below h) (fun b hb => by have := hb.2; omega) _ (IsV.ltS v hv)) hb)
 obtain ⟨R, hR⟩ : ∃ R, R = checkC v := ⟨_, rfl⟩
 rw [← hR]
 unfold checkC at hR
 have HR := Lib.hid hR
 obtain ⟨a1, cap1, rfl, -, -, -⟩ := hv.len
 unfold pvA at HD HWK ⊢
 clear hv hR
 generalize firstC v = fc at *
 generalize depthV v = d at *
 generalize v.kind = k0 at *
 generalize v.n = n0 at *
 generalize mkB v.s = s0 at *
 generalize v.l.length = m at *
 go_enter Tryz.func18, Tryz.ntmps18
 obtain ⟨B, hB⟩ : ∃ B, B = w.heap.size := ⟨_, rfl⟩
 have HX1 := Lib.hid (heapA_new (w := w) (b := B) (.cells #[.int .i64 k0, .int .i64 n0, .string s0, .slice a1 m cap1] 24) hB)
 have HW := Lib.hid (belowA w (.cells #[.int .i64 k0, .int .i64 n0, .string s0, .slice a1 m cap1] 24))
 go_upto_region 1 with fail
 rw [← hB]
 clear hB
 generalize w.alloc _ = W1 at *
 obtain ⟨⟨c0, c1, c2, c3⟩, -⟩ := cells4 HX1.out
 go_wp2_with fail
 refine (HD.out _ HW.out).mono ?_
 rintro e w2 ⟨rfl, hb2⟩
 have HX2 := Lib.hid (block_keep hb2 HX1.out)
 have HW2 := Lib.hid (HW.out.trans (hb2.mono HW.out.size))
 clear hb2 c0 c1 c2 c3 HX1 HW HD
 have hR := HR.out
 by_cases h64 : 64 < d
 · have hd1 : decide (64 < d) = true := decide_eq_true h64
   have hd2 : decide ((64 : Int) < (d : Int)) = true := decide_eq_true (by omega)
   rw [if_pos h64] at hR
   subst hR
   clear HR HWK h64
   go_wp2
   go_ret
   exact ⟨rfl, HW2.out⟩
 have hd1 : decide (64 < d) = false := decide_eq_false h64
 have hd2 : decide ((64 : Int) < (d : Int)) = false := decide_eq_false (by omega)
 rw [if_neg h64] at hR
 subst hR
 clear HR h64
 have HP3 := Lib.hid (heapA_new (w := w2) (b := w2.heap.size) (.cells #[.int .i64 0] 27) rfl)
 have HX3 := Lib.hid (heapA_old (.cells #[.int .i64 0] 27) HX2.out)
 have HW3 := Lib.hid (HW2.out.alloc HW2.out.size (.cells #[.int .i64 0] 27))
 have HPP := Lib.hid HW2.out.size
 go_upto_region 4 with fail
 obtain ⟨p, hp⟩ : ∃ p, p = w2.heap.size := ⟨_, rfl⟩
 rw [← hp] at HP3 HPP ⊢
 clear hp
 generalize w2.alloc _ = W3 at *
 obtain ⟨⟨c0, c1, c2, c3⟩, -⟩ := cells4 HX3.out
 go_wp2_with fail
 refine (HWK.out _ _ HW3.out HPP.out HP3.out).mono ?_
 rintro e w4 ⟨rfl, he4⟩
 have HE4 := Lib.hid he4
 clear he4 c0 c1 c2 c3 HWK
 have p0 : w4.cell? ⟨p, 0, none⟩ = some (.int .i64 R) := by rw [cell_of_row w4 p 0 _ _ _ HE4.out.blk]; rfl
 have HW4 := Lib.hid (show Below w.heap.size w w4 from HW3.out.trans ⟨HE4.out.keeps.os, HE4.out.keeps.tape, HE4.out.keeps.output, HE4.out.keeps.size, fun b hb => HE4.out.keeps.block b (by have := HW3.out.size; omega) (by have := HPP.out; omega)⟩)
 go_wp2
 go_ret
 exact ⟨rfl, HW4.out⟩
theorem moreF_app : ∀ (l m : List PV), moreF (l ++ m) = moreF l ++ moreF m
 | [], m => rfl
 | x :: l, m => by simp only [List.cons_append, moreF, moreF_app l m, List.append_assoc]
theorem rowF_take {l : List PV} {k : Nat} {x : PV} (h : l[k]? = some x) : rowF (l.take (k + 1)) = rowF (l.take k) ++ (if k = 0 then formV x else 32 :: formV x) := by
 rw [List.take_add_one, h]
 cases l with
 | nil => cases h
 | cons y l =>
   cases k with
   | zero =>
     have e : y = x := by simpa using h
     subst e
     simp [rowF, moreF]
   | succ k =>
     rw [List.take_succ_cons]
     simp only [Option.toList_some, List.cons_append, rowF, moreF_app, moreF, List.append_nil, List.append_assoc]
     rw [if_neg (by omega)]
theorem rowF_le {l : List PV} {k : Nat} : (rowF (l.take k)).length ≤ (rowF l).length := by
 cases l with
 | nil => simp
 | cons y l =>
   cases k with
   | zero => simp [rowF]
   | succ k =>
     rw [List.take_succ_cons]
     simp only [rowF, List.length_append]
     have : (moreF (l.take k)).length ≤ (moreF l).length := by
       have h := moreF_app (l.take k) (l.drop k)
       rw [List.take_append_drop] at h
       rw [h]
       simp
     omega
theorem WrQ.lt {w : World} {S : Nat → Prop} {p : Nat} {out : List UInt8} (h : WrQ w S p out) {b : Nat} (hb : S b) : p ≤ b ∧ b < w.heap.size := by obtain ⟨_, _, h⟩ := h; exact h.lt b hb
theorem IsV.wr {w w' : World} {S : Nat → Prop} {p : Nat} {out : List UInt8} {v : PV} {sl : Value} (h : IsV w (fun b => b < p) v sl) (hq : WrQ w S p out) (hk : Keeps S w w') : IsV w' (fun b => b < p) v sl :=
 IsV.keep ⟨hk.size, fun b hb hF => hk.block b hb (fun hS => by have := (hq.lt hS).1; omega)⟩ (fun _ h => h) v h
def ValW (p : Nat) (x : PV) : Prop := ∀ (sx : Value) (W : World) (S : Nat → Prop) (o : List UInt8), IsV W (fun b => b < p) x sx → WrQ W S p o → o.length + (formV x).length ≤ 1000000 →
 Calls Tryz.prog 19 #[.pointer (some ⟨p, 0, none⟩), pvA x sx] W fun e w' => e = .returned (.tuple #[]) ∧ WrNext W S p (o ++ formV x) w'
theorem rowW {w : World} {S : Nat → Prop} {p : Nat} {out : List UInt8} {v : PV} {a : Option Addr} {cap : Nat} (h : WrQ w S p out) (hv : IsV w (fun b => b < p) v (.slice a v.l.length cap)) (HX : ∀ (k : Nat) (x : PV), v.l[k]? = some x → ValW p x) (hl : out.length + (rowF v.l).length ≤ 1000000) :
   Calls Tryz.prog 36 #[.pointer (some ⟨p, 0, none⟩), .slice a v.l.length cap] w fun e w' => e = .returned (.tuple #[]) ∧ WrNext w S p (out ++ rowF v.l) w' := by
 have m1 : (v.l.length : Int) ≤ 9223372036854775807 := by obtain ⟨_, _, e, _, g2, _⟩ := hv.len; cases e; unfold maxLen at g2; omega
 have HV := Lib.hid hv
 have HQ := Lib.hid h
 have HXX := Lib.hid HX
 have HL := Lib.hid hl
 clear hv h HX hl
 obtain ⟨la, hla⟩ : ∃ la, la = v.l := ⟨_, rfl⟩
 have HLA := Lib.hid hla
 rw [← hla] at m1 HV HXX HL ⊢
 clear hla
 go_enter Tryz.func36, Tryz.ntmps36
 go_wp2
 go_loopw [8] (fun vk wr => ∃ k : Nat, vk = .int .i64 k ∧ k ≤ la.length ∧ Hid (WrNext w S p (out ++ rowF (la.take k)) wr)) (fun vk _ => la.length - (intOf vk).toNat)
 case atStart => exact ⟨0, rfl, Nat.zero_le _, Lib.hid (by rw [List.take_zero]; simpa [rowF] using WrNext.refl HQ.out)⟩
 case round =>
   obtain ⟨k, rfl, hk, HN⟩ := hrel
   by_cases q1 : k < la.length
   case neg =>
     have hd1 : decide (k < la.length) = false := decide_eq_false q1
     have hd2 : decide ((k : Int) < (la.length : Int)) = false := decide_eq_false (by omega)
     have hq2 : ¬ (k : Int) < (la.length : Int) := by omega
     have HE := Lib.hid (show WrNext w S p (out ++ rowF la) wr by
       have h2 := HN.out
       rwa [List.take_of_length_le (by omega)] at h2)
     clear HN HV HXX HL
     go_wp2
     go_end0
     exact ⟨rfl, HE.out⟩
   obtain ⟨S1, hq1, hk1, hs1⟩ := HN.out
   obtain ⟨x, hx⟩ : ∃ x, la[k]? = some x := ⟨_, List.getElem?_eq_getElem q1⟩
   obtain ⟨-, -, -, b1, o1, rfl, -, -, hax⟩ := (HV.out.wr HQ.out hk1).at (by omega)
   rw [← HLA.out] at hax
   obtain ⟨sx, hsx, x0, x1, x2, x3⟩ := hax k x hx
   obtain ⟨sa', sc', rfl, -, -, -⟩ := hsx.len
   have hT := rowF_take hx
   have hle : (rowF (la.take (k + 1))).length ≤ (rowF la).length := rowF_le
   have HVX := Lib.hid (HXX.out k x hx)
   have HSX := Lib.hid hsx
   have HQ1 := Lib.hid hq1
   have HK1 := Lib.hid hk1
   have HS1 := Lib.hid hs1
   have hkl : (0 : Int) ≤ (k : Int) := by omega
   have hki : (k : Int) < (la.length : Int) := by omega
   have hd1 : decide (k < la.length) = true := decide_eq_true q1
   have hd2 : decide ((k : Int) < (la.length : Int)) = true := decide_eq_true hki
   have HT := Lib.hid hT
   have HLE := Lib.hid hle
   clear hax hx hsx hq1 hk1 hs1 hT hle HN HV HXX
   have HB4 := Lib.hid (belowA wr (.cells #[.int .i64 x.kind, .int .i64 x.n, .string (mkB x.s), .slice sa' x.l.length sc'] 24))
   have HK4 := Lib.hid (heapA_new (w := wr) (b := wr.heap.size) (.cells #[.int .i64 x.kind, .int .i64 x.n, .string (mkB x.s), .slice sa' x.l.length sc'] 24) rfl)
   have HR4 := Lib.hid (show ¬ S1 wr.heap.size from fun hS => by have := (HQ1.out.lt hS).2; omega)
   go_upto_region 3 with fail
   obtain ⟨r4, hr4⟩ : ∃ r4, r4 = wr.heap.size := ⟨_, rfl⟩
   rw [← hr4] at HK4 HR4 ⊢
   clear hr4 x0 x1 x2 x3
   have HQ4 := Lib.hid (HQ1.out.keep HB4.out)
   have HS4 := Lib.hid (HSX.out.below HB4.out)
   have HFB := Lib.hid HB4.out
   clear HB4
   generalize wr.alloc _ = W4 at *
   by_cases hk0 : k = 0
   · have hd3 : decide ((0 : Int) < (k : Int)) = false := decide_eq_false (by omega)
     have hd4 : decide (0 < k) = false := decide_eq_false (by omega)
     have hk0' : ¬ (0 : Int) < (k : Int) := by omega
     have HCALL := Lib.hid (HVX.out _ W4 S1 _ HS4.out HQ4.out (by
       have h1 := HT.out
       have h2 := HLE.out
       have h3 := HL.out
       rw [h1, if_pos hk0] at h2
       simp only [List.length_append] at h2 ⊢
       omega))
     have HFIN := Lib.hid (fun (w3 : World) (hN3 : WrNext W4 S1 p ((out ++ rowF (la.take k)) ++ formV x) w3) => show WrNext w S p (out ++ rowF (la.take (k + 1))) w3 by
       rw [HT.out, if_pos hk0, ← List.append_assoc]
       exact WrNext.trans HK1.out HS1.out (WrNext.above HFB.out hN3))
     simp only [pvA] at HCALL
     obtain ⟨⟨t0, t1, t2, t3⟩, -⟩ := cells4 HK4.out
     clear hk0 HVX HQ4 HS4 HSX
     generalize x.kind = xk at *
     generalize x.n = xn at *
     generalize mkB x.s = xs at *
     generalize x.l.length = xl at *
     go_wp2_with fail
     refine HCALL.out.mono ?_
     rintro e w5 ⟨rfl, hN5⟩
     have HN5 := Lib.hid (HFIN.out _ hN5)
     clear hN5 HFIN HCALL t0 t1 t2 t3
     go_wp2
     go_roundw
     case rel => exact ⟨k + 1, by go_num, by omega, HN5⟩
     case measure => simp [intOf]; omega
   · have hd3 : decide ((0 : Int) < (k : Int)) = true := decide_eq_true (by omega)
     have hd4 : decide (0 < k) = true := decide_eq_true (by omega)
     have hk0' : (0 : Int) < (k : Int) := by omega
     have hbnd : (out ++ rowF (la.take k)).length + (formV x).length + 1 ≤ 1000000 := by
       have h1 := HT.out
       have h2 := HLE.out
       have h3 := HL.out
       rw [h1, if_neg hk0] at h2
       simp only [List.length_append, List.length_cons] at h2 ⊢
       omega
     have HBD := Lib.hid hbnd
     have HWB := Lib.hid (writeByteW HQ4.out 32 32 rfl (by omega))
     have HT2 := Lib.hid (show rowF (la.take (k + 1)) = rowF (la.take k) ++ 32 :: formV x by rw [HT.out, if_neg hk0])
     clear hk0 hbnd
     go_wp2_with fail
     refine HWB.out.mono ?_
     rintro e w5 ⟨rfl, hN5⟩
     obtain ⟨S2, hq2, hk2, hs2⟩ := hN5
     have HK5 := Lib.hid ((hk2.block r4 (lt_of_heapS HK4.out) HR4.out).trans HK4.out)
     have HCALL := Lib.hid (HVX.out _ w5 S2 _ (HS4.out.wr HQ4.out hk2) hq2 (by have := HBD.out; simp only [List.length_append, List.length_cons, List.length_nil] at this ⊢; omega))
     have HFIN := Lib.hid (fun (w3 : World) (hN3 : WrNext w5 S2 p (((out ++ rowF (la.take k)) ++ [32]) ++ formV x) w3) => show WrNext w S p (out ++ rowF (la.take (k + 1))) w3 by
       rw [HT2.out, ← List.append_assoc]
       have h3 := WrNext.trans HK1.out HS1.out (WrNext.above HFB.out (WrNext.trans hk2 hs2 hN3))
       rw [List.append_assoc _ [32]] at h3
       exact h3)
     simp only [pvA] at HCALL
     obtain ⟨⟨t0, t1, t2, t3⟩, -⟩ := cells4 HK5.out
     clear HVX HQ4 HS4 HSX hq2 hk2 hs2 HWB HK4
     generalize x.kind = xk at *
     generalize x.n = xn at *
     generalize mkB x.s = xs at *
     generalize x.l.length = xl at *
     go_wp2_with fail
     refine HCALL.out.mono ?_
     rintro e w6 ⟨rfl, hN6⟩
     have HN6 := Lib.hid (HFIN.out _ hN6)
     clear hN6 HFIN HCALL t0 t1 t2 t3
     go_wp2
     go_roundw
     case rel => exact ⟨k + 1, by go_num, by omega, HN6⟩
     case measure => simp [intOf]; omega
theorem own_casesS {v : PV} (h : ownC v = 0) :
   (v.kind = 0 ∧ v.n = 0 ∧ v.s = [] ∧ v.l = []) ∨ (v.kind = 1 ∧ (v.n = 0 ∨ v.n = 1) ∧ v.s = [] ∧ v.l = []) ∨
   ((v.kind = 2 ∨ v.kind = 3) ∧ checkV v.kind v.n true = 0 ∧ v.s = [] ∧ v.l = []) ∨
   (v.kind = 4 ∧ v.n = 0 ∧ v.l = []) ∨ (v.kind = 5 ∧ (v.s.length ≤ 127 ∧ (0 : UInt8) ∉ v.s) ∧ v.n = 0 ∧ v.l = []) ∨ (v.kind = 6 ∧ v.n = 0 ∧ v.s = []) ∨
   (v.kind = 7 ∧ v.n = 0 ∧ v.s = []) ∨ (v.kind = 8 ∧ (1 ≤ v.n ∧ v.n ≤ 4096) ∧ v.s = [] ∧ v.l = []) := by
 obtain ⟨k, n, s, l⟩ := v
 simp only [PV.kind, PV.n, PV.s, PV.l]
 simp only [ownC] at h
 split at h
 · rename_i e; split at h
   · exact .inl ⟨e, by assumption⟩
   · cases h
 split at h
 · rename_i e; split at h
   · rename_i g; exact .inr (.inl ⟨e, g⟩)
   · cases h
 split at h
 · rename_i e; split at h
   · rename_i g; exact .inr (.inr (.inl ⟨e, h, g⟩))
   · cases h
 split at h
 · rename_i e; split at h
   · rename_i g; exact .inr (.inr (.inr (.inl ⟨e, g⟩)))
   · cases h
 split at h
 · rename_i e; split at h
   · cases h
   · rename_i q; split at h
     · rename_i g; exact .inr (.inr (.inr (.inr (.inl ⟨e, by rw [not_or] at q; exact ⟨by omega, q.2⟩, g⟩))))
     · cases h
 split at h
 · rename_i e; split at h
   · rename_i g; exact .inr (.inr (.inr (.inr (.inr (.inl ⟨e, g⟩)))))
   · cases h
 split at h
 · rename_i e; split at h
   · cases h
   · rename_i q
     simp only [not_or, Decidable.not_not, ne_eq] at q
     exact .inr (.inr (.inr (.inr (.inr (.inr (.inl ⟨e, q.1, q.2.1⟩))))))
 split at h
 · rename_i e; split at h
   · rename_i g; exact .inr (.inr (.inr (.inr (.inr (.inr (.inr ⟨e, ⟨g.1, g.2.1⟩, g.2.2⟩))))))
   · cases h
 cases h
theorem firstC_ownS {v : PV} (h : firstC v = 0) : ownC v = 0 := by
 rw [firstC_is] at h
 by_cases e : ownC v = 0
 · exact e
 · rw [if_pos e] at h; exact h
theorem first_memS {v : PV} (h : firstC v = 0) (hk : v.kind = 6 ∨ v.kind = 7) {k : Nat} {x : PV} (hx : v.l[k]? = some x) : firstC x = 0 := by
 have ho := firstC_ownS h
 rw [firstC_is, if_neg (by simp [ho]), if_pos hk] at h
 have : ∀ (l : List PV) (k : Nat), firstL l = 0 → l[k]? = some x → firstC x = 0 := by
   intro l
   induction l with
   | nil => intro k _ hx; cases hx
   | cons y l ih =>
     intro k h hx
     simp only [firstL] at h
     split at h
     · rename_i e; exact absurd h e
     · rename_i e
       cases k with
       | zero =>
         have : y = x := by simpa using hx
         subst this; omega
       | succ k => exact ih k h (by simpa using hx)
 exact this v.l k h hx
theorem textF_ge (s : List UInt8) : s.length + 2 ≤ (textF s).length := by
 unfold textF
 split
 · have : ∀ l : List UInt8, l.length ≤ (bareF l).length := fun l => by
     induction l with
     | nil => exact Nat.zero_le _
     | cons c l ih => simp only [bareF, List.length_append, List.length_cons]; split <;> (simp; omega)
   have := this s
   simp; omega
 · have := hexF_len s
   simp; omega
theorem nameF_ge : ∀ l : List UInt8, l.length ≤ (nameF l).length
 | [] => Nat.zero_le _
 | c :: l => by
   have := nameF_ge l
   simp only [nameF, List.length_append, List.length_cons]
   split <;> (simp [hexB]; omega)
theorem intOf_any (n : Int) (w : World) : Calls Tryz.prog 14 #[.int .i64 n] w fun e w' => e = .returned (.agg #[.int .i64 2, .int .i64 n, .string ⟨#[]⟩, .slice none 0 0]) ∧ Below w.heap.size w w' := by
 go_enter Tryz.func14, Tryz.ntmps14
 go_wp2
 refine bodyPost_ret (results_cell_row rfl _ _ w.heap.size 24 _ (0, 0) _ rfl (heapA_new _ rfl) Tryz.underlying24 rfl (by kernel_rfl)) rfl ?_
 exact ⟨rfl, belowA _ _⟩
section
variable {w : World} {S : Nat → Prop} {p : Nat} {out : List UInt8} {a : Option Addr} {cap : Nat}
theorem value_w0 (h : WrQ w S p out) (hl : out.length + 4 ≤ 1000000) :
   Calls Tryz.prog 19 #[.pointer (some ⟨p, 0, none⟩), .agg #[.int .i64 0, .int .i64 0, .string ⟨#[]⟩, .slice a 0 cap]] w fun e w' => e = .returned (.tuple #[]) ∧ WrNext w S p (out ++ [110, 117, 108, 108]) w' := by
 have hb := belowA w (.cells #[.int .i64 0, .int .i64 0, .string ⟨#[]⟩, .slice a 0 cap] 24)
 have HB := Lib.hid hb
 have HW := Lib.hid (writeStrW (h.keep hb) [110, 117, 108, 108] (by simp; omega))
 rw [show mkB [110, 117, 108, 108] = ⟨#[110, 117, 108, 108]⟩ from rfl] at HW
 clear h hb
 go_enter Tryz.func19, Tryz.ntmps19
 go_wp2_with (go_at_call 32; refine HW.out.mono ?_; rintro e w1 ⟨rfl, hN1⟩; have HN1 := Lib.hid (WrNext.above HB.out hN1); clear hN1)
 go_end0
 exact ⟨rfl, HN1.out⟩
theorem value_w4 (h : WrQ w S p out) (s : List UInt8) (hl : out.length + (textF s).length ≤ 1000000) :
   Calls Tryz.prog 19 #[.pointer (some ⟨p, 0, none⟩), .agg #[.int .i64 4, .int .i64 0, .string (mkB s), .slice a 0 cap]] w fun e w' => e = .returned (.tuple #[]) ∧ WrNext w S p (out ++ textF s) w' := by
 have hb := belowA w (.cells #[.int .i64 4, .int .i64 0, .string (mkB s), .slice a 0 cap] 24)
 have HB := Lib.hid hb
 have hge := textF_ge s
 have HW := Lib.hid (textW (h.keep hb) s (by omega))
 generalize textF s = t at *
 generalize mkB s = sb at *
 clear h hb hge
 go_enter Tryz.func19, Tryz.ntmps19
 go_wp2_with (go_at_call 27; refine HW.out.mono ?_; rintro e w1 ⟨rfl, hN1⟩; have HN1 := Lib.hid (WrNext.above HB.out hN1); clear hN1)
 go_end0
 exact ⟨rfl, HN1.out⟩
theorem value_w5 (h : WrQ w S p out) (s : List UInt8) (hl : out.length + (47 :: nameF s).length ≤ 1000000) :
   Calls Tryz.prog 19 #[.pointer (some ⟨p, 0, none⟩), .agg #[.int .i64 5, .int .i64 0, .string (mkB s), .slice a 0 cap]] w fun e w' => e = .returned (.tuple #[]) ∧ WrNext w S p (out ++ 47 :: nameF s) w' := by
 have hb := belowA w (.cells #[.int .i64 5, .int .i64 0, .string (mkB s), .slice a 0 cap] 24)
 have HB := Lib.hid hb
 have hge := nameF_ge s
 have HW := Lib.hid (nameW (h.keep hb) s (by simp at hl; omega))
 generalize 47 :: nameF s = t at *
 generalize mkB s = sb at *
 clear h hb hge
 go_enter Tryz.func19, Tryz.ntmps19
 go_wp2_with (go_at_call 34; refine HW.out.mono ?_; rintro e w1 ⟨rfl, hN1⟩; have HN1 := Lib.hid (WrNext.above HB.out hN1); clear hN1)
 go_end0
 exact ⟨rfl, HN1.out⟩
theorem value_wn (h : WrQ w S p out) (k n : Int) (hk : k = 2 ∨ k = 3) (hl : out.length + (printV k n true).1.length ≤ 1000000) :
   Calls Tryz.prog 19 #[.pointer (some ⟨p, 0, none⟩), .agg #[.int .i64 k, .int .i64 n, .string ⟨#[]⟩, .slice a 0 cap]] w fun e w' => e = .returned (.tuple #[]) ∧ WrNext w S p (out ++ (printV k n true).1) w' := by
 have hb := belowA w (.cells #[.int .i64 k, .int .i64 n, .string ⟨#[]⟩, .slice a 0 cap] 24)
 have HB := Lib.hid hb
 have HP := Lib.hid (fun W => print_any k n ⟨#[]⟩ a 0 cap W (by omega))
 rw [show bareV ⟨#[]⟩ 0 = true from rfl] at HP
 unfold PrintEnd at HP
 generalize printV k n true = R at *
 obtain ⟨t, er⟩ := R
 simp only at HP hl ⊢
 have HQ := Lib.hid (fun (W : World) (hW : Below w.heap.size w W) => writeStrW (h.keep hW) t (by omega))
 rw [show mkS t = mkB t from rfl] at HP
 generalize mkB t = sb at *
 clear h hb
 rcases hk with rfl | rfl
 all_goals
   go_enter Tryz.func19, Tryz.ntmps19
   go_wp2_with (go_at_call 33; refine (HP.out _).mono ?_; rintro e w1 ⟨rfl, hb1⟩; have HB1 := Lib.hid (HB.out.trans (hb1.mono HB.out.size)); clear hb1)
   refine (HQ.out _ HB1.out).mono ?_
   rintro e w2 ⟨rfl, hN2⟩
   have HN2 := Lib.hid (WrNext.above HB1.out hN2)
   clear hN2
   go_wp2
   go_end0
   exact ⟨rfl, HN2.out⟩
end
section
variable {w : World} {S : Nat → Prop} {p : Nat} {out : List UInt8} {a : Option Addr} {cap : Nat}
theorem value_w8 (h : WrQ w S p out) (n : Int) (hl : out.length + ((printV 2 n true).1 ++ [32, 48, 32, 82]).length ≤ 1000000) :
   Calls Tryz.prog 19 #[.pointer (some ⟨p, 0, none⟩), .agg #[.int .i64 8, .int .i64 n, .string ⟨#[]⟩, .slice a 0 cap]] w fun e w' => e = .returned (.tuple #[]) ∧ WrNext w S p (out ++ ((printV 2 n true).1 ++ [32, 48, 32, 82])) w' := by
 have hb := belowA w (.cells #[.int .i64 8, .int .i64 n, .string ⟨#[]⟩, .slice a 0 cap] 24)
 have HB := Lib.hid hb
 have HI := Lib.hid (fun W => intOf_any n W)
 have HP := Lib.hid (fun W => print_any 2 n ⟨#[]⟩ none 0 0 W (by omega))
 rw [show bareV ⟨#[]⟩ 0 = true from rfl] at HP
 unfold PrintEnd at HP
 generalize printV 2 n true = R at *
 obtain ⟨t, er⟩ := R
 simp only at HP hl ⊢
 have HQ := Lib.hid (fun (W : World) (hW : Below w.heap.size w W) => writeStrW (h.keep hW) (t ++ [32, 48, 32, 82]) (by omega))
 have hcat : mkS t ++ ⟨#[32, 48, 32, 82]⟩ = mkB (t ++ [32, 48, 32, 82]) := by
   apply ByteArray.ext
   rw [ByteArray.data_append]
   simp [mkS, mkB]
 have hst : (mkS t).size ≤ 1000000 := by rw [mkS_size]; simp at hl; omega
 generalize mkB (t ++ [32, 48, 32, 82]) = sb at *
 generalize mkS t = st at *
 clear h hb
 go_enter Tryz.func19, Tryz.ntmps19
 go_wp2_with (first | (go_at_call 14; refine (HI.out _).mono ?_; rintro e w0 ⟨rfl, hb0⟩; have HB0 := Lib.hid (HB.out.trans (hb0.mono HB.out.size)); clear hb0) | (go_at_call 33; refine (HP.out _).mono ?_; rintro e w1 ⟨rfl, hb1⟩; have HB1 := Lib.hid (HB0.out.trans (hb1.mono HB0.out.size)); clear hb1))
 refine (HQ.out _ HB1.out).mono ?_
 rintro e w2 ⟨rfl, hN2⟩
 have HN2 := Lib.hid (WrNext.above HB1.out hN2)
 clear hN2
 go_wp2
 go_end0
 exact ⟨rfl, HN2.out⟩
theorem value_w6 {v : PV} (h : WrQ w S p out) (hk : v.kind = 6) (hn0 : v.n = 0) (hs0 : v.s = []) (hv : IsV w (fun b => b < p) v (.slice a v.l.length cap)) (HX : ∀ (k : Nat) (x : PV), v.l[k]? = some x → ValW p x) (hl : out.length + (91 :: (rowF v.l ++ [93])).length ≤ 1000000) :
   Calls Tryz.prog 19 #[.pointer (some ⟨p, 0, none⟩), pvA v (.slice a v.l.length cap)] w fun e w' => e = .returned (.tuple #[]) ∧ WrNext w S p (out ++ 91 :: (rowF v.l ++ [93])) w' := by
 unfold pvA
 rw [hk, hn0, hs0, show mkB [] = ⟨#[]⟩ from rfl]
 have hb := belowA w (.cells #[.int .i64 6, .int .i64 0, .string ⟨#[]⟩, .slice a v.l.length cap] 24)
 have HB := Lib.hid hb
 have hl' : out.length + (rowF v.l).length + 2 ≤ 1000000 := by simp only [List.length_cons, List.length_append, List.length_nil] at hl; omega
 have HW := Lib.hid (writeByteW (h.keep hb) 91 91 rfl (by omega))
 have HK := Lib.hid (heapA_new (w := w) (b := w.heap.size) (.cells #[.int .i64 6, .int .i64 0, .string ⟨#[]⟩, .slice a v.l.length cap] 24) rfl)
 have HVB := Lib.hid (hv.below hb)
 have HQB := Lib.hid (h.keep hb)
 have HNS := Lib.hid (show ¬ S w.heap.size from fun hS => by have := (h.lt hS).2; omega)
 have HR := Lib.hid (fun (W : World) (S1 : Nat → Prop) (o : List UInt8) (hq : WrQ W S1 p o) (hvv : IsV W (fun b => b < p) v (.slice a v.l.length cap)) (ho : o.length + (rowF v.l).length ≤ 1000000) => rowW hq hvv HX ho)
 have HL := Lib.hid hl'
 clear h hb hv HX hl hk hn0 hs0 hl'
 generalize hrf : rowF v.l = rf at *
 generalize hvl : v.l.length = m at *
 clear hrf hvl
 go_enter Tryz.func19, Tryz.ntmps19
 go_upto_region 1 with fail
 obtain ⟨B, hB⟩ : ∃ B, B = w.heap.size := ⟨_, rfl⟩
 rw [← hB] at HK HNS ⊢
 clear hB
 generalize w.alloc _ = W1 at *
 obtain ⟨⟨c0, c1, c2, c3⟩, -⟩ := cells4 HK.out
 go_wp2_with fail
 refine HW.out.mono ?_
 rintro e w2 ⟨rfl, hN2⟩
 obtain ⟨S2, hq2, hk2, hs2⟩ := hN2
 have HK2 := Lib.hid ((hk2.block B (lt_of_heapS HK.out) HNS.out).trans HK.out)
 have HR2 := Lib.hid (HR.out w2 S2 _ hq2 (HVB.out.wr HQB.out hk2) (by have := HL.out; simp; omega))
 have HF2 := Lib.hid (⟨hk2, hs2⟩ : _ ∧ _)
 clear hq2 hk2 hs2 HR HW HK HVB HQB HNS c0 c1 c2 c3
 obtain ⟨⟨c0, c1, c2, c3⟩, -⟩ := cells4 HK2.out
 go_wp2_with fail
 refine HR2.out.mono ?_
 rintro e w3 ⟨rfl, hN3⟩
 obtain ⟨S3, hq3, hk3, hs3⟩ := hN3
 have HW3 := Lib.hid (writeByteW hq3 93 93 rfl (by have := HL.out; simp; omega))
 have HF3 := Lib.hid (⟨hk3, hs3⟩ : _ ∧ _)
 clear hq3 hk3 hs3 HR2 HK2 c0 c1 c2 c3
 go_wp2_with fail
 refine HW3.out.mono ?_
 rintro e w4 ⟨rfl, hN4⟩
 have HN4 := Lib.hid (show WrNext w S p (out ++ 91 :: (rf ++ [93])) w4 by
   have h5 := WrNext.above HB.out (WrNext.trans HF2.out.1 HF2.out.2 (WrNext.trans HF3.out.1 HF3.out.2 hN4))
   simpa using h5)
 clear hN4
 go_wp2
 go_end0
 exact ⟨rfl, HN4.out⟩
theorem value_w7 {v : PV} (h : WrQ w S p out) (hk : v.kind = 7) (hn0 : v.n = 0) (hs0 : v.s = []) (hv : IsV w (fun b => b < p) v (.slice a v.l.length cap)) (HX : ∀ (k : Nat) (x : PV), v.l[k]? = some x → ValW p x) (hl : out.length + (60 :: 60 :: (rowF v.l ++ [62, 62])).length ≤ 1000000) :
   Calls Tryz.prog 19 #[.pointer (some ⟨p, 0, none⟩), pvA v (.slice a v.l.length cap)] w fun e w' => e = .returned (.tuple #[]) ∧ WrNext w S p (out ++ 60 :: 60 :: (rowF v.l ++ [62, 62])) w' := by
 unfold pvA
 rw [hk, hn0, hs0, show mkB [] = ⟨#[]⟩ from rfl]
 have hb := belowA w (.cells #[.int .i64 7, .int .i64 0, .string ⟨#[]⟩, .slice a v.l.length cap] 24)
 have HB := Lib.hid hb
 have hl' : out.length + (rowF v.l).length + 4 ≤ 1000000 := by simp only [List.length_cons, List.length_append, List.length_nil] at hl; omega
 have HW := Lib.hid (writeStrW (h.keep hb) [60, 60] (by simp; omega))
 rw [show mkB [60, 60] = ⟨#[60, 60]⟩ from rfl] at HW
 have HK := Lib.hid (heapA_new (w := w) (b := w.heap.size) (.cells #[.int .i64 7, .int .i64 0, .string ⟨#[]⟩, .slice a v.l.length cap] 24) rfl)
 have HVB := Lib.hid (hv.below hb)
 have HQB := Lib.hid (h.keep hb)
 have HNS := Lib.hid (show ¬ S w.heap.size from fun hS => by have := (h.lt hS).2; omega)
 have HR := Lib.hid (fun (W : World) (S1 : Nat → Prop) (o : List UInt8) (hq : WrQ W S1 p o) (hvv : IsV W (fun b => b < p) v (.slice a v.l.length cap)) (ho : o.length + (rowF v.l).length ≤ 1000000) => rowW hq hvv HX ho)
 have HL := Lib.hid hl'
 clear h hb hv HX hl hk hn0 hs0 hl'
 generalize hrf : rowF v.l = rf at *
 generalize hvl : v.l.length = m at *
 clear hrf hvl
 go_enter Tryz.func19, Tryz.ntmps19
 go_upto_region 1 with fail
 obtain ⟨B, hB⟩ : ∃ B, B = w.heap.size := ⟨_, rfl⟩
 rw [← hB] at HK HNS ⊢
 clear hB
 generalize w.alloc _ = W1 at *
 obtain ⟨⟨c0, c1, c2, c3⟩, -⟩ := cells4 HK.out
 go_wp2_with fail
 refine HW.out.mono ?_
 rintro e w2 ⟨rfl, hN2⟩
 obtain ⟨S2, hq2, hk2, hs2⟩ := hN2
 have HK2 := Lib.hid ((hk2.block B (lt_of_heapS HK.out) HNS.out).trans HK.out)
 have HR2 := Lib.hid (HR.out w2 S2 _ hq2 (HVB.out.wr HQB.out hk2) (by have := HL.out; simp; omega))
 have HF2 := Lib.hid (⟨hk2, hs2⟩ : _ ∧ _)
 clear hq2 hk2 hs2 HR HW HK HVB HQB HNS c0 c1 c2 c3
 obtain ⟨⟨c0, c1, c2, c3⟩, -⟩ := cells4 HK2.out
 go_wp2_with fail
 refine HR2.out.mono ?_
 rintro e w3 ⟨rfl, hN3⟩
 obtain ⟨S3, hq3, hk3, hs3⟩ := hN3
 have HW3 := Lib.hid (writeStrW hq3 [62, 62] (by have := HL.out; simp; omega))
 rw [show mkB [62, 62] = ⟨#[62, 62]⟩ from rfl] at HW3
 have HF3 := Lib.hid (⟨hk3, hs3⟩ : _ ∧ _)
 clear hq3 hk3 hs3 HR2 HK2 c0 c1 c2 c3
 go_wp2_with fail
 refine HW3.out.mono ?_
 rintro e w4 ⟨rfl, hN4⟩
 have HN4 := Lib.hid (show WrNext w S p (out ++ 60 :: 60 :: (rf ++ [62, 62])) w4 by
   have h5 := WrNext.above HB.out (WrNext.trans HF2.out.1 HF2.out.2 (WrNext.trans HF3.out.1 HF3.out.2 hN4))
   simpa using h5)
 clear hN4
 go_wp2
 go_end0
 exact ⟨rfl, HN4.out⟩
theorem value_w1a (h : WrQ w S p out) (hl : out.length + 5 ≤ 1000000) :
   Calls Tryz.prog 19 #[.pointer (some ⟨p, 0, none⟩), .agg #[.int .i64 1, .int .i64 0, .string ⟨#[]⟩, .slice a 0 cap]] w fun e w' => e = .returned (.tuple #[]) ∧ WrNext w S p (out ++ [102, 97, 108, 115, 101]) w' := by
 have hb := belowA w (.cells #[.int .i64 1, .int .i64 0, .string ⟨#[]⟩, .slice a 0 cap] 24)
 have HB := Lib.hid hb
 have HK := Lib.hid (heapA_new (w := w) (b := w.heap.size) (.cells #[.int .i64 1, .int .i64 0, .string ⟨#[]⟩, .slice a 0 cap] 24) rfl)
 have HQ := Lib.hid (fun (W : World) (hW : Below w.heap.size w W) => writeStrW (h.keep hW) [102, 97, 108, 115, 101] (by simp; omega))
 rw [show mkB [102, 97, 108, 115, 101] = ⟨#[102, 97, 108, 115, 101]⟩ from rfl] at HQ
 have HNS := Lib.hid (show ¬ S w.heap.size from fun hS => by have := (h.lt hS).2; omega)
 clear h hb
 go_enter Tryz.func19, Tryz.ntmps19
 go_upto_region 1 with fail
 obtain ⟨B, hB⟩ : ∃ B, B = w.heap.size := ⟨_, rfl⟩
 rw [← hB] at HK HNS ⊢
 clear hB
 generalize w.alloc _ = W1 at *
 obtain ⟨⟨c0, c1, c2, c3⟩, -⟩ := cells4 HK.out
 have HA := Lib.hid (belowA W1 (.cells #[.string ⟨#[102, 97, 108, 115, 101]⟩, .string ⟨#[116, 114, 117, 101]⟩] 9))
 have HC := Lib.hid (cell?_keep HA.out c1)
 have HKA := Lib.hid (heapA_old (.cells #[.string ⟨#[102, 97, 108, 115, 101]⟩, .string ⟨#[116, 114, 117, 101]⟩] 9) HK.out)
 have HD := Lib.hid (show Below w.heap.size w (W1.alloc (.cells #[.string ⟨#[102, 97, 108, 115, 101]⟩, .string ⟨#[116, 114, 117, 101]⟩] 9)).drew from (HB.out.trans (HA.out.mono HB.out.size)).drew)
 have HF := Lib.hid (fun (w3 : World) (hN : WrNext (W1.alloc (.cells #[.string ⟨#[102, 97, 108, 115, 101]⟩, .string ⟨#[116, 114, 117, 101]⟩] 9)).drew S p (out ++ [102, 97, 108, 115, 101]) w3) => show WrNext w S p (out ++ [102, 97, 108, 115, 101]) w3 ∧ w3.cell? ⟨B, 1, none⟩ = some (.int .i64 0) by
   obtain ⟨S3, q3, k3, s3⟩ := hN
   refine ⟨WrNext.above HD.out ⟨S3, q3, k3, s3⟩, ?_⟩
   have h3 : w3.heap[B]? = _ := (k3.block B (by show B < (W1.alloc _).heap.size; exact lt_of_heapS HKA.out) HNS.out).trans HKA.out
   rw [cell_of_row w3 B 1 _ _ _ h3]; rfl)
 have hc5 := HC.out
 have hs5 : (W1.alloc (.cells #[.string ⟨#[102, 97, 108, 115, 101]⟩, .string ⟨#[116, 114, 117, 101]⟩] 9)).cell? ⟨W1.heap.size, 0, none⟩ = some (.string ⟨#[102, 97, 108, 115, 101]⟩) := by
   rw [cell_of_row _ _ 0 _ _ _ (heapA_new _ rfl)]; rfl
 go_wp2
 go_region_with ((go_at_call 32; (with_reducible refine (HQ.out _ HD.out).mono ?_); rintro e w3 ⟨rfl, hN3⟩; have HN3 := Lib.hid (HF.out _ hN3).1; clear hN3))
 all_goals
   go_wp2
   go_end0
   exact ⟨rfl, HN3.out⟩
theorem value_w1b (h : WrQ w S p out) (hl : out.length + 4 ≤ 1000000) :
   Calls Tryz.prog 19 #[.pointer (some ⟨p, 0, none⟩), .agg #[.int .i64 1, .int .i64 1, .string ⟨#[]⟩, .slice a 0 cap]] w fun e w' => e = .returned (.tuple #[]) ∧ WrNext w S p (out ++ [116, 114, 117, 101]) w' := by
 have hb := belowA w (.cells #[.int .i64 1, .int .i64 1, .string ⟨#[]⟩, .slice a 0 cap] 24)
 have HB := Lib.hid hb
 have HK := Lib.hid (heapA_new (w := w) (b := w.heap.size) (.cells #[.int .i64 1, .int .i64 1, .string ⟨#[]⟩, .slice a 0 cap] 24) rfl)
 have HQ := Lib.hid (fun (W : World) (hW : Below w.heap.size w W) => writeStrW (h.keep hW) [116, 114, 117, 101] (by simp; omega))
 rw [show mkB [116, 114, 117, 101] = ⟨#[116, 114, 117, 101]⟩ from rfl] at HQ
 have HNS := Lib.hid (show ¬ S w.heap.size from fun hS => by have := (h.lt hS).2; omega)
 clear h hb
 go_enter Tryz.func19, Tryz.ntmps19
 go_upto_region 1 with fail
 obtain ⟨B, hB⟩ : ∃ B, B = w.heap.size := ⟨_, rfl⟩
 rw [← hB] at HK HNS ⊢
 clear hB
 generalize w.alloc _ = W1 at *
 obtain ⟨⟨c0, c1, c2, c3⟩, -⟩ := cells4 HK.out
 have HA := Lib.hid (belowA W1 (.cells #[.string ⟨#[102, 97, 108, 115, 101]⟩, .string ⟨#[116, 114, 117, 101]⟩] 9))
 have HC := Lib.hid (cell?_keep HA.out c1)
 have HKA := Lib.hid (heapA_old (.cells #[.string ⟨#[102, 97, 108, 115, 101]⟩, .string ⟨#[116, 114, 117, 101]⟩] 9) HK.out)
 have HD := Lib.hid (show Below w.heap.size w (W1.alloc (.cells #[.string ⟨#[102, 97, 108, 115, 101]⟩, .string ⟨#[116, 114, 117, 101]⟩] 9)).drew from (HB.out.trans (HA.out.mono HB.out.size)).drew)
 have HF := Lib.hid (fun (w3 : World) (hN : WrNext (W1.alloc (.cells #[.string ⟨#[102, 97, 108, 115, 101]⟩, .string ⟨#[116, 114, 117, 101]⟩] 9)).drew S p (out ++ [116, 114, 117, 101]) w3) => show WrNext w S p (out ++ [116, 114, 117, 101]) w3 ∧ w3.cell? ⟨B, 1, none⟩ = some (.int .i64 1) by
   obtain ⟨S3, q3, k3, s3⟩ := hN
   refine ⟨WrNext.above HD.out ⟨S3, q3, k3, s3⟩, ?_⟩
   have h3 : w3.heap[B]? = _ := (k3.block B (by show B < (W1.alloc _).heap.size; exact lt_of_heapS HKA.out) HNS.out).trans HKA.out
   rw [cell_of_row w3 B 1 _ _ _ h3]; rfl)
 have hc5 := HC.out
 have hs5 : (W1.alloc (.cells #[.string ⟨#[102, 97, 108, 115, 101]⟩, .string ⟨#[116, 114, 117, 101]⟩] 9)).cell? ⟨W1.heap.size, 1, none⟩ = some (.string ⟨#[116, 114, 117, 101]⟩) := by
   rw [cell_of_row _ _ 1 _ _ _ (heapA_new _ rfl)]; rfl
 go_wp2
 go_region_with ((go_at_call 32; (with_reducible refine (HQ.out _ HD.out).mono ?_); rintro e w3 ⟨rfl, hN3⟩; have HN3 := Lib.hid (HF.out _ hN3).1; clear hN3))
 all_goals
   go_wp2
   go_end0
   exact ⟨rfl, HN3.out⟩
end
theorem valueW (p : Nat) : ∀ (N : Nat) (v : PV), SizeOf.sizeOf v ≤ N → firstC v = 0 → ValW p v := by
 intro N
 induction N with
 | zero => intro v h; obtain ⟨_, _, _, _⟩ := v; simp at h
 | succ N ih =>
 intro v hN hf sx W S o hv hq hl
 obtain ⟨a, cap, e1, -, -, -⟩ := hv.len
 subst e1
 have HX : (v.kind = 6 ∨ v.kind = 7) → ∀ (k : Nat) (x : PV), v.l[k]? = some x → ValW p x := fun hk k x hx => ih x (by have := sizeOf_mem hx; omega) (first_memS hf hk hx)
 have ho := own_casesS (firstC_ownS hf)
 rcases ho with ⟨h1, h2, h3, h4⟩ | ⟨h1, h2, h3, h4⟩ | ⟨h1, h2, h3, h4⟩ | ⟨h1, h2, h4⟩ | ⟨h1, -, h2, h4⟩ | ⟨h1, h2, h3⟩ | ⟨h1, h2, h3⟩ | ⟨h1, h2, h3, h4⟩
 · obtain ⟨k, n, s, l⟩ := v
   simp only [PV.kind, PV.n, PV.s, PV.l] at h1 h2 h3 h4
   subst h1 h2 h3 h4
   have e : formV (.mk 0 0 [] []) = [110, 117, 108, 108] := by simp [formV]
   rw [e] at hl ⊢
   exact value_w0 hq (by simpa using hl)
 · obtain ⟨k, n, s, l⟩ := v
   simp only [PV.kind, PV.n, PV.s, PV.l] at h1 h2 h3 h4
   subst h1 h3 h4
   rcases h2 with rfl | rfl
   · have e : formV (.mk 1 0 [] []) = [102, 97, 108, 115, 101] := by simp [formV]
     rw [e] at hl ⊢
     exact value_w1a hq (by simpa using hl)
   · have e : formV (.mk 1 1 [] []) = [116, 114, 117, 101] := by simp [formV]
     rw [e] at hl ⊢
     exact value_w1b hq (by simpa using hl)
 · obtain ⟨k, n, s, l⟩ := v
   simp only [PV.kind, PV.n, PV.s, PV.l] at h1 h2 h3 h4
   subst h3 h4
   have e : formV (.mk k n [] []) = (printV k n true).1 := by rcases h1 with rfl | rfl <;> simp [formV]
   rw [e] at hl ⊢
   exact value_wn hq k n h1 hl
 · obtain ⟨k, n, s, l⟩ := v
   simp only [PV.kind, PV.n, PV.l] at h1 h2 h4
   subst h1 h2 h4
   have e : formV (.mk 4 0 s []) = textF s := by simp [formV]
   rw [e] at hl ⊢
   exact value_w4 hq s hl
 · obtain ⟨k, n, s, l⟩ := v
   simp only [PV.kind, PV.n, PV.l] at h1 h2 h4
   subst h1 h2 h4
   have e : formV (.mk 5 0 s []) = 47 :: nameF s := by simp [formV]
   rw [e] at hl ⊢
   exact value_w5 hq s hl
 · have e : formV v = 91 :: (rowF v.l ++ [93]) := by
     obtain ⟨k, n, s, l⟩ := v
     simp only [PV.kind] at h1
     subst h1
     simp [formV, PV.l]
   rw [e] at hl ⊢
   exact value_w6 hq h1 h2 h3 hv (HX (.inl h1)) hl
 · have e : formV v = 60 :: 60 :: (rowF v.l ++ [62, 62]) := by
     obtain ⟨k, n, s, l⟩ := v
     simp only [PV.kind] at h1
     subst h1
     simp [formV, PV.l]
   rw [e] at hl ⊢
   exact value_w7 hq h1 h2 h3 hv (HX (.inr h1)) hl
 · obtain ⟨k, n, s, l⟩ := v
   simp only [PV.kind, PV.n, PV.s, PV.l] at h1 h2 h3 h4
   subst h1 h3 h4
   have e : formV (.mk 8 n [] []) = (printV 2 n true).1 ++ [32, 48, 32, 82] := by simp [formV]
   rw [e] at hl ⊢
   exact value_w8 hq n hl
theorem printNe {k : Int} (h1 : k = 2 ∨ k = 3) (n : Int) : (signL n ++ absL k n.natAbs, (0 : Int)).1 ≠ [] := by
 intro e
 have hl := congrArg List.length e
 have h2 := (decL_spec n.natAbs).2.2
 simp only [List.length_append, List.length_nil] at hl
 rcases h1 with rfl | rfl
 · simp only [absL, if_pos] at hl
   omega
 · simp [absL] at hl
def showV (v : PV) : List UInt8 × Int := if checkC v ≠ 0 then ([], checkC v) else (formV v, 0)
theorem formV_ne {v : PV} (h : firstC v = 0) : formV v ≠ [] := by
 have ho := own_casesS (firstC_ownS h)
 obtain ⟨k, n, s, l⟩ := v
 simp only [PV.kind, PV.n, PV.s, PV.l] at ho
 rcases ho with ⟨h1, -⟩ | ⟨h1, h2, -⟩ | ⟨h1, h2, -⟩ | ⟨h1, -⟩ | ⟨h1, -⟩ | ⟨h1, -⟩ | ⟨h1, -⟩ | ⟨h1, h2, -⟩
 · subst h1; simp [formV]
 · subst h1; rcases h2 with rfl | rfl <;> simp [formV]
 · have e : formV (.mk k n s l) = (printV k n true).1 := by rcases h1 with rfl | rfl <;> simp [formV]
   rw [e, printV_ok h2]
   exact printNe h1 n
 · subst h1
   have := textF_ge s
   simp [formV]
   intro e
   rw [e] at this
   simp at this
 · subst h1; simp [formV]
 · subst h1; simp [formV]
 · subst h1; simp [formV]
 · subst h1; simp [formV]
theorem wr_new (w : World) {p : Nat} (hp : p = w.heap.size) : WrQ (w.alloc (.cells #[.pointer none, .slice none 0 0] 48)) (fun b => b = p) p [] :=
 ⟨.pointer none, .slice none 0 0, heapA_new _ hp, .inl rfl, World.ownsRow_nil _ _ _ _, fun b hb => (by cases hb), rfl, fun b hb => by rw [hb, sizeA, hp]; omega⟩
theorem keeps_bel {w w1 w2 : World} {S : Nat → Prop} {p : Nat} (hb : Below w.heap.size w w1) (hk : Keeps S w1 w2) (hS : ∀ b, S b → p ≤ b) (hp : w.heap.size ≤ p) : Below w.heap.size w w2 :=
 hb.trans ⟨hk.os, hk.tape, hk.output, hk.size, fun b hb2 => hk.block b (Nat.lt_of_lt_of_le hb2 hb.size) (fun h => by have := hS b h; omega)⟩
theorem showValue_any {v : PV} {sl : Value} {w : World} (hv : IsV w anyF v sl) (hd : depthV v ≤ 1000) (hl : (formV v).length ≤ 1000000) :
   Calls Tryz.prog 6 #[pvA v sl] w fun e w' => e = .returned (.tuple #[.string (mkB (showV v).1), .int .i64 (showV v).2]) ∧ Below w.heap.size w w' := by
 have HC := Lib.hid (fun (W : World) (h : Below w.heap.size w W) => vcheck_any (hv.below h) hd)
 have HVV := Lib.hid (IsV.ltS v hv)
 obtain ⟨R, hR⟩ : ∃ R, R = showV v := ⟨_, rfl⟩
 rw [← hR]
 unfold showV at hR
 have HR := Lib.hid hR
 have HW := Lib.hid (fun (p : Nat) (hc : checkC v = 0) => valueW p _ v (Nat.le_refl _) (by unfold checkC at hc; split at hc; cases hc; exact hc))
 have HNE := Lib.hid (fun (hc : checkC v = 0) => formV_ne (v := v) (by unfold checkC at hc; split at hc; cases hc; exact hc))
 obtain ⟨a1, cap1, rfl, -, -, -⟩ := hv.len
 unfold pvA at HC ⊢
 unfold ValW pvA at HW
 clear hv hR
 generalize checkC v = cc at *
 generalize formV v = fv at *
 generalize v.kind = k0 at *
 generalize v.n = n0 at *
 generalize mkB v.s = s0 at *
 generalize v.l.length = m at *
 go_enter Tryz.func6, Tryz.ntmps6
 obtain ⟨B, hB⟩ : ∃ B, B = w.heap.size := ⟨_, rfl⟩
 have HX1 := Lib.hid (heapA_new (w := w) (b := B) (.cells #[.int .i64 k0, .int .i64 n0, .string s0, .slice a1 m cap1] 24) hB)
 have HW1 := Lib.hid (belowA w (.cells #[.int .i64 k0, .int .i64 n0, .string s0, .slice a1 m cap1] 24))
 go_upto_region 1 with fail
 rw [← hB]
 clear hB
 generalize w.alloc _ = W1 at *
 obtain ⟨⟨c0, c1, c2, c3⟩, -⟩ := cells4 HX1.out
 go_wp2_with fail
 refine (HC.out _ HW1.out).mono ?_
 rintro e w2 ⟨rfl, hb2⟩
 have HX2 := Lib.hid (block_keep hb2 HX1.out)
 have HW2 := Lib.hid (HW1.out.trans (hb2.mono HW1.out.size))
 clear hb2 c0 c1 c2 c3 HX1 HW1 HC
 have hR := HR.out
 by_cases hc : cc = 0
 case neg =>
   have e0 : (cc == 0) = false := by rw [beq_eq_false_iff_ne]; exact hc
   have e1 : (cc != 0) = true := by simp only [bne, e0, Bool.not_false]
   rw [if_pos hc] at hR
   subst hR
   clear HR HW HNE HVV hc
   go_wp2
   go_ret2
   exact ⟨rfl, HW2.out⟩
 rw [if_neg (by simpa using hc)] at hR
 subst hR
 have HWV := Lib.hid (fun p => HW.out p hc)
 have HNN := Lib.hid (HNE.out hc)
 subst hc
 clear HR HW HNE
 have HP3 := Lib.hid (wr_new w2 (p := w2.heap.size) rfl)
 have hb3 := belowA w2 (.cells #[.pointer none, .slice none 0 0] 48)
 have HX3 := Lib.hid (block_keep hb3 HX2.out)
 have HW3 := Lib.hid (HW2.out.trans (hb3.mono HW2.out.size))
 have HPB := Lib.hid (show B < w2.heap.size from lt_of_heapS HX2.out)
 have HPW := Lib.hid HW2.out.size
 clear hb3 HX2
 go_upto_region 5 with fail
 obtain ⟨p, hp⟩ : ∃ p, p = w2.heap.size := ⟨_, rfl⟩
 rw [← hp] at HP3 HPB HPW ⊢
 clear hp
 generalize w2.alloc _ = W3 at *
 have HV3 := Lib.hid (IsV.keep (G := fun b => b < p) (Stays.of_below HW3.out) (fun b hb => by have := hb.2; have := HPW.out; omega) _ HVV.out)
 have HCALL := Lib.hid (HWV.out p _ W3 _ [] HV3.out HP3.out (by simpa using hl))
 rw [List.nil_append] at HCALL
 obtain ⟨⟨c0, c1, c2, c3⟩, -⟩ := cells4 HX3.out
 clear HVV HV3 HWV
 go_wp2_with fail
 refine HCALL.out.mono ?_
 rintro e w4 ⟨rfl, hN4⟩
 obtain ⟨S4, q4, k4, s4⟩ := hN4
 have HW4 := Lib.hid (keeps_bel HW3.out k4 (p := p) (fun b hb => by rw [hb]; exact Nat.le_refl _) HPW.out)
 have HSTR := Lib.hid (stringW q4 HNN.out)
 have HS4 := Lib.hid (fun b hb => (q4.lt (b := b) hb).1)
 clear q4 k4 s4 HCALL c0 c1 c2 c3
 go_wp2_with fail
 refine HSTR.out.mono ?_
 rintro e w5 ⟨rfl, k5⟩
 have HW5 := Lib.hid (keeps_bel HW4.out k5 HS4.out HPW.out)
 clear k5
 go_wp2
 go_ret2
 exact ⟨rfl, HW5.out⟩
theorem nameOf_any (s : ByteArray) (w : World) : Calls Tryz.prog 13 #[.string s] w fun e w' => e = .returned (.agg #[.int .i64 5, .int .i64 0, .string s, .slice none 0 0]) ∧ Below w.heap.size w w' := by
 go_enter Tryz.func13, Tryz.ntmps13
 go_wp2
 refine bodyPost_ret (results_cell_row rfl _ _ w.heap.size 24 _ (0, 0) _ rfl (heapA_new _ rfl) Tryz.underlying24 rfl (by kernel_rfl)) rfl ?_
 exact ⟨rfl, belowA _ _⟩
theorem refTo_any (n : Int) (w : World) : Calls Tryz.prog 17 #[.int .i64 n] w fun e w' => e = .returned (.agg #[.int .i64 8, .int .i64 n, .string ⟨#[]⟩, .slice none 0 0]) ∧ Below w.heap.size w w' := by
 go_enter Tryz.func17, Tryz.ntmps17
 go_wp2
 refine bodyPost_ret (results_cell_row rfl _ _ w.heap.size 24 _ (0, 0) _ rfl (heapA_new _ rfl) Tryz.underlying24 rfl (by kernel_rfl)) rfl ?_
 exact ⟨rfl, belowA _ _⟩
theorem showLen_any {v : PV} {sl : Value} {w : World} (hv : IsV w anyF v sl) (hd : depthV v ≤ 1000) (hl : (formV v).length ≤ 1000000) :
   Calls Tryz.prog 16 #[pvA v sl] w fun e w' => e = .returned (.int .i64 (showV v).1.length) ∧ Below w.heap.size w w' := by
 have HV := Lib.hid (fun (W : World) (h : Below w.heap.size w W) => showValue_any (hv.below h) hd hl)
 obtain ⟨a1, cap1, rfl, -, -, -⟩ := hv.len
 unfold pvA at HV ⊢
 have hsz : ((mkB (showV v).1).size : Int) = (showV v).1.length := by rw [mkB_size]
 clear hv
 obtain ⟨m2, hm2⟩ : ∃ m2, m2 = (showV v).1.length := ⟨_, rfl⟩
 rw [← hm2] at hsz ⊢
 have HS := Lib.hid hsz
 clear hm2 hsz
 generalize showV v = R at *
 obtain ⟨t, er⟩ := R
 simp only at HV HS
 generalize mkB t = sb at *
 generalize v.kind = k0 at *
 generalize v.n = n0 at *
 generalize mkB v.s = s0 at *
 generalize v.l.length = m at *
 go_enter Tryz.func16, Tryz.ntmps16
 obtain ⟨B, hB⟩ : ∃ B, B = w.heap.size := ⟨_, rfl⟩
 have HX1 := Lib.hid (heapA_new (w := w) (b := B) (.cells #[.int .i64 k0, .int .i64 n0, .string s0, .slice a1 m cap1] 24) hB)
 have HW1 := Lib.hid (belowA w (.cells #[.int .i64 k0, .int .i64 n0, .string s0, .slice a1 m cap1] 24))
 go_upto_region 1 with fail
 rw [← hB]
 clear hB
 generalize w.alloc _ = W1 at *
 obtain ⟨⟨c0, c1, c2, c3⟩, -⟩ := cells4 HX1.out
 go_wp2_with (go_at_call 6; refine (HV.out _ HW1.out).mono ?_; rintro e w2 ⟨rfl, hb2⟩)
 go_ret
 exact ⟨ret_int HS.out, HW1.out.trans (hb2.mono HW1.out.size)⟩
theorem showText_any (s : List UInt8) (w : World) (hl : s.length ≤ 100000) :
   Calls Tryz.prog 15 #[.string (mkB s)] w fun e w' => e = .returned (.string (mkB (textF s))) ∧ Below w.heap.size w w' := by
 have HT := Lib.hid (textW (wr_new w (p := w.heap.size) rfl) s (by simp; omega))
 rw [List.nil_append] at HT
 have hne : textF s ≠ [] := fun e => by have := textF_ge s; rw [e] at this; simp at this
 have HNN := Lib.hid hne
 have HW1 := Lib.hid (belowA w (.cells #[.pointer none, .slice none 0 0] 48))
 clear hne
 generalize textF s = t at *
 generalize mkB s = sb at *
 go_enter Tryz.func15, Tryz.ntmps15
 obtain ⟨p, hp⟩ : ∃ p, p = w.heap.size := ⟨_, rfl⟩
 have HPW := Lib.hid (Nat.le_of_eq hp.symm)
 rw [← hp] at HT
 go_upto_region 2 with fail
 rw [← hp]
 clear hp
 generalize w.alloc _ = W1 at *
 go_wp2_with fail
 refine HT.out.mono ?_
 rintro e w2 ⟨rfl, hN⟩
 obtain ⟨S4, q4, k4, s4⟩ := hN
 have HW4 := Lib.hid (keeps_bel HW1.out k4 (p := p) (fun b hb => by rw [hb]; exact Nat.le_refl _) HPW.out)
 have HSTR := Lib.hid (stringW q4 HNN.out)
 have HS4 := Lib.hid (fun b hb => (q4.lt (b := b) hb).1)
 clear q4 k4 s4 HT
 go_wp2_with fail
 refine HSTR.out.mono ?_
 rintro e w5 ⟨rfl, k5⟩
 have HW5 := Lib.hid (keeps_bel HW4.out k5 HS4.out HPW.out)
 clear k5
 go_wp2
 go_ret
 exact ⟨rfl, HW5.out⟩
theorem EPVs : ElemT Tryz.prog 22 24 (.agg #[.int .i64 0, .int .i64 0, .string ⟨#[]⟩, .slice none 0 0]) 4 56 := ⟨Tryz.underlying22, by kernel_rfl, rfl, by omega⟩
theorem vfind_nil (key : ByteArray) (w : World) : Calls Tryz.prog 51 #[.agg #[.int .i64 7, .int .i64 0, .string ⟨#[]⟩, .slice none 0 0], .string key] w fun e w' => e = .returned (.int .i64 (-1)) ∧ Below w.heap.size w w' := by
 have HW := Lib.hid (belowA w (.cells #[.int .i64 7, .int .i64 0, .string ⟨#[]⟩, .slice none 0 0] 24))
 have HX := Lib.hid (heapA_new (w := w) (b := w.heap.size) (.cells #[.int .i64 7, .int .i64 0, .string ⟨#[]⟩, .slice none 0 0] 24) rfl)
 go_enter Tryz.func51, Tryz.ntmps51
 go_upto_region 1 with fail
 obtain ⟨B, hB⟩ : ∃ B, B = w.heap.size := ⟨_, rfl⟩
 rw [← hB] at HX ⊢
 clear hB
 generalize w.alloc _ = W1 at *
 obtain ⟨⟨c0, c1, c2, c3⟩, -⟩ := cells4 HX.out
 go_wp2
 go_loopw [5] (fun vk wr => vk = .int .i64 0 ∧ wr = W1) (fun _ _ => 0)
 case atStart => exact ⟨rfl, rfl⟩
 case round =>
   obtain ⟨rfl, hwr⟩ := hrel
   rw [hwr]
   clear hwr
   go_wp2
   go_ret
   exact ⟨rfl, HW.out⟩
theorem clone_nilS (w : World) : Calls Tryz.prog 50 #[.slice none 0 0] w fun e w' => e = .returned (.slice none 0 0) ∧ w = w' := by
 have hnil := fun W : World => Lib.run_eql_slice_nil (P := Tryz.prog) W 22 24 none 0 0 0 0 Tryz.underlying22
 go_enter Tryz.func50, Tryz.ntmps50
 go_wp2
 go_ret
 exact ⟨rfl, rfl⟩
theorem insert_nilS {w : World} {a : Option Addr} {cs : List Value} (hr : Row w 4 a 2 2 cs) (h1 : ∀ u ∈ cs, u.oneCell' = true) :
   Calls Tryz.prog 53 #[.slice none 0 0, .int .i64 0, .slice a 2 2] w fun e w' => ∃ v, e = .returned v ∧ w'.ownsRow w.heap.size 24 4 v 2 cs ∧ Below w.heap.size w w' := by
 have HR := Lib.hid hr
 have H1 := Lib.hid h1
 clear hr h1
 go_enter Tryz.func53, Tryz.ntmps53
 go_wp2_with (at_builtin; refine append_row EPVs rfl _ _ rfl w.heap.size _ 0 [] rfl (World.ownsRow_nil _ _ _ _) a 2 2 cs rfl HR.out H1.out (by unfold maxLen; omega) (by omega) (Nat.le_refl _) ?_; intro v' w5 hO5 hg5 _; have HO5 := Lib.hid hO5; have HB5 := Lib.hid ((Below.refl w.heap.size w).grown hg5 (Nat.le_refl _) (fun q hq => (by cases hq))); clear hO5 hg5)
 go_ret
 exact ⟨_, rfl, HO5.out, HB5.out⟩
def dict1 : PV := .mk 7 0 [] [.mk 5 0 [65] [], .mk 2 7 [] []]
def cs1 : List Value := [.int .i64 5, .int .i64 0, .string ⟨#[65]⟩, .slice none 0 0, .int .i64 2, .int .i64 7, .string ⟨#[]⟩, .slice none 0 0]
theorem cs1_one : ∀ u ∈ cs1, u.oneCell' = true := by
 intro u hu
 simp [cs1] at hu
 rcases hu with rfl | rfl | rfl | rfl | rfl | rfl | rfl | rfl <;> rfl
theorem cs1_vals (w : World) (F : Nat → Prop) : IsVs w F dict1.l cs1 :=
 ⟨.slice none 0 0, _, rfl, IsV.leaf _ _ _ rfl, .slice none 0 0, [], rfl, IsV.leaf _ _ _ rfl, rfl⟩
theorem row_two (w : World) (cs : Array Value) (e : TypeId) (hn : cs.size = 8) {b : Nat} (hb : b = w.heap.size) : Row (w.alloc (.cells cs e)) 4 (some ⟨b, 0, none⟩) 2 2 cs.toList := by
 subst hb
 exact ⟨by simp [hn], Nat.le_refl _, by simp [maxLen], fun h => (by cases h), fun _ => ⟨w.heap.size, 0, rfl, by rw [sizeA]; omega, fun j u hj => by
   rw [Nat.zero_add, cell_of_row _ _ _ _ _ _ (heapA_new _ rfl)]; simpa using hj⟩⟩
def SP (w : World) (B : Nat) : Prop := w.cell? ⟨B, 3, none⟩ = some (.slice none 0 0) ∧ w.cell? ⟨B + 1, 0, none⟩ = some (.int .i64 2) ∧ w.cell? ⟨B + 1, 1, none⟩ = some (.int .i64 7) ∧ w.cell? ⟨B + 1, 2, none⟩ = some (.string ⟨#[]⟩) ∧ w.cell? ⟨B + 1, 3, none⟩ = some (.slice none 0 0)
theorem SP.below {w w' : World} {B : Nat} (h : SP w B) (hb : Below w.heap.size w w') : SP w' B := ⟨cell?_keep hb h.1, cell?_keep hb h.2.1, cell?_keep hb h.2.2.1, cell?_keep hb h.2.2.2.1, cell?_keep hb h.2.2.2.2⟩
theorem SP.drew {w : World} {B : Nat} (h : SP w B) : SP w.drew B := h
theorem SP.alloc {w : World} {B : Nat} (h : SP w B) (o : Obj) : SP (w.alloc o) B := h.below (belowA w o)
theorem set4_otherS {W : World} {b r : Nat} (hb : b ≠ r) (y0 y1 y2 y3 : Value) : ((((W.setCell ⟨r, 0, none⟩ y0).setCell ⟨r, 1, none⟩ y1).setCell ⟨r, 2, none⟩ y2).setCell ⟨r, 3, none⟩ y3).heap[b]? = W.heap[b]? := by
 rw [heap_setCell_other _ _ _ _ hb, heap_setCell_other _ _ _ _ hb, heap_setCell_other _ _ _ _ hb, heap_setCell_other _ _ _ _ hb]
theorem set4_sizeS (w : World) (r : Nat) (y0 y1 y2 y3 : Value) : ((((w.setCell ⟨r, 0, none⟩ y0).setCell ⟨r, 1, none⟩ y1).setCell ⟨r, 2, none⟩ y2).setCell ⟨r, 3, none⟩ y3).heap.size = w.heap.size := by simp [World.setCell]
theorem put1_fin {w wI : World} {B Q : Nat} {v : Value} (hO : wI.ownsRow Q 24 4 v 2 cs1) (hQ : B + 3 ≤ Q) (hb : Below w.heap.size w wI) (hB : w.heap.size ≤ B) (y0 y1 y2 y3 : Value) :
   IsV (((((wI.setCell ⟨B, 3, none⟩ v).setCell ⟨B + 1 + 1, 0, none⟩ y0).setCell ⟨B + 1 + 1, 1, none⟩ y1).setCell ⟨B + 1 + 1, 2, none⟩ y2).setCell ⟨B + 1 + 1, 3, none⟩ y3) (fun b => w.heap.size ≤ b) dict1 v ∧
   Below w.heap.size w (((((wI.setCell ⟨B, 3, none⟩ v).setCell ⟨B + 1 + 1, 0, none⟩ y0).setCell ⟨B + 1 + 1, 1, none⟩ y1).setCell ⟨B + 1 + 1, 2, none⟩ y2).setCell ⟨B + 1 + 1, 3, none⟩ y3) := by
 refine ⟨?_, below_set4 (hb.setCell (by show w.heap.size ≤ B; omega) _) (by omega) _ _ _ _⟩
 obtain ⟨a, cap, rfl, hr, hbase⟩ := Row.of_owns hO
 have hst : Stays (fun b => Q ≤ b) wI (((((wI.setCell ⟨B, 3, none⟩ (.slice a 2 cap)).setCell ⟨B + 1 + 1, 0, none⟩ y0).setCell ⟨B + 1 + 1, 1, none⟩ y1).setCell ⟨B + 1 + 1, 2, none⟩ y2).setCell ⟨B + 1 + 1, 3, none⟩ y3) :=
   ⟨by rw [set4_sizeS]; simp [World.setCell], fun b _ hF => by
     have hF : Q ≤ b := hF
     rw [set4_otherS (by omega), heap_setCell_other _ _ _ _ (by show b ≠ B; omega)]⟩
 exact IsV.mk (v := dict1) (hr.stays hst (fun _ x hx => hbase x hx)) (fun _ x hx => by have := hbase x hx; show w.heap.size ≤ x.block; omega) (cs1_vals _ _)
theorem vput1 (w : World) : Calls Tryz.prog 26 #[.agg #[.int .i64 7, .int .i64 0, .string ⟨#[]⟩, .slice none 0 0], .string ⟨#[65]⟩, .agg #[.int .i64 2, .int .i64 7, .string ⟨#[]⟩, .slice none 0 0]] w fun e w' =>
   ∃ sl, e = .returned (pvA dict1 sl) ∧ IsV w' (fun b => w.heap.size ≤ b) dict1 sl ∧ Below w.heap.size w w' := by
 have HF := Lib.hid (fun W => vfind_nil ⟨#[65]⟩ W)
 have HC := Lib.hid (fun W => clone_nilS W)
 have HN := Lib.hid (fun W => nameOf_any ⟨#[65]⟩ W)
 have HI := Lib.hid (fun (W : World) (a : Option Addr) (h : Row W 4 a 2 2 cs1) => insert_nilS h cs1_one)
 obtain ⟨B, hB⟩ : ∃ B, B = w.heap.size := ⟨_, rfl⟩
 have HX1 := Lib.hid (show (((w.alloc (.cells #[.int .i64 7, .int .i64 0, .string ⟨#[]⟩, .slice none 0 0] 24)).alloc (.cells #[.int .i64 2, .int .i64 7, .string ⟨#[]⟩, .slice none 0 0] 24)).alloc (.cells #[.int .i64 0, .int .i64 0, .string ⟨#[]⟩, .slice none 0 0] 24)).heap[B]? = some (.cells #[.int .i64 7, .int .i64 0, .string ⟨#[]⟩, .slice none 0 0] 24 (0, 0)) from heapA_old _ (heapA_old _ (heapA_new _ hB)))
 have HX2 := Lib.hid (show (((w.alloc (.cells #[.int .i64 7, .int .i64 0, .string ⟨#[]⟩, .slice none 0 0] 24)).alloc (.cells #[.int .i64 2, .int .i64 7, .string ⟨#[]⟩, .slice none 0 0] 24)).alloc (.cells #[.int .i64 0, .int .i64 0, .string ⟨#[]⟩, .slice none 0 0] 24)).heap[B + 1]? = some (.cells #[.int .i64 2, .int .i64 7, .string ⟨#[]⟩, .slice none 0 0] 24 (0, 0)) from heapA_old _ (heapA_new _ (by rw [sizeA, hB])))
 have HX3 := Lib.hid (show (((w.alloc (.cells #[.int .i64 7, .int .i64 0, .string ⟨#[]⟩, .slice none 0 0] 24)).alloc (.cells #[.int .i64 2, .int .i64 7, .string ⟨#[]⟩, .slice none 0 0] 24)).alloc (.cells #[.int .i64 0, .int .i64 0, .string ⟨#[]⟩, .slice none 0 0] 24)).heap[B + 1 + 1]? = some (.cells #[.int .i64 0, .int .i64 0, .string ⟨#[]⟩, .slice none 0 0] 24 (0, 0)) from heapA_new _ (by rw [sizeA, sizeA, hB]))
 have HW := Lib.hid (belowA3 w (.cells #[.int .i64 7, .int .i64 0, .string ⟨#[]⟩, .slice none 0 0] 24) (.cells #[.int .i64 2, .int .i64 7, .string ⟨#[]⟩, .slice none 0 0] 24) (.cells #[.int .i64 0, .int .i64 0, .string ⟨#[]⟩, .slice none 0 0] 24))
 have HBB := Lib.hid (Nat.le_of_eq hB.symm)
 go_enter Tryz.func26, Tryz.ntmps26
 go_upto_region 1 with fail
 rw [← hB]
 clear hB
 generalize ((w.alloc _).alloc _).alloc _ = W1 at *
 obtain ⟨⟨c0, c1, c2, c3⟩, f0, f1, f2, f3⟩ := cells4 HX1.out
 obtain ⟨⟨d0, d1, d2, d3⟩, -⟩ := cells4 HX2.out
 go_wp2_with (go_at_call 50; refine (HC.out _).mono ?_; rintro e w' ⟨rfl, rfl⟩)
 have HX1b := Lib.hid (show (W1.setCell ⟨B, 3, none⟩ (.slice none 0 0)).heap[B]? = some (.cells #[.int .i64 7, .int .i64 0, .string ⟨#[]⟩, .slice none 0 0] 24 (0, 0)) by rw [heap_setCell_same W1 B 3 _ _ _ HX1.out]; rfl)
 have HX2b := Lib.hid (show (W1.setCell ⟨B, 3, none⟩ (.slice none 0 0)).heap[B + 1]? = some (.cells #[.int .i64 2, .int .i64 7, .string ⟨#[]⟩, .slice none 0 0] 24 (0, 0)) from (heap_setCell_other _ _ _ _ (by show B + 1 ≠ B; omega)).trans HX2.out)
 have HX3b := Lib.hid (show (W1.setCell ⟨B, 3, none⟩ (.slice none 0 0)).heap[B + 1 + 1]? = some (.cells #[.int .i64 0, .int .i64 0, .string ⟨#[]⟩, .slice none 0 0] 24 (0, 0)) from (heap_setCell_other _ _ _ _ (by show B + 1 + 1 ≠ B; omega)).trans HX3.out)
 have HWb := Lib.hid (show Below w.heap.size w (W1.setCell ⟨B, 3, none⟩ (.slice none 0 0)) from HW.out.setCell (by show w.heap.size ≤ B; exact HBB.out) _)
 refine (HF.out _).mono ?_
 rintro e W2 ⟨rfl, hb2⟩
 have HY1 := Lib.hid (block_keep hb2 HX1b.out)
 have HY2 := Lib.hid (block_keep hb2 HX2b.out)
 have HY3 := Lib.hid (block_keep hb2 HX3b.out)
 have HW2 := Lib.hid (HWb.out.trans (hb2.mono HWb.out.size))
 clear hb2 c0 c1 c2 c3 f0 f1 f2 f3 d0 d1 d2 d3 HX1 HX2 HX3 HX1b HX2b HX3b HW HWb HF HC
 obtain ⟨⟨c0, c1, c2, c3⟩, f0, f1, f2, f3⟩ := cells4 HY1.out
 obtain ⟨⟨d0, d1, d2, d3⟩, -⟩ := cells4 HY2.out
 go_wp2
 go_loopw [8, 9] (fun va vk wr => va = .int .i64 0 ∧ vk = .int .i64 0 ∧ wr = W2) (fun _ _ _ => 0)
 case atStart => exact ⟨rfl, rfl, rfl⟩
 case round =>
   obtain ⟨rfl, rfl, hwr⟩ := hrel
   rw [hwr]
   clear hwr
   go_upto_region 14 with fail
   have HS0 := Lib.hid (show SP W2 B from ⟨c3, d0, d1, d2, d3⟩)
   go_region_with ((first
       | (go_at_call 13; refine (HN.out _).mono ?_; rintro e wN ⟨rfl, hbN⟩; have HBN := Lib.hid (show Below W2.heap.size W2 wN from (Below.refl _ _).drew.trans hbN); have HSN := Lib.hid (HS0.out.below HBN.out); obtain ⟨n3, x0, x1, x2, x3⟩ := HSN.out; obtain ⟨m3, -⟩ := HSN.out.alloc (.cells #[.int .i64 5, .int .i64 0, .string ⟨#[65]⟩, .slice none 0 0, .int .i64 2, .int .i64 7, .string ⟨#[]⟩, .slice none 0 0] 24); clear hbN)
       | (go_at_call 53; refine (HI.out _ _ (row_two wN #[.int .i64 5, .int .i64 0, .string ⟨#[65]⟩, .slice none 0 0, .int .i64 2, .int .i64 7, .string ⟨#[]⟩, .slice none 0 0] 24 rfl rfl)).mono ?_; rintro e wI ⟨vI, rfl, hOI, hbI⟩; obtain ⟨aI, cI, hvI, -, -⟩ := Row.of_owns hOI; subst hvI; have HBI := Lib.hid (HBN.out.trans ((belowA wN _).trans (hbI.mono (by rw [sizeA]; omega)) |>.mono HBN.out.size)); have HSI := Lib.hid (HS0.out.below HBI.out); have hcI := HSI.out.1; have hfI : wI.frozen? ⟨B, 3, none⟩ = false := frozen_of_row wI B 3 _ _ (block_keep HBI.out HY1.out); have HOI := Lib.hid hOI; have HQI := Lib.hid (show W2.heap.size ≤ (wN.alloc (.cells #[.int .i64 5, .int .i64 0, .string ⟨#[65]⟩, .slice none 0 0, .int .i64 2, .int .i64 7, .string ⟨#[]⟩, .slice none 0 0] 24)).heap.size by rw [sizeA]; have := HBN.out.size; omega); clear hOI hbI)))
   all_goals
     have HFIN := Lib.hid (fun y0 y1 y2 y3 => put1_fin (B := B) HOI.out (by have h1 := HQI.out; have h2 := lt_of_heapS HY3.out; omega) (HW2.out.trans (HBI.out.mono HW2.out.size)) HBB.out y0 y1 y2 y3)
     have HYI := Lib.hid (show (wI.setCell ⟨B, 3, none⟩ (.slice aI 2 cI)).heap[B]? = some (.cells #[.int .i64 7, .int .i64 0, .string ⟨#[]⟩, .slice aI 2 cI] 24 (0, 0)) by rw [heap_setCell_same wI B 3 _ _ _ (block_keep HBI.out HY1.out)]; rfl)
     have HYR := Lib.hid (show (wI.setCell ⟨B, 3, none⟩ (.slice aI 2 cI)).heap[B + 1 + 1]? = some (.cells #[.int .i64 0, .int .i64 0, .string ⟨#[]⟩, .slice none 0 0] 24 (0, 0)) from (heap_setCell_other _ _ _ _ (by show B + 1 + 1 ≠ B; omega)).trans (block_keep HBI.out HY3.out))
     clear HN HI HS0 HSN HBN HBI HSI hcI hfI HOI HQI n3 x0 x1 x2 x3 m3 c0 c1 c2 c3 f0 f1 f2 f3 d0 d1 d2 d3 HY1 HY2 HY3
     generalize wI.setCell _ _ = WX at *
     obtain ⟨⟨c0, c1, c2, c3⟩, -⟩ := cells4 HYI.out
     obtain ⟨⟨r0, r1, r2, r3⟩, rf0, rf1, rf2, rf3⟩ := cells4 HYR.out
     go_wp2
     refine bodyPost_ret (results_cell_row rfl _ _ (B + 1 + 1) 24 _ (0, 0) _ rfl (by exact set4 HYR.out _ _ _ _) Tryz.underlying24 rfl (by kernel_rfl)) rfl ?_
     exact ⟨_, rfl, (HFIN.out _ _ _ _).1, (HFIN.out _ _ _ _).2⟩
end Go.Proofs.YtnkodejgiabamaaGreatDoor
