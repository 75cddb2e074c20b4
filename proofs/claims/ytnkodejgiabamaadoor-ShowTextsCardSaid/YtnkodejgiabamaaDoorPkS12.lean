/-
  Our texts Sw5 to Sw6, in one.
-/
import Derived.Test.YtnkodejgiabamaaDoorPkS11
import Derived.Shelf.Abstract
/-
  Show's writer: whether a text can be read; texts; what has been put together.
-/
namespace Go.Proofs.YtnkodejgiabamaaDoor
open Go.RowKit

theorem readF_take {l : List UInt8} {k : Nat} {c : UInt8} (h : l[k]? = some c) : readF (l.take (k + 1)) = (readF (l.take k) && (decide (32 ≤ c.toNat) && decide (c.toNat ≤ 126))) := by
  unfold readF
  rw [List.take_add_one, h, List.all_append]
  simp
theorem readF_bad {l : List UInt8} {k : Nat} {c : UInt8} (h : l[k]? = some c) (hb : (decide (32 ≤ c.toNat) && decide (c.toNat ≤ 126)) = false) : readF l = false := by
  unfold readF
  rw [Bool.eq_false_iff]
  intro ha
  rw [List.all_eq_true] at ha
  have := ha c (List.mem_of_getElem? h)
  rw [hb] at this
  cases this

set_option maxRecDepth 8000 in
set_option maxHeartbeats 4000000 in
theorem readableW (s : List UInt8) (w : World) (hl : s.length ≤ 10000000) :
    Calls Tryd.prog 45 #[.string (mkB s)] w fun e w' => e = .returned (.bool (readF s)) ∧ w = w' := by
  have hsz : (mkB s).size = s.length := mkB_size s
  have hszi : ((mkB s).size : Int) = s.length := by rw [hsz]
  have HSZ := Lib.hid hsz
  obtain ⟨R, hR⟩ : ∃ R, R = readF s := ⟨_, rfl⟩
  rw [← hR]
  have HR := Lib.hid hR
  clear hR
  go_enter Tryd.func45, Tryd.ntmps45
  go_wp2
  go_loopw [6] (fun vk wr => ∃ k : Nat, vk = .int .i64 k ∧ k ≤ s.length ∧ wr = w ∧ Hid (readF (s.take k) = true)) (fun vk _ => s.length - (intOf vk).toNat)
  case atStart => exact ⟨0, rfl, Nat.zero_le _, rfl, Lib.hid rfl⟩
  case round =>
    obtain ⟨k, rfl, hk, hwr, HG⟩ := hrel
    rw [hwr]
    clear hwr
    by_cases q1 : k < s.length
    case neg =>
      have hd1 : decide (k < s.length) = false := decide_eq_false q1
      have hd2 : decide ((k : Int) < (s.length : Int)) = false := decide_eq_false (by omega)
      have hq2 : ¬ (k : Int) < (s.length : Int) := by omega
      have hg := HG.out
      rw [List.take_of_length_le (by omega)] at hg
      have hr := HR.out
      rw [hg] at hr
      subst hr
      clear hg HG HR
      go_wp2
      go_ret
      exact ⟨rfl, rfl⟩
    have hd1 : decide (k < s.length) = true := decide_eq_true q1
    have hd2 : decide ((k : Int) < (s.length : Int)) = true := decide_eq_true (by omega)
    have hk0 : (0 : Int) ≤ (k : Int) := by omega
    have hk1 : (k : Int) < (s.length : Int) := by omega
    have hk2 : k < (mkB s).size := by omega
    obtain ⟨c, hc⟩ : ∃ c, c = s[k]'q1 := ⟨_, rfl⟩
    have hcs : s[k]? = some c := by rw [hc]; exact List.getElem?_eq_getElem q1
    obtain ⟨n, hn⟩ : ∃ n, n = c.toNat := ⟨_, rfl⟩
    have hat : ((mkB s)[k]'hk2).toNat = n := by rw [hn, hc]; exact at_mkB q1 hk2
    by_cases h1 : n < 32
    · have b1 : decide (n < 32) = true := decide_eq_true h1
      have b1' : decide ((n : Int) < 32) = true := decide_eq_true (by omega)
      have hb : readF s = false := readF_bad hcs (by rw [← hn, decide_eq_false (by omega), Bool.false_and])
      have hr := HR.out
      rw [hb] at hr
      subst hr
      clear HG HR hb hcs hc hn h1
      go_wp2
      go_ret
      exact ⟨rfl, rfl⟩
    have b1 : decide (n < 32) = false := decide_eq_false h1
    have b1' : decide ((n : Int) < 32) = false := decide_eq_false (by omega)
    by_cases h2 : 126 < n
    · have b2 : decide (126 < n) = true := decide_eq_true h2
      have b2' : decide ((126 : Int) < (n : Int)) = true := decide_eq_true (by omega)
      have hb : readF s = false := readF_bad hcs (by rw [← hn, decide_eq_false (show ¬ n ≤ 126 by omega), Bool.and_false])
      have hr := HR.out
      rw [hb] at hr
      subst hr
      clear HG HR hb hcs hc hn h1 h2
      go_wp2
      go_ret
      exact ⟨rfl, rfl⟩
    have b2 : decide (126 < n) = false := decide_eq_false h2
    have b2' : decide ((126 : Int) < (n : Int)) = false := decide_eq_false (by omega)
    have HG2 := Lib.hid (show readF (s.take (k + 1)) = true by rw [readF_take hcs, HG.out, ← hn, decide_eq_true (by omega), decide_eq_true (by omega)]; rfl)
    clear HG hcs hc hn h1 h2
    go_wp2
    go_roundw
    case rel => exact ⟨k + 1, by go_num, by omega, trivial, HG2⟩
    case measure => simp [intOf]; omega

set_option maxRecDepth 8000 in
set_option maxHeartbeats 4000000 in
theorem hexsW {w : World} {S : Nat → Prop} {p : Nat} {out : List UInt8} (h : WrQ w S p out) (s : List UInt8) (hl : out.length + 2 * s.length + 4 ≤ 10000000) (hrd : readF s = false) :
    Calls Tryd.prog 31 #[.pointer (some ⟨p, 0, none⟩), .string (mkB s)] w fun e w' => e = .returned (.tuple #[]) ∧ WrNext w S p (out ++ textF s) w' := by
  have HTX := Lib.hid (show textF s = 60 :: (hexF s ++ [62]) by unfold textF; rw [if_neg (by rw [hrd]; decide)])
  have HRD := Lib.hid (fun W => readableW s W (by omega))
  rw [hrd] at HRD
  have HA := Lib.hid (writeByteW h 60 60 rfl (by omega))
  have hsz : (mkB s).size = s.length := mkB_size s
  have hszi : ((mkB s).size : Int) = s.length := by rw [hsz]
  have HSZ := Lib.hid hsz
  have hm : (s.length : Int) ≤ 10000000 := by omega
  clear hrd
  go_enter Tryd.func31, Tryd.ntmps31
  go_wp2_with (go_at_call 45; refine (HRD.out _).mono ?_; rintro e w' ⟨rfl, rfl⟩)
  refine HA.out.mono ?_
  rintro e w1 ⟨rfl, hN1⟩
  have HN1 := Lib.hid hN1
  clear hN1 HA HRD
  go_wp2
  go_loopw [15] (fun vk wr => ∃ k : Nat, vk = .int .i64 k ∧ k ≤ s.length ∧ Hid (WrNext w S p ((out ++ [60]) ++ hexF (s.take k)) wr)) (fun vk _ => s.length - (intOf vk).toNat)
  case atStart => exact ⟨0, rfl, Nat.zero_le _, Lib.hid (by rw [List.take_zero]; simpa [hexF] using HN1.out)⟩
  case round =>
    obtain ⟨k, rfl, hk, HN⟩ := hrel
    obtain ⟨S1, hq1, hk1', hs1⟩ := HN.out
    have HQ1 := Lib.hid hq1
    have HK1 := Lib.hid hk1'
    have HS1 := Lib.hid hs1
    have hlen : ((out ++ [60]) ++ hexF (s.take k)).length + 2 ≤ 10000000 := by
      have h1 := hexF_len (s.take k)
      rw [List.length_take] at h1
      simp
      omega
    have HOL := Lib.hid hlen
    clear hq1 hk1' hs1 HN HN1 hlen
    by_cases q1 : k < s.length
    case neg =>
      have hd1 : decide (k < s.length) = false := decide_eq_false q1
      have hd2 : decide ((k : Int) < (s.length : Int)) = false := decide_eq_false (by omega)
      have hq2 : ¬ (k : Int) < (s.length : Int) := by omega
      have HWB := Lib.hid (writeByteW HQ1.out 62 62 rfl (by have := HOL.out; omega))
      have HTK := Lib.hid (show s.take k = s from List.take_of_length_le (by omega))
      go_wp2_with fail
      refine HWB.out.mono ?_
      rintro e w2 ⟨rfl, hN2⟩
      have HE := Lib.hid (show WrNext w S p (out ++ textF s) w2 by
        have h3 := WrNext.trans HK1.out HS1.out hN2
        rw [HTK.out] at h3
        rw [HTX.out]
        simpa using h3)
      clear hN2
      go_wp2
      first
        | go_end0
        | refine bodyPost_ret (results_none rfl _ _ _) rfl ?_
      exact ⟨rfl, HE.out⟩
    have hd1 : decide (k < s.length) = true := decide_eq_true q1
    have hd2 : decide ((k : Int) < (s.length : Int)) = true := decide_eq_true (by omega)
    have hk0 : (0 : Int) ≤ (k : Int) := by omega
    have hk1 : (k : Int) < (s.length : Int) := by omega
    have hk2 : k < (mkB s).size := by omega
    obtain ⟨c, hc⟩ : ∃ c, c = s[k]'q1 := ⟨_, rfl⟩
    have hcs : s[k]? = some c := by rw [hc]; exact List.getElem?_eq_getElem q1
    have hT := hexF_take hcs
    obtain ⟨n, hn⟩ : ∃ n, n = c.toNat := ⟨_, rfl⟩
    have hat : ((mkB s)[k]'hk2).toNat = n := by rw [hn, hc]; exact at_mkB q1 hk2
    have HH := Lib.hid (hexW HQ1.out c HOL.out)
    rw [← hn] at HH
    have HT := Lib.hid hT
    clear hT hn hc hcs
    go_wp2_with fail
    refine HH.out.mono ?_
    rintro e w2 ⟨rfl, hN2⟩
    have HN2 := Lib.hid (show WrNext w S p ((out ++ [60]) ++ hexF (s.take (k + 1))) w2 by
      rw [HT.out, ← List.append_assoc (out ++ [60])]
      exact WrNext.trans HK1.out HS1.out hN2)
    clear hN2 HH
    go_wp2
    go_roundw
    case rel => exact ⟨k + 1, by go_num, by omega, HN2⟩
    case measure => simp [intOf]; omega

set_option maxRecDepth 8000 in
set_option maxHeartbeats 4000000 in
theorem baresW {w : World} {S : Nat → Prop} {p : Nat} {out : List UInt8} (h : WrQ w S p out) (s : List UInt8) (hl : out.length + 2 * s.length + 4 ≤ 10000000) (hrd : readF s = true) :
    Calls Tryd.prog 31 #[.pointer (some ⟨p, 0, none⟩), .string (mkB s)] w fun e w' => e = .returned (.tuple #[]) ∧ WrNext w S p (out ++ textF s) w' := by
  have HTX := Lib.hid (show textF s = 40 :: (bareF s ++ [41]) by unfold textF; rw [if_pos hrd])
  have HRD := Lib.hid (fun W => readableW s W (by omega))
  rw [hrd] at HRD
  have HA := Lib.hid (writeByteW h 40 40 rfl (by omega))
  have hsz : (mkB s).size = s.length := mkB_size s
  have hszi : ((mkB s).size : Int) = s.length := by rw [hsz]
  have HSZ := Lib.hid hsz
  have hm : (s.length : Int) ≤ 10000000 := by omega
  clear hrd
  go_enter Tryd.func31, Tryd.ntmps31
  go_wp2_with (go_at_call 45; refine (HRD.out _).mono ?_; rintro e w' ⟨rfl, rfl⟩)
  refine HA.out.mono ?_
  rintro e w1 ⟨rfl, hN1⟩
  have HN1 := Lib.hid hN1
  clear hN1 HA HRD
  go_wp2
  go_loopw [34] (fun vk wr => ∃ k : Nat, vk = .int .i64 k ∧ k ≤ s.length ∧ Hid (WrNext w S p ((out ++ [40]) ++ bareF (s.take k)) wr)) (fun vk _ => s.length - (intOf vk).toNat)
  case atStart => exact ⟨0, rfl, Nat.zero_le _, Lib.hid (by rw [List.take_zero]; simpa [bareF] using HN1.out)⟩
  case round =>
    obtain ⟨k, rfl, hk, HN⟩ := hrel
    obtain ⟨S1, hq1, hk1', hs1⟩ := HN.out
    have HQ1 := Lib.hid hq1
    have HK1 := Lib.hid hk1'
    have HS1 := Lib.hid hs1
    have hlen : ((out ++ [40]) ++ bareF (s.take k)).length + 2 ≤ 10000000 ∨ k = s.length := by
      have h1 := bareF_len (s.take k)
      rw [List.length_take] at h1
      simp
      omega
    have hlen1 : ((out ++ [40]) ++ bareF (s.take k)).length ≤ 10000000 := by
      have h1 := bareF_len (s.take k)
      rw [List.length_take] at h1
      simp
      omega
    have HOL := Lib.hid hlen
    have HOL1 := Lib.hid hlen1
    clear hq1 hk1' hs1 HN HN1 hlen hlen1
    by_cases q1 : k < s.length
    case neg =>
      have hd1 : decide (k < s.length) = false := decide_eq_false q1
      have hd2 : decide ((k : Int) < (s.length : Int)) = false := decide_eq_false (by omega)
      have hq2 : ¬ (k : Int) < (s.length : Int) := by omega
      have HWB := Lib.hid (writeByteW HQ1.out 41 41 rfl HOL1.out)
      have HTK := Lib.hid (show s.take k = s from List.take_of_length_le (by omega))
      go_wp2_with fail
      refine HWB.out.mono ?_
      rintro e w2 ⟨rfl, hN2⟩
      have HE := Lib.hid (show WrNext w S p (out ++ textF s) w2 by
        have h3 := WrNext.trans HK1.out HS1.out hN2
        rw [HTK.out] at h3
        rw [HTX.out]
        simpa using h3)
      clear hN2
      go_wp2
      first
        | go_end0
        | refine bodyPost_ret (results_none rfl _ _ _) rfl ?_
      exact ⟨rfl, HE.out⟩
    have hd1 : decide (k < s.length) = true := decide_eq_true q1
    have hd2 : decide ((k : Int) < (s.length : Int)) = true := decide_eq_true (by omega)
    have hk0 : (0 : Int) ≤ (k : Int) := by omega
    have hk1 : (k : Int) < (s.length : Int) := by omega
    have hk2 : k < (mkB s).size := by omega
    obtain ⟨c, hc⟩ : ∃ c, c = s[k]'q1 := ⟨_, rfl⟩
    have hcs : s[k]? = some c := by rw [hc]; exact List.getElem?_eq_getElem q1
    have hT := bareF_take hcs
    obtain ⟨n, hn⟩ : ∃ n, n = c.toNat := ⟨_, rfl⟩
    have hat : ((mkB s)[k]'hk2).toNat = n := by rw [hn, hc]; exact at_mkB q1 hk2
    have hI := fun W => sidx2_any ⟨#[40, 41, 92]⟩ (c.toNat : Int) W
    rw [u8_back] at hI
    have hix : decide (0 ≤ Lib.indexByte [40, 41, 92] c) = decide (c ∈ [(40 : UInt8), 41, 92]) := idx_memS _ _
    have hbr : brF c = if c ∈ [(40 : UInt8), 41, 92] then [92, c] else [c] := by unfold brF; simp
    have hl2 : ((out ++ [40]) ++ bareF (s.take k)).length + 2 ≤ 10000000 := by rcases HOL.out with h | h; exact h; omega
    have HWB := Lib.hid (fun (S1 : Nat → Prop) (W : World) (o : List UInt8) (hq : WrQ W S1 p o) (ho : o.length ≤ 10000000) => writeByteW hq c n (by rw [hn]) ho)
    have HW92 := Lib.hid (writeByteW HQ1.out 92 92 rfl HOL1.out)
    rw [← hn] at hI
    have HI := Lib.hid (show ∀ W, Calls Tryd.prog 47 #[.string ⟨#[40, 41, 92]⟩, .int .u8 (n : Int)] W fun e w' => e = .returned (.int .i64 (Lib.indexByte [40, 41, 92] c)) ∧ W = w' from hI)
    have HT := Lib.hid hT
    have HBR := Lib.hid hbr
    have HL2 := Lib.hid hl2
    clear hT hn hc hcs hI hbr hl2
    generalize Lib.indexByte [40, 41, 92] c = ix at *
    by_cases hm92 : c ∈ [(40 : UInt8), 41, 92]
    · rw [decide_eq_true hm92] at hix
      have HCB := Lib.hid (show brF c = [92, c] by rw [HBR.out, if_pos hm92])
      clear HBR hm92
      go_wp2_with (go_at_call 47; refine (HI.out _).mono ?_; rintro e w' ⟨rfl, rfl⟩)
      refine HW92.out.mono ?_
      rintro e w2 ⟨rfl, hN2⟩
      obtain ⟨S2, hq2, hk2', hs2⟩ := hN2
      have HW2 := Lib.hid (HWB.out S2 w2.drew _ (hq2.keep (Below.refl _ _).drew) (by have := HL2.out; simp at this ⊢; omega))
      have HFIN := Lib.hid (fun (w3 : World) (hN3 : WrNext w2.drew S2 p ((((out ++ [40]) ++ bareF (s.take k)) ++ [92]) ++ [c]) w3) => show WrNext w S p ((out ++ [40]) ++ bareF (s.take (k + 1))) w3 by
        rw [HT.out, HCB.out]
        have h3 := WrNext.trans HK1.out HS1.out (WrNext.trans hk2' hs2 (WrNext.above (Below.refl _ _).drew hN3))
        rw [List.append_assoc _ [92]] at h3
        rw [← List.append_assoc (out ++ [40])]
        exact h3)
      clear hq2 hk2' hs2 HW92 HWB HCB HT
      go_wp2
      go_region_with ((go_at_call 40; refine HW2.out.mono ?_; rintro e w3 ⟨rfl, hN3⟩; have HN3 := Lib.hid (HFIN.out _ hN3); clear hN3))
      go_wp2
      go_roundw
      case rel => exact ⟨k + 1, by go_num, by omega, HN3⟩
      case measure => simp [intOf]; omega
    · rw [decide_eq_false hm92] at hix
      have HCB := Lib.hid (show brF c = [c] by rw [HBR.out, if_neg hm92])
      have HW2 := Lib.hid (HWB.out S1 wr.drew _ (HQ1.out.keep (Below.refl _ _).drew) (by have := HL2.out; omega))
      have HFIN := Lib.hid (fun (w3 : World) (hN3 : WrNext wr.drew S1 p (((out ++ [40]) ++ bareF (s.take k)) ++ [c]) w3) => show WrNext w S p ((out ++ [40]) ++ bareF (s.take (k + 1))) w3 by
        rw [HT.out, HCB.out]
        have h3 := WrNext.trans HK1.out HS1.out (WrNext.above (Below.refl _ _).drew hN3)
        rw [← List.append_assoc (out ++ [40])]
        exact h3)
      clear HBR hm92 HW92 HWB HCB HT
      go_wp2_with (go_at_call 47; refine (HI.out _).mono ?_; rintro e w' ⟨rfl, rfl⟩)
      go_region_with ((go_at_call 40; refine HW2.out.mono ?_; rintro e w3 ⟨rfl, hN3⟩; have HN3 := Lib.hid (HFIN.out _ hN3); clear hN3))
      go_wp2
      go_roundw
      case rel => exact ⟨k + 1, by go_num, by omega, HN3⟩
      case measure => simp [intOf]; omega
theorem textW {w : World} {S : Nat → Prop} {p : Nat} {out : List UInt8} (h : WrQ w S p out) (s : List UInt8) (hl : out.length + 2 * s.length + 4 ≤ 10000000) :
    Calls Tryd.prog 31 #[.pointer (some ⟨p, 0, none⟩), .string (mkB s)] w fun e w' => e = .returned (.tuple #[]) ∧ WrNext w S p (out ++ textF s) w' := by
  cases hrd : readF s
  · exact hexsW h s hl hrd
  · exact baresW h s hl hrd

theorem cellsByteW : Tryd.prog.cellsOf 5 = 1 := by kernel_rfl
theorem keeps_freezeW {S : Nat → Prop} {w : World} {a : Addr} (h : S a.block) (n : Nat) : Keeps S w (w.freeze a n) := by
  unfold World.freeze
  split
  · exact Keeps.refl _ _
  · exact ⟨rfl, rfl, rfl, by simp, fun b _ hn => by
      simp only [Array.getElem?_modify]
      rw [if_neg (fun e : a.block = b => hn (e ▸ h))]⟩

set_option maxRecDepth 100000 in
set_option maxHeartbeats 2000000 in
theorem stringW {w : World} {S : Nat → Prop} {p : Nat} {out : List UInt8} (h : WrQ w S p out) (h0 : out ≠ []) :
    Calls Tryd.prog 24 #[.pointer (some ⟨p, 0, none⟩)] w fun e w' => e = .returned (.string (mkB out)) ∧ Keeps S w w' := by
  obtain ⟨ad, v, h⟩ := h
  obtain ⟨-, c1⟩ := h.cells
  have hl0 : out.length ≠ 0 := by simpa using h0
  obtain ⟨g, cap, cur, rfl, hbg, hg, hnc, hcm, hcs, htake⟩ : ∃ g cap cur, v = .slice (some ⟨g, 0, none⟩) out.length cap ∧ p + 1 ≤ g ∧ w.heap[g]? = some (.cells cur 5 (0, 0)) ∧ out.length ≤ cap ∧ cap ≤ maxLen ∧ cur.size = cap * 1 ∧ cur.toList.take (out.length * 1) = out.map u8W := by
    rcases h.row.2 with ⟨_, hz⟩ | ⟨g, cap, cur, hv, r⟩
    · exact absurd hz hl0
    · exact ⟨g, cap, cur, hv, r⟩
  have c1' : w.drew.cell? ⟨p, 1, none⟩ = some (.slice (some ⟨g, 0, none⟩) out.length cap) := c1
  have hSD : (Builtin.unsafeSliceData_ #[45] 66 #[.slice (some ⟨g, 0, none⟩) out.length cap]).run Tryd.prog w.drew = .ok (.pointer (some ⟨g, 0, none⟩)) w.drew :=
    Lib.run_unsafeSliceData_row _ _ _ _ _ _ (by omega)
  have hUS : (Builtin.unsafeString_ #[66, 3] 9 #[.pointer (some ⟨g, 0, none⟩), .int .i64 out.length]).run Tryd.prog w.drew = .ok (.string ⟨out.toArray⟩) (w.drew.freeze ⟨g, 0, none⟩ out.length) := by
    refine Lib.run_unsafeString_row w.drew 66 3 9 5 Tryd.underlying66 cellsByteW g cur.size (by have hg' : w.drew.heap[g]? = some (.cells cur 5 (0, 0)) := hg; simp [World.shape?, hg']) out h0 (by omega) (by unfold maxLen at hcm; omega) ?_
    intro j x hx
    exact h.row.cells (g := g) rfl j (u8W x) (by simp [hx])
  have HK := Lib.hid (show Keeps S w (w.drew.freeze ⟨g, 0, none⟩ out.length) from Keeps.trans ((Keeps.refl S w).drewN 1) (keeps_freezeW (S := S) (h.at_ g rfl) _) (fun _ hx => .inl hx))
  clear h htake hcs hg
  go_enter Tryd.func24, Tryd.ntmps24
  go_wp2
  go_region
  all_goals
    go_wp2
    go_ret
    exact ⟨rfl, HK.out⟩
end Go.Proofs.YtnkodejgiabamaaDoor
/-
  Walks of layer 11: a value, and all in it, is gone through by what Check asks.
-/
namespace Go.Proofs.YtnkodejgiabamaaDoor
open Go.RowKit

mutual
theorem IsV.ltS {w : World} {F : Nat → Prop} : ∀ (v : PV) {sl : Value}, IsV w F v sl → IsV w (fun b => F b ∧ b < w.heap.size) v sl
  | .mk _ _ _ l, _, ⟨a, cap, cs, h, hr, hF, hs⟩ => ⟨a, cap, cs, h, hr, fun h0 x hx => ⟨hF h0 x hx, by
      obtain ⟨b, off, ha, hb, _⟩ := hr.2.2.2.2 h0
      rw [ha] at hx
      cases hx
      exact hb⟩, IsVs.ltS l hs⟩
theorem IsVs.ltS {w : World} {F : Nat → Prop} : ∀ (l : List PV) {cs : List Value}, IsVs w F l cs → IsVs w (fun b => F b ∧ b < w.heap.size) l cs
  | [], _, h => h
  | v :: l, _, ⟨sl, t, h, hv, ht⟩ => ⟨sl, t, h, IsV.ltS v hv, IsVs.ltS l ht⟩
end
theorem firstL_take {l : List PV} {k : Nat} {x : PV} (hx : l[k]? = some x) (h : firstL (l.take k) = 0) : firstL (l.take (k + 1)) = firstC x := by
  induction l generalizing k with
  | nil => cases hx
  | cons y l ih =>
    cases k with
    | zero =>
      have : y = x := by simpa using hx
      subst this
      simp only [List.take_succ_cons, List.take_zero, firstL]
      split
      · rfl
      · rename_i e
        have e2 : firstC y = 0 := by simpa using e
        rw [e2]
    | succ k =>
      rw [List.take_succ_cons] at h ⊢
      simp only [firstL] at h ⊢
      by_cases e : firstC y = 0
      · rw [if_neg (by simpa using e)] at h ⊢
        exact ih (by simpa using hx) h
      · rw [if_pos e] at h; exact absurd h e
theorem firstL_bad {l : List PV} {k : Nat} {x : PV} (hx : l[k]? = some x) (h : firstL (l.take k) = 0) (he : firstC x ≠ 0) : firstL l = firstC x := by
  induction l generalizing k with
  | nil => cases hx
  | cons y l ih =>
    cases k with
    | zero =>
      have : y = x := by simpa using hx
      subst this
      simp only [firstL]
      rw [if_pos he]
    | succ k =>
      rw [List.take_succ_cons] at h
      simp only [firstL] at h ⊢
      by_cases e : firstC y = 0
      · rw [if_neg (by simpa using e)] at h ⊢
        exact ih (by simpa using hx) h
      · rw [if_pos e] at h; exact absurd h e
theorem firstC_is (v : PV) : firstC v = if ownC v ≠ 0 then ownC v else if v.kind = 6 ∨ v.kind = 7 then firstL v.l else 0 := by obtain ⟨k, n, s, l⟩ := v; simp only [firstC]; rfl
theorem lt_of_heapS {w : World} {b : Nat} {o : Obj} (h : w.heap[b]? = some o) : b < w.heap.size := (Array.getElem?_eq_some_iff.1 h).1
theorem keepsB {w w' : World} {S : Nat → Prop} (h : Below w.heap.size w w') : Keeps S w w' := ⟨h.os, h.tape, h.output, h.size, fun b hb _ => h.block b hb⟩
/-- The error's own block turns alone. -/
structure ErrM (w w' : World) (p : Nat) (e : Int) : Prop where
  blk : w'.heap[p]? = some (.cells #[.int .i64 e] 27 (0, 0))
  keeps : Keeps (fun b => b = p) w w'
theorem Stays.of_err {F : Nat → Prop} {w w' : World} {p : Nat} {e : Int} (h : ErrM w w' p e) (hF : ∀ b, F b → b ≠ p) : Stays F w w' := ⟨h.keeps.size, fun b hb hf => h.keeps.block b hb (hF b hf)⟩

set_option maxRecDepth 8000 in
set_option maxHeartbeats 4000000 in
theorem check1_any {v : PV} {sl : Value} {w : World} {p : Nat} {e0 : Int} (hv : IsV w (fun b => b ≠ p) v sl) (hb : w.heap[p]? = some (.cells #[.int .i64 e0] 27 (0, 0))) :
    Calls Tryd.prog 35 #[pvA v sl, .pointer (some ⟨p, 0, none⟩)] w fun e w' => e = .returned (.bool (ownC v == 0)) ∧ ErrM w w' p (ownC v) := by
  have HO := Lib.hid (fun (W : World) (h : Below w.heap.size w W) => vown_any (hv.any.below h))
  obtain ⟨a1, cap1, e1, -, -, -⟩ := hv.len
  subst e1
  unfold pvA at HO ⊢
  generalize ownC v = oc at *
  generalize v.kind = k0 at *
  generalize v.n = n0 at *
  generalize mkB v.s = s0 at *
  generalize v.l.length = m at *
  clear hv
  go_enter Tryd.func35, Tryd.ntmps35
  obtain ⟨B, hB⟩ : ∃ B, B = w.heap.size := ⟨_, rfl⟩
  have hbw := belowA w (.cells #[.int .i64 k0, .int .i64 n0, .string s0, .slice a1 m cap1] 24)
  have HX1 := Lib.hid (heapA_new (w := w) (b := B) (.cells #[.int .i64 k0, .int .i64 n0, .string s0, .slice a1 m cap1] 24) hB)
  have HP1 := Lib.hid (block_keep hbw hb)
  have HW := Lib.hid hbw
  clear hbw hb
  go_upto_region 1 with fail
  rw [← hB]
  clear hB
  generalize w.alloc _ = W1 at *
  obtain ⟨⟨c0, c1, c2, c3⟩, -⟩ := cells4 HX1.out
  go_wp2_with fail
  refine (HO.out _ HW.out).mono ?_
  rintro e w2 ⟨rfl, hb2⟩
  have HP2 := Lib.hid (block_keep hb2 HP1.out)
  have HW2 := Lib.hid (HW.out.trans (hb2.mono HW.out.size))
  clear hb2 c0 c1 c2 c3
  have p0 : w2.cell? ⟨p, 0, none⟩ = some (.int .i64 e0) := by rw [cell_of_row w2 p 0 _ _ _ HP2.out]; rfl
  have pf : w2.frozen? ⟨p, 0, none⟩ = false := frozen_of_row w2 p 0 _ _ HP2.out
  have HE := Lib.hid (show ErrM w (w2.setCell ⟨p, 0, none⟩ (.int .i64 oc)) p oc from ⟨by rw [heap_setCell_same w2 p 0 _ _ _ HP2.out]; rfl, (keepsB (S := fun b => b = p) HW2.out).setCell (a := ⟨p, 0, none⟩) (.inl rfl) _⟩)
  go_upto_region 2 with fail
  have q0 : (w2.setCell ⟨p, 0, none⟩ (.int .i64 oc)).cell? ⟨p, 0, none⟩ = some (.int .i64 oc) := by rw [cell_of_row _ p 0 _ _ _ HE.out.blk]; rfl
  clear p0 pf
  generalize w2.setCell _ _ = W3 at *
  go_wp2
  go_ret
  exact ⟨rfl, HE.out⟩
theorem ErrM.trans {w w1 w2 : World} {p : Nat} {e2 : Int} (h : Keeps (fun b => b = p) w w1) (k : ErrM w1 w2 p e2) : ErrM w w2 p e2 := ⟨k.blk, h.trans k.keeps fun _ hb => .inl hb⟩
theorem IsV.err {w w' : World} {p : Nat} {v : PV} {sl : Value} (h : IsV w (fun b => b ≠ p) v sl) (k : Keeps (fun b => b = p) w w') : IsV w' (fun b => b ≠ p) v sl := IsV.keep ⟨k.size, fun b hb hf => k.block b hb hf⟩ (fun _ h => h) v h

set_option maxRecDepth 8000 in
set_option maxHeartbeats 4000000 in
theorem walk_any (p : Nat) : ∀ (N : Nat) (v : PV) (sl : Value) (w : World), SizeOf.sizeOf v ≤ N → IsV w (fun b => b ≠ p) v sl → w.heap[p]? = some (.cells #[.int .i64 0] 27 (0, 0)) →
    Calls Tryd.prog 34 #[pvA v sl, .func (.func 35) #[] #[.pointer (some ⟨p, 0, none⟩)]] w fun e w' => e = .returned (.bool (firstC v == 0)) ∧ ErrM w w' p (firstC v) := by
  intro N
  induction N with
  | zero => intro v sl w h; obtain ⟨_, _, _, _⟩ := v; simp at h
  | succ N ih =>
  intro v sl w hN hv hb
  have eg := enters_of Tryd.func35 (by kernel_rfl) rfl
  obtain ⟨a1, cap1, e1, g1, g2, g3⟩ := hv.len
  subst e1
  have HA := Lib.hid hv
  have HIH := Lib.hid ih
  have HN := Lib.hid hN
  have HSA := Lib.hid (fun (k : Nat) (x : PV) (h : v.l[k]? = some x) => sizeOf_mem h)
  have m1 : (v.l.length : Int) ≤ 9223372036854775807 := by unfold maxLen at g2; omega
  have HCH := Lib.hid (fun (W : World) (h : Below w.heap.size w W) => check1_any (hv.below h) (block_keep h hb))
  have hfc := firstC_is v
  have hpl : p < w.heap.size := (Array.getElem?_eq_some_iff.1 hb).1
  unfold pvA at HCH ⊢
  clear ih hN hv hb g2 g3
  obtain ⟨FC, hFC⟩ : ∃ FC, FC = firstC v := ⟨_, rfl⟩
  rw [← hFC] at hfc ⊢
  clear hFC
  obtain ⟨la, hla⟩ : ∃ la, la = v.l := ⟨_, rfl⟩
  have HLA := Lib.hid hla
  rw [← hla] at hfc HA HSA m1 g1 HCH ⊢
  clear hla
  obtain ⟨k0, hk0⟩ : ∃ k, k = v.kind := ⟨_, rfl⟩
  rw [← hk0] at hfc HCH ⊢
  clear hk0
  have HFC := Lib.hid hfc
  clear hfc
  generalize ownC v = oc at *
  generalize v.n = n0 at *
  generalize mkB v.s = s0 at *
  go_enter Tryd.func34, Tryd.ntmps34
  obtain ⟨B, hB⟩ : ∃ B, B = w.heap.size := ⟨_, rfl⟩
  have HX1 := Lib.hid (heapA_new (w := w) (b := B) (.cells #[.int .i64 k0, .int .i64 n0, .string s0, .slice a1 la.length cap1] 24) hB)
  have HW := Lib.hid (belowA w (.cells #[.int .i64 k0, .int .i64 n0, .string s0, .slice a1 la.length cap1] 24))
  have HPL := Lib.hid hpl
  have hBp : B ≠ p := by omega
  go_upto_region 1 with fail
  rw [← hB]
  clear hB hpl
  generalize w.alloc _ = W1 at *
  obtain ⟨⟨c0, c1, c2, c3⟩, -⟩ := cells4 HX1.out
  have HBP := Lib.hid hBp
  clear hBp
  go_wp2_with fail
  refine (HCH.out _ HW.out).mono ?_
  rintro e w2 ⟨rfl, he2⟩
  have HX2 := Lib.hid ((he2.keeps.block B (lt_of_heapS HX1.out) HBP.out).trans HX1.out)
  have HE2 := Lib.hid (ErrM.trans (keepsB HW.out) he2)
  clear he2 c0 c1 c2 c3 HX1 HW HCH
  obtain ⟨⟨c0, c1, c2, c3⟩, -⟩ := cells4 HX2.out
  have hfc := HFC.out
  by_cases ho : oc = 0
  case neg =>
    have eo : (oc == 0) = false := by rw [beq_eq_false_iff_ne]; exact ho
    rw [if_pos ho] at hfc
    subst hfc
    clear HFC HA HIH HN HSA HLA ho
    have HEO := Lib.hid eo
    go_wp2
    go_ret
    exact ⟨by rw [HEO.out]; rfl, HE2.out⟩
  subst ho
  rw [if_neg (by simp)] at hfc
  clear HFC
  by_cases hk : k0 = 6 ∨ k0 = 7
  case neg =>
    have hk6 : (k0 == 6) = false := by rw [beq_eq_false_iff_ne]; omega
    have hk7 : (k0 == 7) = false := by rw [beq_eq_false_iff_ne]; omega
    have hk6' : (k0 != 6) = true := by simp only [bne, hk6, Bool.not_false]
    have hk7' : (k0 != 7) = true := by simp only [bne, hk7, Bool.not_false]
    rw [if_neg hk] at hfc
    subst hfc
    clear hk HA HIH HN HSA HLA
    go_wp2
    go_ret
    exact ⟨rfl, HE2.out⟩
  rw [if_pos hk] at hfc
  have HFC := Lib.hid hfc
  clear hfc
  have hor : ∀ {Q : Prop}, (k0 = 6 → Q) → (k0 = 7 → Q) → Q := fun h6 h7 => hk.elim h6 h7
  clear hk
  refine hor (fun e6 => ?_) (fun e7 => ?_)
  all_goals
    first | subst e6 | subst e7
    clear hor
    go_wp2
    clear c0 c1 c2 c3
    go_loopw [22] (fun vk wr => ∃ (k : Nat), vk = .int .i64 k ∧ k ≤ la.length ∧ Hid (ErrM w wr p 0) ∧ Hid (firstL (la.take k) = 0)) (fun vk _ => la.length - (intOf vk).toNat)
    case atStart => exact ⟨0, rfl, Nat.zero_le _, HE2, Lib.hid rfl⟩
    case round =>
      obtain ⟨k, rfl, hk, HER, HV⟩ := hrel
      by_cases q1 : k < la.length
      case neg =>
        have hkl : k = la.length := by omega
        subst hkl
        have hv := HV.out
        rw [List.take_length] at hv
        have hf := HFC.out
        rw [hv] at hf
        subst hf
        clear hv HFC HV HA HIH HN HSA HLA
        go_wp2
        go_ret
        exact ⟨rfl, HER.out⟩
      obtain ⟨x, hx⟩ : ∃ x, la[k]? = some x := ⟨_, List.getElem?_eq_getElem q1⟩
      obtain ⟨-, -, -, b1, o1, rfl, -, -, hax⟩ := (HA.out.err HER.out.keeps).at (by omega)
      rw [← HLA.out] at hax
      obtain ⟨sx, hsx, x0, x1, x2, x3⟩ := hax k x hx
      have hlt : SizeOf.sizeOf x < SizeOf.sizeOf v := HSA.out k x hx
      have hN := HN.out
      obtain ⟨sa', sc', rfl, -, -, -⟩ := hsx.len
      have HCALL := Lib.hid (fun (W : World) (hb : Below wr.heap.size wr W) => HIH.out x _ W (by omega) (hsx.below hb) (block_keep hb HER.out.blk))
      simp only [pvA] at HCALL
      have HT0 := Lib.hid (fun (h : firstC x = 0) => (firstL_take hx HV.out).trans h)
      have HT1 := Lib.hid (fun (h : firstC x ≠ 0) => firstL_bad hx HV.out h)
      clear hsx hlt hN hax hx HA HIH HV HSA HLA HN
      generalize firstC x = fx at *
      have hkl : (0 : Int) ≤ (k : Int) := by omega
      have hki : (k : Int) < (la.length : Int) := by omega
      have hd1 : decide (k < la.length) = true := decide_eq_true q1
      generalize x.kind = xk at *
      generalize x.n = xn at *
      generalize mkB x.s = xs at *
      generalize x.l.length = xl at *
      have HB4 := Lib.hid (belowA wr (.cells #[.int .i64 xk, .int .i64 xn, .string xs, .slice sa' xl sc'] 24))
      have HK4 := Lib.hid (heapA_new (w := wr) (b := wr.heap.size) (.cells #[.int .i64 xk, .int .i64 xn, .string xs, .slice sa' xl sc'] 24) rfl)
      go_upto_region 8 with fail
      obtain ⟨r4, hr4⟩ : ∃ r4, r4 = wr.heap.size := ⟨_, rfl⟩
      rw [← hr4] at HK4 ⊢
      clear hr4 x0 x1 x2 x3
      have HC4 := Lib.hid (HCALL.out _ HB4.out)
      have HE4 := Lib.hid (HER.out.keeps.trans (keepsB (S := fun b => b = p) HB4.out) fun _ hb => .inl hb)
      clear HCALL HB4 HER
      generalize wr.alloc _ = W4 at *
      obtain ⟨⟨x0, x1, x2, x3⟩, -⟩ := cells4 HK4.out
      go_wp2_with fail
      refine HC4.out.mono ?_
      rintro e w5 ⟨rfl, he5⟩
      have HE5 := Lib.hid (ErrM.trans HE4.out he5)
      clear he5 x0 x1 x2 x3 HC4 HE4
      by_cases hf : fx = 0
      · have ef : (fx == 0) = true := by rw [hf]; rfl
        have HV2 := Lib.hid (HT0.out hf)
        rw [hf] at HE5
        clear HT0 HT1 hf
        go_wp2
        go_roundw
        case rel => exact ⟨k + 1, by go_num, by omega, HE5, HV2⟩
        case measure => simp [intOf]; omega
      · have ef : (fx == 0) = false := by rw [beq_eq_false_iff_ne]; exact hf
        have hF : FC = fx := HFC.out.trans (HT1.out hf)
        subst hF
        have HEF := Lib.hid ef
        clear HT0 HT1 hf HFC
        go_wp2
        go_ret
        exact ⟨by rw [HEF.out]; rfl, HE5.out⟩

set_option maxRecDepth 8000 in
set_option maxHeartbeats 4000000 in
theorem vcheck_any {v : PV} {sl : Value} {w : World} (hv : IsV w anyF v sl) (hd : depthV v ≤ 1000) :
    Calls Tryd.prog 22 #[pvA v sl] w fun e w' => e = .returned (.int .i64 (checkC v)) ∧ Below w.heap.size w w' := by
  have HD := Lib.hid (fun (W : World) (h : Below w.heap.size w W) => vdepth_any _ v sl W (Nat.le_refl _) hd (hv.below h))
  have HWK := Lib.hid (fun (W : World) (p : Nat) (h : Below w.heap.size w W) (hp : w.heap.size ≤ p) (hb : W.heap[p]? = some (.cells #[.int .i64 0] 27 (0, 0))) =>
    walk_any p _ v sl W (Nat.le_refl _) (IsV.keep (F := fun b => anyF b ∧ b < w.heap.size) (Stays.of_below h) (fun b hb => by have := hb.2; omega) _ (IsV.ltS v hv)) hb)
  obtain ⟨R, hR⟩ : ∃ R, R = checkC v := ⟨_, rfl⟩
  rw [← hR]
  unfold checkC at hR
  have HR := Lib.hid hR
  obtain ⟨a1, cap1, rfl, -, -, -⟩ := hv.len
  unfold pvA at HD HWK ⊢
  clear hv hR
  generalize firstC v = fc at *
  generalize depthV v = d at *
  generalize v.kind = k0 at *
  generalize v.n = n0 at *
  generalize mkB v.s = s0 at *
  generalize v.l.length = m at *
  go_enter Tryd.func22, Tryd.ntmps22
  obtain ⟨B, hB⟩ : ∃ B, B = w.heap.size := ⟨_, rfl⟩
  have HX1 := Lib.hid (heapA_new (w := w) (b := B) (.cells #[.int .i64 k0, .int .i64 n0, .string s0, .slice a1 m cap1] 24) hB)
  have HW := Lib.hid (belowA w (.cells #[.int .i64 k0, .int .i64 n0, .string s0, .slice a1 m cap1] 24))
  go_upto_region 1 with fail
  rw [← hB]
  clear hB
  generalize w.alloc _ = W1 at *
  obtain ⟨⟨c0, c1, c2, c3⟩, -⟩ := cells4 HX1.out
  go_wp2_with fail
  refine (HD.out _ HW.out).mono ?_
  rintro e w2 ⟨rfl, hb2⟩
  have HX2 := Lib.hid (block_keep hb2 HX1.out)
  have HW2 := Lib.hid (HW.out.trans (hb2.mono HW.out.size))
  clear hb2 c0 c1 c2 c3 HX1 HW HD
  have hR := HR.out
  by_cases h64 : 64 < d
  · have hd1 : decide (64 < d) = true := decide_eq_true h64
    have hd2 : decide ((64 : Int) < (d : Int)) = true := decide_eq_true (by omega)
    rw [if_pos h64] at hR
    subst hR
    clear HR HWK h64
    go_wp2
    go_ret
    exact ⟨rfl, HW2.out⟩
  have hd1 : decide (64 < d) = false := decide_eq_false h64
  have hd2 : decide ((64 : Int) < (d : Int)) = false := decide_eq_false (by omega)
  rw [if_neg h64] at hR
  subst hR
  clear HR h64
  have HP3 := Lib.hid (heapA_new (w := w2) (b := w2.heap.size) (.cells #[.int .i64 0] 27) rfl)
  have HX3 := Lib.hid (heapA_old (.cells #[.int .i64 0] 27) HX2.out)
  have HW3 := Lib.hid (HW2.out.alloc HW2.out.size (.cells #[.int .i64 0] 27))
  have HPP := Lib.hid HW2.out.size
  go_upto_region 4 with fail
  obtain ⟨p, hp⟩ : ∃ p, p = w2.heap.size := ⟨_, rfl⟩
  rw [← hp] at HP3 HPP ⊢
  clear hp
  generalize w2.alloc _ = W3 at *
  obtain ⟨⟨c0, c1, c2, c3⟩, -⟩ := cells4 HX3.out
  go_wp2_with fail
  refine (HWK.out _ _ HW3.out HPP.out HP3.out).mono ?_
  rintro e w4 ⟨rfl, he4⟩
  have HE4 := Lib.hid he4
  clear he4 c0 c1 c2 c3 HWK
  have p0 : w4.cell? ⟨p, 0, none⟩ = some (.int .i64 R) := by rw [cell_of_row w4 p 0 _ _ _ HE4.out.blk]; rfl
  have HW4 := Lib.hid (show Below w.heap.size w w4 from HW3.out.trans ⟨HE4.out.keeps.os, HE4.out.keeps.tape, HE4.out.keeps.output, HE4.out.keeps.size, fun b hb => HE4.out.keeps.block b (by have := HW3.out.size; omega) (by have := HPP.out; omega)⟩)
  go_wp2
  go_ret
  exact ⟨rfl, HW4.out⟩
end Go.Proofs.YtnkodejgiabamaaDoor
/-
  Show's writer: values in a row.
-/
namespace Go.Proofs.YtnkodejgiabamaaDoor
open Go.RowKit

theorem moreF_app : ∀ (l m : List PV), moreF (l ++ m) = moreF l ++ moreF m
  | [], m => rfl
  | x :: l, m => by simp only [List.cons_append, moreF, moreF_app l m, List.append_assoc]
theorem rowF_take {l : List PV} {k : Nat} {x : PV} (h : l[k]? = some x) : rowF (l.take (k + 1)) = rowF (l.take k) ++ (if k = 0 then formV x else 32 :: formV x) := by
  rw [List.take_add_one, h]
  cases l with
  | nil => cases h
  | cons y l =>
    cases k with
    | zero =>
      have e : y = x := by simpa using h
      subst e
      simp [rowF, moreF]
    | succ k =>
      rw [List.take_succ_cons]
      simp only [Option.toList_some, List.cons_append, rowF, moreF_app, moreF, List.append_nil, List.append_assoc]
      rw [if_neg (by omega)]
theorem rowF_le {l : List PV} {k : Nat} : (rowF (l.take k)).length ≤ (rowF l).length := by
  cases l with
  | nil => simp
  | cons y l =>
    cases k with
    | zero => simp [rowF]
    | succ k =>
      rw [List.take_succ_cons]
      simp only [rowF, List.length_append]
      have : (moreF (l.take k)).length ≤ (moreF l).length := by
        have h := moreF_app (l.take k) (l.drop k)
        rw [List.take_append_drop] at h
        rw [h]
        simp
      omega
theorem WrQ.lt {w : World} {S : Nat → Prop} {p : Nat} {out : List UInt8} (h : WrQ w S p out) {b : Nat} (hb : S b) : p ≤ b ∧ b < w.heap.size := by obtain ⟨_, _, h⟩ := h; exact h.lt b hb
theorem WrQ.pl {w : World} {S : Nat → Prop} {p : Nat} {out : List UInt8} (h : WrQ w S p out) : p < w.heap.size := by obtain ⟨_, _, h⟩ := h; exact (h.lt p h.own).2
theorem IsV.wr {w w' : World} {S : Nat → Prop} {p : Nat} {out : List UInt8} {v : PV} {sl : Value} (h : IsV w (fun b => b < p) v sl) (hq : WrQ w S p out) (hk : Keeps S w w') : IsV w' (fun b => b < p) v sl :=
  IsV.keep ⟨hk.size, fun b hb hF => hk.block b hb (fun hS => by have := (hq.lt hS).1; omega)⟩ (fun _ h => h) v h
/-- What value does, of one. -/
def ValW (p : Nat) (x : PV) : Prop := ∀ (sx : Value) (W : World) (S : Nat → Prop) (o : List UInt8), IsV W (fun b => b < p) x sx → WrQ W S p o → o.length + (formV x).length ≤ 1000000 →
  Calls Tryd.prog 23 #[.pointer (some ⟨p, 0, none⟩), pvA x sx] W fun e w' => e = .returned (.tuple #[]) ∧ WrNext W S p (o ++ formV x) w'

set_option maxRecDepth 8000 in
set_option maxHeartbeats 4000000 in
theorem rowW {w : World} {S : Nat → Prop} {p : Nat} {out : List UInt8} {v : PV} {a : Option Addr} {cap : Nat} (h : WrQ w S p out) (hv : IsV w (fun b => b < p) v (.slice a v.l.length cap)) (HX : ∀ (k : Nat) (x : PV), v.l[k]? = some x → ValW p x) (hl : out.length + (rowF v.l).length ≤ 1000000) :
    Calls Tryd.prog 41 #[.pointer (some ⟨p, 0, none⟩), .slice a v.l.length cap] w fun e w' => e = .returned (.tuple #[]) ∧ WrNext w S p (out ++ rowF v.l) w' := by
  have m1 : (v.l.length : Int) ≤ 9223372036854775807 := by obtain ⟨_, _, e, _, g2, _⟩ := hv.len; cases e; unfold maxLen at g2; omega
  have HV := Lib.hid hv
  have HQ := Lib.hid h
  have HXX := Lib.hid HX
  have HL := Lib.hid hl
  clear hv h HX hl
  obtain ⟨la, hla⟩ : ∃ la, la = v.l := ⟨_, rfl⟩
  have HLA := Lib.hid hla
  rw [← hla] at m1 HV HXX HL ⊢
  clear hla
  go_enter Tryd.func41, Tryd.ntmps41
  go_wp2
  go_loopw [8] (fun vk wr => ∃ k : Nat, vk = .int .i64 k ∧ k ≤ la.length ∧ Hid (WrNext w S p (out ++ rowF (la.take k)) wr)) (fun vk _ => la.length - (intOf vk).toNat)
  case atStart => exact ⟨0, rfl, Nat.zero_le _, Lib.hid (by rw [List.take_zero]; simpa [rowF] using WrNext.refl HQ.out)⟩
  case round =>
    obtain ⟨k, rfl, hk, HN⟩ := hrel
    by_cases q1 : k < la.length
    case neg =>
      have hd1 : decide (k < la.length) = false := decide_eq_false q1
      have hd2 : decide ((k : Int) < (la.length : Int)) = false := decide_eq_false (by omega)
      have hq2 : ¬ (k : Int) < (la.length : Int) := by omega
      have HE := Lib.hid (show WrNext w S p (out ++ rowF la) wr by
        have h2 := HN.out
        rwa [List.take_of_length_le (by omega)] at h2)
      clear HN HV HXX HL
      go_wp2
      go_end0
      exact ⟨rfl, HE.out⟩
    obtain ⟨S1, hq1, hk1, hs1⟩ := HN.out
    obtain ⟨x, hx⟩ : ∃ x, la[k]? = some x := ⟨_, List.getElem?_eq_getElem q1⟩
    obtain ⟨-, -, -, b1, o1, rfl, -, -, hax⟩ := (HV.out.wr HQ.out hk1).at (by omega)
    rw [← HLA.out] at hax
    obtain ⟨sx, hsx, x0, x1, x2, x3⟩ := hax k x hx
    obtain ⟨sa', sc', rfl, -, -, -⟩ := hsx.len
    have hT := rowF_take hx
    have hle : (rowF (la.take (k + 1))).length ≤ (rowF la).length := rowF_le
    have HVX := Lib.hid (HXX.out k x hx)
    have HSX := Lib.hid hsx
    have HQ1 := Lib.hid hq1
    have HK1 := Lib.hid hk1
    have HS1 := Lib.hid hs1
    have hkl : (0 : Int) ≤ (k : Int) := by omega
    have hki : (k : Int) < (la.length : Int) := by omega
    have hd1 : decide (k < la.length) = true := decide_eq_true q1
    have hd2 : decide ((k : Int) < (la.length : Int)) = true := decide_eq_true hki
    have HT := Lib.hid hT
    have HLE := Lib.hid hle
    clear hax hx hsx hq1 hk1 hs1 hT hle HN HV HXX
    have HB4 := Lib.hid (belowA wr (.cells #[.int .i64 x.kind, .int .i64 x.n, .string (mkB x.s), .slice sa' x.l.length sc'] 24))
    have HK4 := Lib.hid (heapA_new (w := wr) (b := wr.heap.size) (.cells #[.int .i64 x.kind, .int .i64 x.n, .string (mkB x.s), .slice sa' x.l.length sc'] 24) rfl)
    have HR4 := Lib.hid (show ¬ S1 wr.heap.size from fun hS => by have := (HQ1.out.lt hS).2; omega)
    go_upto_region 3 with fail
    obtain ⟨r4, hr4⟩ : ∃ r4, r4 = wr.heap.size := ⟨_, rfl⟩
    rw [← hr4] at HK4 HR4 ⊢
    clear hr4 x0 x1 x2 x3
    have HQ4 := Lib.hid (HQ1.out.keep HB4.out)
    have HS4 := Lib.hid (HSX.out.below HB4.out)
    have HFB := Lib.hid HB4.out
    clear HB4
    generalize wr.alloc _ = W4 at *
    by_cases hk0 : k = 0
    · have hd3 : decide ((0 : Int) < (k : Int)) = false := decide_eq_false (by omega)
      have hd4 : decide (0 < k) = false := decide_eq_false (by omega)
      have hk0' : ¬ (0 : Int) < (k : Int) := by omega
      have HCALL := Lib.hid (HVX.out _ W4 S1 _ HS4.out HQ4.out (by
        have h1 := HT.out
        have h2 := HLE.out
        have h3 := HL.out
        rw [h1, if_pos hk0] at h2
        simp only [List.length_append] at h2 ⊢
        omega))
      have HFIN := Lib.hid (fun (w3 : World) (hN3 : WrNext W4 S1 p ((out ++ rowF (la.take k)) ++ formV x) w3) => show WrNext w S p (out ++ rowF (la.take (k + 1))) w3 by
        rw [HT.out, if_pos hk0, ← List.append_assoc]
        exact WrNext.trans HK1.out HS1.out (WrNext.above HFB.out hN3))
      simp only [pvA] at HCALL
      obtain ⟨⟨t0, t1, t2, t3⟩, -⟩ := cells4 HK4.out
      clear hk0 HVX HQ4 HS4 HSX
      generalize x.kind = xk at *
      generalize x.n = xn at *
      generalize mkB x.s = xs at *
      generalize x.l.length = xl at *
      go_wp2_with fail
      refine HCALL.out.mono ?_
      rintro e w5 ⟨rfl, hN5⟩
      have HN5 := Lib.hid (HFIN.out _ hN5)
      clear hN5 HFIN HCALL t0 t1 t2 t3
      go_wp2
      go_roundw
      case rel => exact ⟨k + 1, by go_num, by omega, HN5⟩
      case measure => simp [intOf]; omega
    · have hd3 : decide ((0 : Int) < (k : Int)) = true := decide_eq_true (by omega)
      have hd4 : decide (0 < k) = true := decide_eq_true (by omega)
      have hk0' : (0 : Int) < (k : Int) := by omega
      have hbnd : (out ++ rowF (la.take k)).length + (formV x).length + 1 ≤ 1000000 := by
        have h1 := HT.out
        have h2 := HLE.out
        have h3 := HL.out
        rw [h1, if_neg hk0] at h2
        simp only [List.length_append, List.length_cons] at h2 ⊢
        omega
      have HBD := Lib.hid hbnd
      have HWB := Lib.hid (writeByteW HQ4.out 32 32 rfl (by omega))
      have HT2 := Lib.hid (show rowF (la.take (k + 1)) = rowF (la.take k) ++ 32 :: formV x by rw [HT.out, if_neg hk0])
      clear hk0 hbnd
      go_wp2_with fail
      refine HWB.out.mono ?_
      rintro e w5 ⟨rfl, hN5⟩
      obtain ⟨S2, hq2, hk2, hs2⟩ := hN5
      have HK5 := Lib.hid ((hk2.block r4 (lt_of_heapS HK4.out) HR4.out).trans HK4.out)
      have HCALL := Lib.hid (HVX.out _ w5 S2 _ (HS4.out.wr HQ4.out hk2) hq2 (by have := HBD.out; simp only [List.length_append, List.length_cons, List.length_nil] at this ⊢; omega))
      have HFIN := Lib.hid (fun (w3 : World) (hN3 : WrNext w5 S2 p (((out ++ rowF (la.take k)) ++ [32]) ++ formV x) w3) => show WrNext w S p (out ++ rowF (la.take (k + 1))) w3 by
        rw [HT2.out, ← List.append_assoc]
        have h3 := WrNext.trans HK1.out HS1.out (WrNext.above HFB.out (WrNext.trans hk2 hs2 hN3))
        rw [List.append_assoc _ [32]] at h3
        exact h3)
      simp only [pvA] at HCALL
      obtain ⟨⟨t0, t1, t2, t3⟩, -⟩ := cells4 HK5.out
      clear HVX HQ4 HS4 HSX hq2 hk2 hs2 HWB HK4
      generalize x.kind = xk at *
      generalize x.n = xn at *
      generalize mkB x.s = xs at *
      generalize x.l.length = xl at *
      go_wp2_with fail
      refine HCALL.out.mono ?_
      rintro e w6 ⟨rfl, hN6⟩
      have HN6 := Lib.hid (HFIN.out _ hN6)
      clear hN6 HFIN HCALL t0 t1 t2 t3
      go_wp2
      go_roundw
      case rel => exact ⟨k + 1, by go_num, by omega, HN6⟩
      case measure => simp [intOf]; omega
end Go.Proofs.YtnkodejgiabamaaDoor
