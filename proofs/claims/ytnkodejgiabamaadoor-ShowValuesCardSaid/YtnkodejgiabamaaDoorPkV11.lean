/-
  Our texts Sw5 to Sz2, in one.
-/
import Derived.Test.YtnkodejgiabamaaDoorPkV10
import Derived.Deep.Cut
/-
  Show's writer: whether a text can be read; texts; what has been put together.
-/
namespace Go.Proofs.YtnkodejgiabamaaDoor
open Go.RowKit

theorem readF_take {l : List UInt8} {k : Nat} {c : UInt8} (h : l[k]? = some c) : readF (l.take (k + 1)) = (readF (l.take k) && (decide (32 ≤ c.toNat) && decide (c.toNat ≤ 126))) := by
  unfold readF
  rw [List.take_add_one, h, List.all_append]
  simp
theorem readF_bad {l : List UInt8} {k : Nat} {c : UInt8} (h : l[k]? = some c) (hb : (decide (32 ≤ c.toNat) && decide (c.toNat ≤ 126)) = false) : readF l = false := by
  unfold readF
  rw [Bool.eq_false_iff]
  intro ha
  rw [List.all_eq_true] at ha
  have := ha c (List.mem_of_getElem? h)
  rw [hb] at this
  cases this

set_option maxRecDepth 8000 in
set_option maxHeartbeats 4000000 in
theorem readableW (s : List UInt8) (w : World) (hl : s.length ≤ 10000000) :
    Calls Tryd.prog 45 #[.string (mkB s)] w fun e w' => e = .returned (.bool (readF s)) ∧ w = w' := by
  have hsz : (mkB s).size = s.length := mkB_size s
  have hszi : ((mkB s).size : Int) = s.length := by rw [hsz]
  have HSZ := Lib.hid hsz
  obtain ⟨R, hR⟩ : ∃ R, R = readF s := ⟨_, rfl⟩
  rw [← hR]
  have HR := Lib.hid hR
  clear hR
  go_enter Tryd.func45, Tryd.ntmps45
  go_wp2
  go_loopw [6] (fun vk wr => ∃ k : Nat, vk = .int .i64 k ∧ k ≤ s.length ∧ wr = w ∧ Hid (readF (s.take k) = true)) (fun vk _ => s.length - (intOf vk).toNat)
  case atStart => exact ⟨0, rfl, Nat.zero_le _, rfl, Lib.hid rfl⟩
  case round =>
    obtain ⟨k, rfl, hk, hwr, HG⟩ := hrel
    rw [hwr]
    clear hwr
    by_cases q1 : k < s.length
    case neg =>
      have hd1 : decide (k < s.length) = false := decide_eq_false q1
      have hd2 : decide ((k : Int) < (s.length : Int)) = false := decide_eq_false (by omega)
      have hq2 : ¬ (k : Int) < (s.length : Int) := by omega
      have hg := HG.out
      rw [List.take_of_length_le (by omega)] at hg
      have hr := HR.out
      rw [hg] at hr
      subst hr
      clear hg HG HR
      go_wp2
      go_ret
      exact ⟨rfl, rfl⟩
    have hd1 : decide (k < s.length) = true := decide_eq_true q1
    have hd2 : decide ((k : Int) < (s.length : Int)) = true := decide_eq_true (by omega)
    have hk0 : (0 : Int) ≤ (k : Int) := by omega
    have hk1 : (k : Int) < (s.length : Int) := by omega
    have hk2 : k < (mkB s).size := by omega
    obtain ⟨c, hc⟩ : ∃ c, c = s[k]'q1 := ⟨_, rfl⟩
    have hcs : s[k]? = some c := by rw [hc]; exact List.getElem?_eq_getElem q1
    obtain ⟨n, hn⟩ : ∃ n, n = c.toNat := ⟨_, rfl⟩
    have hat : ((mkB s)[k]'hk2).toNat = n := by rw [hn, hc]; exact at_mkB q1 hk2
    by_cases h1 : n < 32
    · have b1 : decide (n < 32) = true := decide_eq_true h1
      have b1' : decide ((n : Int) < 32) = true := decide_eq_true (by omega)
      have hb : readF s = false := readF_bad hcs (by rw [← hn, decide_eq_false (by omega), Bool.false_and])
      have hr := HR.out
      rw [hb] at hr
      subst hr
      clear HG HR hb hcs hc hn h1
      go_wp2
      go_ret
      exact ⟨rfl, rfl⟩
    have b1 : decide (n < 32) = false := decide_eq_false h1
    have b1' : decide ((n : Int) < 32) = false := decide_eq_false (by omega)
    by_cases h2 : 126 < n
    · have b2 : decide (126 < n) = true := decide_eq_true h2
      have b2' : decide ((126 : Int) < (n : Int)) = true := decide_eq_true (by omega)
      have hb : readF s = false := readF_bad hcs (by rw [← hn, decide_eq_false (show ¬ n ≤ 126 by omega), Bool.and_false])
      have hr := HR.out
      rw [hb] at hr
      subst hr
      clear HG HR hb hcs hc hn h1 h2
      go_wp2
      go_ret
      exact ⟨rfl, rfl⟩
    have b2 : decide (126 < n) = false := decide_eq_false h2
    have b2' : decide ((126 : Int) < (n : Int)) = false := decide_eq_false (by omega)
    have HG2 := Lib.hid (show readF (s.take (k + 1)) = true by rw [readF_take hcs, HG.out, ← hn, decide_eq_true (by omega), decide_eq_true (by omega)]; rfl)
    clear HG hcs hc hn h1 h2
    go_wp2
    go_roundw
    case rel => exact ⟨k + 1, by go_num, by omega, trivial, HG2⟩
    case measure => simp [intOf]; omega

set_option maxRecDepth 8000 in
set_option maxHeartbeats 4000000 in
theorem hexsW {w : World} {S : Nat → Prop} {p : Nat} {out : List UInt8} (h : WrQ w S p out) (s : List UInt8) (hl : out.length + 2 * s.length + 4 ≤ 10000000) (hrd : readF s = false) :
    Calls Tryd.prog 31 #[.pointer (some ⟨p, 0, none⟩), .string (mkB s)] w fun e w' => e = .returned (.tuple #[]) ∧ WrNext w S p (out ++ textF s) w' := by
  have HTX := Lib.hid (show textF s = 60 :: (hexF s ++ [62]) by unfold textF; rw [if_neg (by rw [hrd]; decide)])
  have HRD := Lib.hid (fun W => readableW s W (by omega))
  rw [hrd] at HRD
  have HA := Lib.hid (writeByteW h 60 60 rfl (by omega))
  have hsz : (mkB s).size = s.length := mkB_size s
  have hszi : ((mkB s).size : Int) = s.length := by rw [hsz]
  have HSZ := Lib.hid hsz
  have hm : (s.length : Int) ≤ 10000000 := by omega
  clear hrd
  go_enter Tryd.func31, Tryd.ntmps31
  go_wp2_with (go_at_call 45; refine (HRD.out _).mono ?_; rintro e w' ⟨rfl, rfl⟩)
  refine HA.out.mono ?_
  rintro e w1 ⟨rfl, hN1⟩
  have HN1 := Lib.hid hN1
  clear hN1 HA HRD
  go_wp2
  go_loopw [15] (fun vk wr => ∃ k : Nat, vk = .int .i64 k ∧ k ≤ s.length ∧ Hid (WrNext w S p ((out ++ [60]) ++ hexF (s.take k)) wr)) (fun vk _ => s.length - (intOf vk).toNat)
  case atStart => exact ⟨0, rfl, Nat.zero_le _, Lib.hid (by rw [List.take_zero]; simpa [hexF] using HN1.out)⟩
  case round =>
    obtain ⟨k, rfl, hk, HN⟩ := hrel
    obtain ⟨S1, hq1, hk1', hs1⟩ := HN.out
    have HQ1 := Lib.hid hq1
    have HK1 := Lib.hid hk1'
    have HS1 := Lib.hid hs1
    have hlen : ((out ++ [60]) ++ hexF (s.take k)).length + 2 ≤ 10000000 := by
      have h1 := hexF_len (s.take k)
      rw [List.length_take] at h1
      simp
      omega
    have HOL := Lib.hid hlen
    clear hq1 hk1' hs1 HN HN1 hlen
    by_cases q1 : k < s.length
    case neg =>
      have hd1 : decide (k < s.length) = false := decide_eq_false q1
      have hd2 : decide ((k : Int) < (s.length : Int)) = false := decide_eq_false (by omega)
      have hq2 : ¬ (k : Int) < (s.length : Int) := by omega
      have HWB := Lib.hid (writeByteW HQ1.out 62 62 rfl (by have := HOL.out; omega))
      have HTK := Lib.hid (show s.take k = s from List.take_of_length_le (by omega))
      go_wp2_with fail
      refine HWB.out.mono ?_
      rintro e w2 ⟨rfl, hN2⟩
      have HE := Lib.hid (show WrNext w S p (out ++ textF s) w2 by
        have h3 := WrNext.trans HK1.out HS1.out hN2
        rw [HTK.out] at h3
        rw [HTX.out]
        simpa using h3)
      clear hN2
      go_wp2
      first
        | go_end0
        | refine bodyPost_ret (results_none rfl _ _ _) rfl ?_
      exact ⟨rfl, HE.out⟩
    have hd1 : decide (k < s.length) = true := decide_eq_true q1
    have hd2 : decide ((k : Int) < (s.length : Int)) = true := decide_eq_true (by omega)
    have hk0 : (0 : Int) ≤ (k : Int) := by omega
    have hk1 : (k : Int) < (s.length : Int) := by omega
    have hk2 : k < (mkB s).size := by omega
    obtain ⟨c, hc⟩ : ∃ c, c = s[k]'q1 := ⟨_, rfl⟩
    have hcs : s[k]? = some c := by rw [hc]; exact List.getElem?_eq_getElem q1
    have hT := hexF_take hcs
    obtain ⟨n, hn⟩ : ∃ n, n = c.toNat := ⟨_, rfl⟩
    have hat : ((mkB s)[k]'hk2).toNat = n := by rw [hn, hc]; exact at_mkB q1 hk2
    have HH := Lib.hid (hexW HQ1.out c HOL.out)
    rw [← hn] at HH
    have HT := Lib.hid hT
    clear hT hn hc hcs
    go_wp2_with fail
    refine HH.out.mono ?_
    rintro e w2 ⟨rfl, hN2⟩
    have HN2 := Lib.hid (show WrNext w S p ((out ++ [60]) ++ hexF (s.take (k + 1))) w2 by
      rw [HT.out, ← List.append_assoc (out ++ [60])]
      exact WrNext.trans HK1.out HS1.out hN2)
    clear hN2 HH
    go_wp2
    go_roundw
    case rel => exact ⟨k + 1, by go_num, by omega, HN2⟩
    case measure => simp [intOf]; omega

set_option maxRecDepth 8000 in
set_option maxHeartbeats 4000000 in
theorem baresW {w : World} {S : Nat → Prop} {p : Nat} {out : List UInt8} (h : WrQ w S p out) (s : List UInt8) (hl : out.length + 2 * s.length + 4 ≤ 10000000) (hrd : readF s = true) :
    Calls Tryd.prog 31 #[.pointer (some ⟨p, 0, none⟩), .string (mkB s)] w fun e w' => e = .returned (.tuple #[]) ∧ WrNext w S p (out ++ textF s) w' := by
  have HTX := Lib.hid (show textF s = 40 :: (bareF s ++ [41]) by unfold textF; rw [if_pos hrd])
  have HRD := Lib.hid (fun W => readableW s W (by omega))
  rw [hrd] at HRD
  have HA := Lib.hid (writeByteW h 40 40 rfl (by omega))
  have hsz : (mkB s).size = s.length := mkB_size s
  have hszi : ((mkB s).size : Int) = s.length := by rw [hsz]
  have HSZ := Lib.hid hsz
  have hm : (s.length : Int) ≤ 10000000 := by omega
  clear hrd
  go_enter Tryd.func31, Tryd.ntmps31
  go_wp2_with (go_at_call 45; refine (HRD.out _).mono ?_; rintro e w' ⟨rfl, rfl⟩)
  refine HA.out.mono ?_
  rintro e w1 ⟨rfl, hN1⟩
  have HN1 := Lib.hid hN1
  clear hN1 HA HRD
  go_wp2
  go_loopw [34] (fun vk wr => ∃ k : Nat, vk = .int .i64 k ∧ k ≤ s.length ∧ Hid (WrNext w S p ((out ++ [40]) ++ bareF (s.take k)) wr)) (fun vk _ => s.length - (intOf vk).toNat)
  case atStart => exact ⟨0, rfl, Nat.zero_le _, Lib.hid (by rw [List.take_zero]; simpa [bareF] using HN1.out)⟩
  case round =>
    obtain ⟨k, rfl, hk, HN⟩ := hrel
    obtain ⟨S1, hq1, hk1', hs1⟩ := HN.out
    have HQ1 := Lib.hid hq1
    have HK1 := Lib.hid hk1'
    have HS1 := Lib.hid hs1
    have hlen : ((out ++ [40]) ++ bareF (s.take k)).length + 2 ≤ 10000000 ∨ k = s.length := by
      have h1 := bareF_len (s.take k)
      rw [List.length_take] at h1
      simp
      omega
    have hlen1 : ((out ++ [40]) ++ bareF (s.take k)).length ≤ 10000000 := by
      have h1 := bareF_len (s.take k)
      rw [List.length_take] at h1
      simp
      omega
    have HOL := Lib.hid hlen
    have HOL1 := Lib.hid hlen1
    clear hq1 hk1' hs1 HN HN1 hlen hlen1
    by_cases q1 : k < s.length
    case neg =>
      have hd1 : decide (k < s.length) = false := decide_eq_false q1
      have hd2 : decide ((k : Int) < (s.length : Int)) = false := decide_eq_false (by omega)
      have hq2 : ¬ (k : Int) < (s.length : Int) := by omega
      have HWB := Lib.hid (writeByteW HQ1.out 41 41 rfl HOL1.out)
      have HTK := Lib.hid (show s.take k = s from List.take_of_length_le (by omega))
      go_wp2_with fail
      refine HWB.out.mono ?_
      rintro e w2 ⟨rfl, hN2⟩
      have HE := Lib.hid (show WrNext w S p (out ++ textF s) w2 by
        have h3 := WrNext.trans HK1.out HS1.out hN2
        rw [HTK.out] at h3
        rw [HTX.out]
        simpa using h3)
      clear hN2
      go_wp2
      first
        | go_end0
        | refine bodyPost_ret (results_none rfl _ _ _) rfl ?_
      exact ⟨rfl, HE.out⟩
    have hd1 : decide (k < s.length) = true := decide_eq_true q1
    have hd2 : decide ((k : Int) < (s.length : Int)) = true := decide_eq_true (by omega)
    have hk0 : (0 : Int) ≤ (k : Int) := by omega
    have hk1 : (k : Int) < (s.length : Int) := by omega
    have hk2 : k < (mkB s).size := by omega
    obtain ⟨c, hc⟩ : ∃ c, c = s[k]'q1 := ⟨_, rfl⟩
    have hcs : s[k]? = some c := by rw [hc]; exact List.getElem?_eq_getElem q1
    have hT := bareF_take hcs
    obtain ⟨n, hn⟩ : ∃ n, n = c.toNat := ⟨_, rfl⟩
    have hat : ((mkB s)[k]'hk2).toNat = n := by rw [hn, hc]; exact at_mkB q1 hk2
    have hI := fun W => sidx2_any ⟨#[40, 41, 92]⟩ (c.toNat : Int) W
    rw [u8_back] at hI
    have hix : decide (0 ≤ Lib.indexByte [40, 41, 92] c) = decide (c ∈ [(40 : UInt8), 41, 92]) := idx_memS _ _
    have hbr : brF c = if c ∈ [(40 : UInt8), 41, 92] then [92, c] else [c] := by unfold brF; simp
    have hl2 : ((out ++ [40]) ++ bareF (s.take k)).length + 2 ≤ 10000000 := by rcases HOL.out with h | h; exact h; omega
    have HWB := Lib.hid (fun (S1 : Nat → Prop) (W : World) (o : List UInt8) (hq : WrQ W S1 p o) (ho : o.length ≤ 10000000) => writeByteW hq c n (by rw [hn]) ho)
    have HW92 := Lib.hid (writeByteW HQ1.out 92 92 rfl HOL1.out)
    rw [← hn] at hI
    have HI := Lib.hid (show ∀ W, Calls Tryd.prog 47 #[.string ⟨#[40, 41, 92]⟩, .int .u8 (n : Int)] W fun e w' => e = .returned (.int .i64 (Lib.indexByte [40, 41, 92] c)) ∧ W = w' from hI)
    have HT := Lib.hid hT
    have HBR := Lib.hid hbr
    have HL2 := Lib.hid hl2
    clear hT hn hc hcs hI hbr hl2
    generalize Lib.indexByte [40, 41, 92] c = ix at *
    by_cases hm92 : c ∈ [(40 : UInt8), 41, 92]
    · rw [decide_eq_true hm92] at hix
      have HCB := Lib.hid (show brF c = [92, c] by rw [HBR.out, if_pos hm92])
      clear HBR hm92
      go_wp2_with (go_at_call 47; refine (HI.out _).mono ?_; rintro e w' ⟨rfl, rfl⟩)
      refine HW92.out.mono ?_
      rintro e w2 ⟨rfl, hN2⟩
      obtain ⟨S2, hq2, hk2', hs2⟩ := hN2
      have HW2 := Lib.hid (HWB.out S2 w2.drew _ (hq2.keep (Below.refl _ _).drew) (by have := HL2.out; simp at this ⊢; omega))
      have HFIN := Lib.hid (fun (w3 : World) (hN3 : WrNext w2.drew S2 p ((((out ++ [40]) ++ bareF (s.take k)) ++ [92]) ++ [c]) w3) => show WrNext w S p ((out ++ [40]) ++ bareF (s.take (k + 1))) w3 by
        rw [HT.out, HCB.out]
        have h3 := WrNext.trans HK1.out HS1.out (WrNext.trans hk2' hs2 (WrNext.above (Below.refl _ _).drew hN3))
        rw [List.append_assoc _ [92]] at h3
        rw [← List.append_assoc (out ++ [40])]
        exact h3)
      clear hq2 hk2' hs2 HW92 HWB HCB HT
      go_wp2
      go_region_with ((go_at_call 40; refine HW2.out.mono ?_; rintro e w3 ⟨rfl, hN3⟩; have HN3 := Lib.hid (HFIN.out _ hN3); clear hN3))
      go_wp2
      go_roundw
      case rel => exact ⟨k + 1, by go_num, by omega, HN3⟩
      case measure => simp [intOf]; omega
    · rw [decide_eq_false hm92] at hix
      have HCB := Lib.hid (show brF c = [c] by rw [HBR.out, if_neg hm92])
      have HW2 := Lib.hid (HWB.out S1 wr.drew _ (HQ1.out.keep (Below.refl _ _).drew) (by have := HL2.out; omega))
      have HFIN := Lib.hid (fun (w3 : World) (hN3 : WrNext wr.drew S1 p (((out ++ [40]) ++ bareF (s.take k)) ++ [c]) w3) => show WrNext w S p ((out ++ [40]) ++ bareF (s.take (k + 1))) w3 by
        rw [HT.out, HCB.out]
        have h3 := WrNext.trans HK1.out HS1.out (WrNext.above (Below.refl _ _).drew hN3)
        rw [← List.append_assoc (out ++ [40])]
        exact h3)
      clear HBR hm92 HW92 HWB HCB HT
      go_wp2_with (go_at_call 47; refine (HI.out _).mono ?_; rintro e w' ⟨rfl, rfl⟩)
      go_region_with ((go_at_call 40; refine HW2.out.mono ?_; rintro e w3 ⟨rfl, hN3⟩; have HN3 := Lib.hid (HFIN.out _ hN3); clear hN3))
      go_wp2
      go_roundw
      case rel => exact ⟨k + 1, by go_num, by omega, HN3⟩
      case measure => simp [intOf]; omega
theorem textW {w : World} {S : Nat → Prop} {p : Nat} {out : List UInt8} (h : WrQ w S p out) (s : List UInt8) (hl : out.length + 2 * s.length + 4 ≤ 10000000) :
    Calls Tryd.prog 31 #[.pointer (some ⟨p, 0, none⟩), .string (mkB s)] w fun e w' => e = .returned (.tuple #[]) ∧ WrNext w S p (out ++ textF s) w' := by
  cases hrd : readF s
  · exact hexsW h s hl hrd
  · exact baresW h s hl hrd

theorem cellsByteW : Tryd.prog.cellsOf 5 = 1 := by kernel_rfl
theorem keeps_freezeW {S : Nat → Prop} {w : World} {a : Addr} (h : S a.block) (n : Nat) : Keeps S w (w.freeze a n) := by
  unfold World.freeze
  split
  · exact Keeps.refl _ _
  · exact ⟨rfl, rfl, rfl, by simp, fun b _ hn => by
      simp only [Array.getElem?_modify]
      rw [if_neg (fun e : a.block = b => hn (e ▸ h))]⟩

set_option maxRecDepth 100000 in
set_option maxHeartbeats 2000000 in
theorem stringW {w : World} {S : Nat → Prop} {p : Nat} {out : List UInt8} (h : WrQ w S p out) (h0 : out ≠ []) :
    Calls Tryd.prog 24 #[.pointer (some ⟨p, 0, none⟩)] w fun e w' => e = .returned (.string (mkB out)) ∧ Keeps S w w' := by
  obtain ⟨ad, v, h⟩ := h
  obtain ⟨-, c1⟩ := h.cells
  have hl0 : out.length ≠ 0 := by simpa using h0
  obtain ⟨g, cap, cur, rfl, hbg, hg, hnc, hcm, hcs, htake⟩ : ∃ g cap cur, v = .slice (some ⟨g, 0, none⟩) out.length cap ∧ p + 1 ≤ g ∧ w.heap[g]? = some (.cells cur 5 (0, 0)) ∧ out.length ≤ cap ∧ cap ≤ maxLen ∧ cur.size = cap * 1 ∧ cur.toList.take (out.length * 1) = out.map u8W := by
    rcases h.row.2 with ⟨_, hz⟩ | ⟨g, cap, cur, hv, r⟩
    · exact absurd hz hl0
    · exact ⟨g, cap, cur, hv, r⟩
  have c1' : w.drew.cell? ⟨p, 1, none⟩ = some (.slice (some ⟨g, 0, none⟩) out.length cap) := c1
  have hSD : (Builtin.unsafeSliceData_ #[45] 66 #[.slice (some ⟨g, 0, none⟩) out.length cap]).run Tryd.prog w.drew = .ok (.pointer (some ⟨g, 0, none⟩)) w.drew :=
    Lib.run_unsafeSliceData_row _ _ _ _ _ _ (by omega)
  have hUS : (Builtin.unsafeString_ #[66, 3] 9 #[.pointer (some ⟨g, 0, none⟩), .int .i64 out.length]).run Tryd.prog w.drew = .ok (.string ⟨out.toArray⟩) (w.drew.freeze ⟨g, 0, none⟩ out.length) := by
    refine Lib.run_unsafeString_row w.drew 66 3 9 5 Tryd.underlying66 cellsByteW g cur.size (by have hg' : w.drew.heap[g]? = some (.cells cur 5 (0, 0)) := hg; simp [World.shape?, hg']) out h0 (by omega) (by unfold maxLen at hcm; omega) ?_
    intro j x hx
    exact h.row.cells (g := g) rfl j (u8W x) (by simp [hx])
  have HK := Lib.hid (show Keeps S w (w.drew.freeze ⟨g, 0, none⟩ out.length) from Keeps.trans ((Keeps.refl S w).drewN 1) (keeps_freezeW (S := S) (h.at_ g rfl) _) (fun _ hx => .inl hx))
  clear h htake hcs hg
  go_enter Tryd.func24, Tryd.ntmps24
  go_wp2
  go_region
  all_goals
    go_wp2
    go_ret
    exact ⟨rfl, HK.out⟩
end Go.Proofs.YtnkodejgiabamaaDoor
/-
  Layer 13's document: hex digits; whether a text may be a name's.
-/
namespace Go.Proofs.YtnkodejgiabamaaDoor
open Go.RowKit

theorem ext_sg : ∀ (k : Nat), k < 16 → (⟨#[48, 49, 50, 51, 52, 53, 54, 55, 56, 57, 97, 98, 99, 100, 101, 102]⟩ : ByteArray).extract k (k + 1) = mkB [hexG k] := by
  have : ∀ d : Fin 16, (⟨#[48, 49, 50, 51, 52, 53, 54, 55, 56, 57, 97, 98, 99, 100, 101, 102]⟩ : ByteArray).extract d.1 (d.1 + 1) = mkB [hexG d.1] := by decide
  exact fun k h => this ⟨k, h⟩
theorem mkB_app (a b : List UInt8) : mkB a ++ mkB b = mkB (a ++ b) := ByteArray.mk_append_mk a b

set_option maxRecDepth 8000 in
set_option maxHeartbeats 2000000 in
theorem rhex13 (c : UInt8) (w : World) : Calls Tryd.prog 30 #[.int .u8 c.toNat] w fun e w' => e = .returned (.string (mkB (hexB c))) ∧ ∃ q, w' = w.drewN q := by
  have hx : mkB (hexB c) = (⟨#[48, 49, 50, 51, 52, 53, 54, 55, 56, 57, 97, 98, 99, 100, 101, 102]⟩ : ByteArray).extract (c.toNat / 16) (c.toNat / 16 + 1) ++ (⟨#[48, 49, 50, 51, 52, 53, 54, 55, 56, 57, 97, 98, 99, 100, 101, 102]⟩ : ByteArray).extract (c.toNat % 16) (c.toNat % 16 + 1) := by
    have h := c.toNat_lt
    rw [ext_sg _ (by omega), ext_sg _ (by omega), mkB_app]; rfl
  have hc := c.toNat_lt
  generalize mkB (hexB c) = R at *
  have HX := Lib.hid hx
  clear hx
  generalize c.toNat = n at *
  have h1 : n / 16 < 16 := by omega
  have h2 : n % 16 < 16 := by omega
  have h3 : (n : Int) / 16 < 16 := by omega
  have h4 : (n : Int) % 16 < 16 := by omega
  have h5 : (0 : Int) ≤ (n : Int) / 16 := by omega
  have h6 : (0 : Int) ≤ (n : Int) % 16 := by omega
  go_enter Tryd.func30, Tryd.ntmps30
  go_wp2
  go_quiet (fail)
  go_wp2
  go_ret
  exact ⟨by rw [HX.out]; rfl, _, rfl⟩

/-- May a text be a name's? -/
def nameC (s : List UInt8) : Bool := !(decide (127 < s.length) || decide ((0 : UInt8) ∈ s))
set_option maxRecDepth 8000 in
set_option maxHeartbeats 4000000 in
theorem rtext11 (s : List UInt8) (w : World) (hl : s.length ≤ 10000000) :
    Calls Tryd.prog 28 #[.string (mkB s)] w fun e w' => e = .returned (.bool (nameC s)) ∧ w = w' := by
  have hsz : (mkB s).size = s.length := mkB_size s
  have hszi : ((mkB s).size : Int) = s.length := by rw [hsz]
  obtain ⟨R, hR⟩ : ∃ R, R = nameC s := ⟨_, rfl⟩
  rw [← hR]
  unfold nameC at hR
  have HR := Lib.hid hR
  clear hR
  go_enter Tryd.func28, Tryd.ntmps28
  go_wp2
  go_loopw [3] (fun vk wr => ∃ k : Nat, vk = .int .i64 k ∧ k ≤ s.length ∧ wr = w ∧ Hid ((0 : UInt8) ∉ s.take k)) (fun vk _ => s.length - (intOf vk).toNat)
  case atStart => exact ⟨0, rfl, Nat.zero_le _, rfl, Lib.hid (by simp)⟩
  case round =>
    obtain ⟨k, rfl, hk, hwr, HG⟩ := hrel
    rw [hwr]
    clear hwr
    by_cases q1 : k < s.length
    case neg =>
      have hd1 : decide (k < s.length) = false := decide_eq_false q1
      have hd2 : decide ((k : Int) < (s.length : Int)) = false := decide_eq_false (by omega)
      have hq2 : ¬ (k : Int) < (s.length : Int) := by omega
      have hg := HG.out
      rw [List.take_of_length_le (by omega)] at hg
      have hr := HR.out
      rw [decide_eq_false hg, Bool.or_false] at hr
      by_cases h127 : 127 < s.length
      · have b1 : decide (s.length ≤ 127) = false := decide_eq_false (by omega)
        have b2 : decide ((s.length : Int) ≤ 127) = false := decide_eq_false (by omega)
        rw [decide_eq_true h127] at hr
        obtain rfl : R = false := hr
        clear HR HG hg
        go_wp2
        go_ret
        exact ⟨rfl, rfl⟩
      · have b1 : decide (s.length ≤ 127) = true := decide_eq_true (by omega)
        have b2 : decide ((s.length : Int) ≤ 127) = true := decide_eq_true (by omega)
        rw [decide_eq_false h127] at hr
        obtain rfl : R = true := hr
        clear HR HG hg
        go_wp2
        go_ret
        exact ⟨rfl, rfl⟩
    have hd1 : decide (k < s.length) = true := decide_eq_true q1
    have hd2 : decide ((k : Int) < (s.length : Int)) = true := decide_eq_true (by omega)
    have hk0 : (0 : Int) ≤ (k : Int) := by omega
    have hk1 : (k : Int) < (s.length : Int) := by omega
    have hk2 : k < (mkB s).size := by omega
    obtain ⟨c, hc⟩ : ∃ c, c = s[k]'q1 := ⟨_, rfl⟩
    have hcs : s[k]? = some c := by rw [hc]; exact List.getElem?_eq_getElem q1
    obtain ⟨n, hn⟩ : ∃ n, n = c.toNat := ⟨_, rfl⟩
    have hat : ((mkB s)[k]'hk2).toNat = n := by rw [hn, hc]; exact at_mkB q1 hk2
    by_cases h0 : n = 0
    · have b1 : (n == 0) = true := by rw [h0]; rfl
      have b2 : ((n : Int) == 0) = true := by rw [h0]; rfl
      have hc0 : c = 0 := UInt8.toNat_inj.1 (by rw [← hn, h0]; rfl)
      have hr := HR.out
      rw [decide_eq_true (show (0 : UInt8) ∈ s by rw [← hc0]; exact List.mem_of_getElem? hcs), Bool.or_true] at hr
      obtain rfl : R = false := hr
      clear HR HG hc0 hcs hc hn h0
      go_wp2
      go_ret
      exact ⟨rfl, rfl⟩
    · have b1 : (n == 0) = false := by rw [beq_eq_false_iff_ne]; exact h0
      have b2 : ((n : Int) == 0) = false := by rw [beq_eq_false_iff_ne]; omega
      have HG2 := Lib.hid (show (0 : UInt8) ∉ s.take (k + 1) by
        rw [List.take_add_one, hcs]
        intro hm
        rcases List.mem_append.1 hm with hm | hm
        · exact HG.out hm
        · simp at hm
          exact h0 (by rw [hn, ← hm]; rfl))
      clear HG hcs hc hn h0
      go_wp2
      go_roundw
      case rel => exact ⟨k + 1, by go_num, by omega, trivial, HG2⟩
      case measure => simp [intOf]; omega
end Go.Proofs.YtnkodejgiabamaaDoor
/-
  The walk of ref11.dict: a dictionary by itself, without a number and a text. (Printed by gensown.py.)
-/
namespace Go.Proofs.YtnkodejgiabamaaDoor
open Go.RowKit

set_option maxRecDepth 8000 in
set_option maxHeartbeats 4000000 in
theorem rdict_any {v : PV} {sl : Value} {w : World} (hv : IsV w anyF v sl) (hn : v.n = 0) (hs : v.s = []) :
    Calls Tryd.prog 74 #[pvA v sl] w fun e w' => e = .returned (.int .i64 (dictC v.l)) ∧ Below w.heap.size w w' := by
  obtain ⟨a1, cap1, e1, g1, g2, g3⟩ := hv.len
  subst e1
  have HA := Lib.hid hv
  have m1 : (v.l.length : Int) ≤ 9223372036854775807 := by unfold maxLen at g2; omega
  unfold pvA
  clear hv g2 g3
  obtain ⟨la, hla⟩ : ∃ la, la = v.l := ⟨_, rfl⟩
  have HLA := Lib.hid hla
  rw [← hla] at m1 g1 HA ⊢
  clear hla
  obtain ⟨R, hR⟩ : ∃ R, R = dictC la := ⟨_, rfl⟩
  rw [← hR]
  unfold dictC at hR
  have HR := Lib.hid hR
  clear hR
  rw [hn, hs, show mkB [] = ⟨#[]⟩ from rfl]
  clear hn hs
  generalize v.kind = k0 at *
  go_enter Tryd.func74, Tryd.ntmps74
  obtain ⟨B, hB⟩ : ∃ B, B = w.heap.size := ⟨_, rfl⟩
  have HX1 := Lib.hid (heapA_new (w := w) (b := B) (.cells #[.int .i64 k0, .int .i64 0, .string ⟨#[]⟩, .slice a1 la.length cap1] 24) hB)
  have HW := Lib.hid (belowA w (.cells #[.int .i64 k0, .int .i64 0, .string ⟨#[]⟩, .slice a1 la.length cap1] 24))
  go_upto_region 1 with fail
  rw [← hB]
  clear hB
  generalize w.alloc _ = W1 at *
  obtain ⟨⟨c0, c1, c2, c3⟩, -⟩ := cells4 HX1.out
  by_cases he : la.length % 2 = 0
  case neg =>
    have he1 : ((la.length : Int) % 2 == 1) = true := by rw [beq_iff_eq]; omega
    have he2 : ((la.length : Int) % 2 == 0) = false := by rw [beq_eq_false_iff_ne]; omega
    have he3 : ((la.length : Int) % 2 != 0) = true := by simp only [bne, he2, Bool.not_false]
    have hr := HR.out
    rw [if_pos he] at hr
    subst hr
    clear HR HA he
    go_wp2
    go_ret
    exact ⟨rfl, HW.out⟩
  have he1 : ((la.length : Int) % 2 == 1) = false := by rw [beq_eq_false_iff_ne]; omega
  have he2 : ((la.length : Int) % 2 == 0) = true := by rw [beq_iff_eq]; omega
  have he3 : ((la.length : Int) % 2 != 0) = false := by simp only [bne, he2, Bool.not_true]
  have HE := Lib.hid he
  have hr := HR.out
  rw [if_neg (by omega)] at hr
  clear HR
  have HR := Lib.hid hr
  clear hr he
  go_wp2
  clear he1 he2 he3
  go_loopw [3] (fun vk wr => ∃ j K : Nat, vk = .int .i64 (K : Int) ∧ Hid (K = j * 2) ∧ K ≤ la.length ∧ wr = W1 ∧ Hid (∀ i x, i < j → la[i * 2]? = some x → x.kind = 5)) (fun vk _ => la.length + 2 - (intOf vk).toNat)
  case atStart => exact ⟨0, 0, rfl, rfl, by omega, rfl, Lib.hid fun i x h => absurd h (Nat.not_lt_zero _)⟩
  case round =>
    obtain ⟨j, k, rfl, HK, hj, hwr, HG⟩ := hrel
    rw [hwr]
    clear hwr
    have hke : k < la.length → k + 2 ≤ la.length := fun h => by have h1 := HK.out; have h2 := HE.out; omega
    by_cases q1 : k < la.length
    case pos =>
      obtain ⟨x, hx⟩ : ∃ x, la[k]? = some x := ⟨_, List.getElem?_eq_getElem q1⟩
      obtain ⟨-, -, -, b1, o1, rfl, -, -, hax⟩ := (HA.out.below HW.out).at (by omega)
      rw [← HLA.out] at hax
      obtain ⟨sx, -, x0, -⟩ := hax k x hx
      have hkl : (0 : Int) ≤ (k : Int) := by omega
      have hki : (k : Int) < (la.length : Int) := by omega
      have hd1 : decide (k < la.length) = true := decide_eq_true q1
      have hd2 : decide ((k : Int) < (la.length : Int)) = true := decide_eq_true hki
      have hk2 := hke q1
      clear hke
      by_cases h5 : x.kind = 5
      · rw [h5] at x0
        have HG2 := Lib.hid (show ∀ i y, i < j + 1 → la[i * 2]? = some y → y.kind = 5 from fun i y hi hy => by
          by_cases e : i = j
          · subst e
            have h1 := HK.out
            rw [← h1, hx] at hy
            cases hy
            exact h5
          · exact HG.out i y (by omega) hy)
        clear hax hx h5 HG
        go_wp2
        go_roundw
        case rel => exact ⟨j + 1, k + 2, by go_num, by have := HK.out; show k + 2 = (j + 1) * 2; omega, hk2, trivial, HG2⟩
        case measure => simp [intOf]; omega
      · have h51 : (x.kind == 5) = false := by rw [beq_eq_false_iff_ne]; exact h5
        have h52 : (x.kind != 5) = true := by simp only [bne, h51, Bool.not_false]
        have hev : evenN la = false := by
          cases hq : evenN la with
          | false => rfl
          | true => exact absurd (evenN_getS hq (k := j) (by rw [← HK.out]; exact hx)) h5
        have hr := HR.out
        rw [if_pos hev] at hr
        subst hr
        generalize x.kind = xk at *
        clear hax hx h5 HG HR HA hev HK HE
        go_wp2
        go_ret
        exact ⟨rfl, HW.out⟩
    have hd1 : decide (k < la.length) = false := decide_eq_false q1
    have hd2 : decide ((k : Int) < (la.length : Int)) = false := decide_eq_false (by omega)
    have hq2 : ¬ (k : Int) < (la.length : Int) := by omega
    have hev : evenN la = true := evenN_of la fun i x hx => HG.out i x (by
      have h1 := HK.out
      have h2 := (List.getElem?_eq_some_iff.1 hx).1
      omega) hx
    have hr := HR.out
    rw [if_neg (by rw [hev]; decide)] at hr
    clear HR
    have HR := Lib.hid hr
    clear hr HK hj hke HG hev
    go_wp2
    clear hd1 hd2 hq2 q1
    clear c0 c1 c2 c3
    go_loopw [4] (fun vk wr => ∃ j m K : Nat, vk = .int .i64 (K : Int) ∧ Hid (m = j * 2) ∧ m + 2 = K ∧ m ≤ la.length ∧ Hid (Below W1.heap.size W1 wr) ∧ Hid (∀ i x y, i < j → la[i * 2]? = some x → la[i * 2 + 2]? = some y → sLt x.s y.s = true)) (fun vk _ => la.length + 4 - (intOf vk).toNat)
    case atStart => exact ⟨0, 0, 2, by go_num, rfl, rfl, by omega, Below.refl _ _, Lib.hid fun i x y h => absurd h (Nat.not_lt_zero _)⟩
    case round =>
      obtain ⟨j, m, K, rfl, HK, hmK, hm2, HWR, HG⟩ := hrel
      have HW2 := Lib.hid (HW.out.trans (HWR.out.mono HW.out.size))
      obtain ⟨⟨c0, c1, c2, c3⟩, -⟩ := cells4 (block_keep HWR.out HX1.out)
      by_cases q2 : K < la.length
      case neg =>
        have hd0 : decide (K < la.length) = false := decide_eq_false q2
        have hd1 : decide ((K : Int) < (la.length : Int)) = false := decide_eq_false (by omega)
        have hq2 : ¬ (K : Int) < (la.length : Int) := by omega
        have has : ascV (twoV la) = true := asc_ofS la fun i x y hx hy => HG.out i x y (by
          have h1 := HK.out
          have h2 := (List.getElem?_eq_some_iff.1 hy).1
          omega) hx hy
        have hr := HR.out
        rw [if_pos has] at hr
        subst hr
        clear HG HA HR has HK HE hmK
        go_wp2
        go_ret
        exact ⟨rfl, HW2.out⟩
      obtain ⟨x, hx⟩ : ∃ x, la[m]? = some x := ⟨_, List.getElem?_eq_getElem (by omega)⟩
      obtain ⟨y, hy⟩ : ∃ y, la[K]? = some y := ⟨_, List.getElem?_eq_getElem q2⟩
      have hK2 : K + 2 ≤ la.length := by have h1 := HK.out; have h2 := HE.out; omega
      obtain ⟨-, -, -, b1, o1, rfl, -, -, hax⟩ := (HA.out.below HW2.out).at (by omega)
      rw [← HLA.out] at hax
      obtain ⟨sx, -, -, -, x2, -⟩ := hax m x hx
      obtain ⟨sy, -, -, -, y2, -⟩ := hax K y hy
      have l1 : Op.bytesLess (mkB x.s).toList (mkB y.s).toList = sLt x.s y.s := by rw [toList_mkB, toList_mkB, less_mkB]
      have l2 : Op.bytesLess (mkB y.s).toList (mkB x.s).toList = sLt y.s x.s := by rw [toList_mkB, toList_mkB, less_mkB]
      have l3 : ((mkB y.s).toList == (mkB x.s).toList) = decide (y.s = x.s) := by rw [toList_mkB x.s]; exact eqBs _ _
      have l4 : ((mkB x.s).toList == (mkB y.s).toList) = decide (x.s = y.s) := by rw [toList_mkB y.s]; exact eqBs _ _
      have u3 := BelowW.cell c3
      have e2 := BelowW.cell x2
      have r2 := BelowW.cell y2
      have hd0 : decide (K < la.length) = true := decide_eq_true q2
      have hd1 : decide ((K : Int) < (la.length : Int)) = true := decide_eq_true (by omega)
      have hkl : (0 : Int) ≤ (m : Int) := by omega
      have hki : (m : Int) < (la.length : Int) := by omega
      have hkl2 : (0 : Int) ≤ (K : Int) := by omega
      have hki2 : (K : Int) < (la.length : Int) := by omega
      have hkm : (K : Int) - 2 = (m : Int) := by omega
      have hkw : IntKind.i64.wrap ((K : Int) - 2) = (m : Int) := by rw [IntWalk.i64_in _ (by omega)]; omega
      have hkw2 : IntKind.i64.wrap (m : Int) = (m : Int) := IntWalk.i64_in _ (by omega)
      by_cases hlt : sLt x.s y.s = true
      · rw [hlt] at l1
        rw [sLt_as _ _ hlt] at l2
        have hne : x.s ≠ y.s := fun e => by rw [e, sLt_ir] at hlt; cases hlt
        rw [decide_eq_false (fun e => hne e.symm)] at l3
        rw [decide_eq_false hne] at l4
        have HG2 := Lib.hid (show ∀ i u z, i < j + 1 → la[i * 2]? = some u → la[i * 2 + 2]? = some z → sLt u.s z.s = true from fun i u z hi hu hz => by
          by_cases e : i = j
          · subst e
            have h1 := HK.out
            rw [← h1, hx] at hu
            rw [← h1, hmK, hy] at hz
            cases hu
            cases hz
            exact hlt
          · exact HG.out i u z (by omega) hu hz)
        clear hax hx hy HG HA hlt x2 y2 hne HR
        generalize mkB x.s = sX at *
        generalize mkB y.s = sY at *
        have HMK := Lib.hid hmK
        clear hmK
        go_wp2
        refine wp_region_below (by kernel_rfl) (by kernel_rfl) ?_
        repeat (go_big_quiet_step (fail))
        refine wpQuiet_nil ?_
        rintro _ ⟨⟨w4, hb4⟩, rfl⟩
        have HW4 := Lib.hid (HWR.out.trans (hb4.mono HWR.out.size))
        clear u3 e2 r2 c0 c1 c2 c3 hb4 l1 l2 l3 l4
        go_wp2
        exact ⟨⟨j + 1, K, K + 2, by go_num, by have h1 := HK.out; have h2 := HMK.out; show K = (j + 1) * 2; omega, rfl, by omega, HW4, HG2⟩, by simp [intOf]; omega⟩
      · have hge : sLt x.s y.s = false := by simpa using hlt
        rw [hge] at l1
        have has : ascV (twoV la) = false := by
          cases hq : ascV (twoV la) with
          | false => rfl
          | true => exact absurd (asc_getS hq HE.out (k := j) (by rw [← HK.out]; exact hx) (by rw [← HK.out, hmK]; exact hy)) hlt
        have hr := HR.out
        rw [if_neg (by rw [has]; decide)] at hr
        subst hr
        by_cases hgt : sLt y.s x.s = true
        · rw [hgt] at l2
          have hne : x.s ≠ y.s := fun e => by rw [e, sLt_ir] at hgt; cases hgt
          rw [decide_eq_false (fun e => hne e.symm)] at l3
          rw [decide_eq_false hne] at l4
          clear hax hx hy HG HA hlt x2 y2 hne HR has hge hgt HK HE
          generalize mkB x.s = sX at *
          generalize mkB y.s = sY at *
          clear hmK
          go_wp2
          refine wp_region_below (by kernel_rfl) (by kernel_rfl) ?_
          repeat (go_big_quiet_step (fail))
          refine wpQuiet_nil ?_
          rintro _ ⟨⟨w4, hb4⟩, rfl⟩
          have HW4 := Lib.hid (HW2.out.trans (hb4.mono HW2.out.size))
          clear u3 e2 r2 c0 c1 c2 c3 hb4 l1 l2 l3 l4
          go_wp2
          go_ret
          exact ⟨rfl, HW4.out⟩
        · have hgf : sLt y.s x.s = false := by simpa using hgt
          rw [hgf] at l2
          have heq : x.s = y.s := by
            by_cases e : x.s = y.s
            · exact e
            · exact absurd (sLt_tri _ _ hge e) (by rw [hgf]; decide)
          rw [decide_eq_true heq.symm] at l3
          rw [decide_eq_true heq] at l4
          clear hax hx hy HG HA hlt x2 y2 HR has hge hgt hgf HK HE heq
          generalize mkB x.s = sX at *
          generalize mkB y.s = sY at *
          clear hmK
          go_wp2
          refine wp_region_below (by kernel_rfl) (by kernel_rfl) ?_
          repeat (go_big_quiet_step (fail))
          refine wpQuiet_nil ?_
          rintro _ ⟨⟨w4, hb4⟩, rfl⟩
          have HW4 := Lib.hid (HW2.out.trans (hb4.mono HW2.out.size))
          clear u3 e2 r2 c0 c1 c2 c3 hb4 l1 l2 l3 l4
          go_wp2
          go_ret
          exact ⟨rfl, HW4.out⟩
end Go.Proofs.YtnkodejgiabamaaDoor
/-
  Whether a value is small: how many are in it, how long its texts are.
-/
namespace Go.Proofs.YtnkodejgiabamaaDoor
open Go.RowKit

mutual
/-- How many are left. -/
def fewV : PV → Int → Int
  | .mk _ _ _ l, n => fewL l (n - 1)
def fewL : List PV → Int → Int
  | [], n => n
  | x :: l, n => if n < 0 then n else fewL l (fewV x n)
end
mutual
def nodeV : PV → Nat
  | .mk _ _ _ l => 1 + nodeL l
def nodeL : List PV → Nat
  | [] => 0
  | x :: l => nodeV x + nodeL l
end
mutual
/-- Are all texts of at most 300 bytes? -/
def txV : PV → Bool
  | .mk _ _ s l => txL l && decide (s.length ≤ 300)
def txL : List PV → Bool
  | [] => true
  | x :: l => txV x && txL l
end
theorem fewL_neg (l : List PV) {n : Int} (h : n < 0) : fewL l n = n := by cases l with
  | nil => rfl
  | cons x l => simp only [fewL]; rw [if_pos h]
mutual
theorem fewV_bd : ∀ (v : PV) (n : Int), 0 ≤ n → -1 ≤ fewV v n ∧ fewV v n ≤ n ∧ (0 ≤ fewV v n → fewV v n = n - nodeV v)
  | .mk k m s l, n, h => by
    simp only [fewV, nodeV]
    by_cases h1 : n - 1 < 0
    · rw [fewL_neg l h1]; omega
    · have := fewL_bd l (n - 1) (by omega)
      omega
theorem fewL_bd : ∀ (l : List PV) (n : Int), 0 ≤ n → -1 ≤ fewL l n ∧ fewL l n ≤ n ∧ (0 ≤ fewL l n → fewL l n = n - nodeL l)
  | [], n, h => by simp only [fewL, nodeL]; omega
  | x :: l, n, h => by
    simp only [fewL, nodeL]
    rw [if_neg (by omega)]
    have h1 := fewV_bd x n h
    by_cases h2 : fewV x n < 0
    · rw [fewL_neg l h2]; omega
    · have := fewL_bd l (fewV x n) (by omega)
      omega
end
theorem fewV_is (v : PV) (n : Int) : fewV v n = fewL v.l (n - 1) := by obtain ⟨_, _, _, _⟩ := v; rfl
theorem txV_is (v : PV) : txV v = (txL v.l && decide (v.s.length ≤ 300)) := by obtain ⟨_, _, _, _⟩ := v; rfl

set_option maxRecDepth 8000 in
set_option maxHeartbeats 4000000 in
theorem few_any : ∀ (N : Nat) (v : PV) (sl : Value) (w : World) (n : Int), SizeOf.sizeOf v ≤ N → 0 ≤ n → n ≤ 1000 → IsV w anyF v sl →
    Calls Tryd.prog 16 #[pvA v sl, .int .i64 n] w fun e w' => e = .returned (.int .i64 (fewV v n)) ∧ Below w.heap.size w w' := by
  intro N
  induction N with
  | zero => intro v sl w n h; obtain ⟨_, _, _, _⟩ := v; simp at h
  | succ N ih =>
  intro v sl w n hN h0 h1 hv
  obtain ⟨a1, cap1, e1, g1, g2, g3⟩ := hv.len
  subst e1
  have HA := Lib.hid hv
  have HIH := Lib.hid ih
  have HN := Lib.hid hN
  have HSA := Lib.hid (fun (k : Nat) (x : PV) (h : v.l[k]? = some x) => sizeOf_mem h)
  have m1 : (v.l.length : Int) ≤ 9223372036854775807 := by unfold maxLen at g2; omega
  obtain ⟨R, hR⟩ : ∃ R, R = fewV v n := ⟨_, rfl⟩
  rw [← hR]
  rw [fewV_is] at hR
  unfold pvA
  clear ih hN hv g2 g3
  obtain ⟨la, hla⟩ : ∃ la, la = v.l := ⟨_, rfl⟩
  have HLA := Lib.hid hla
  rw [← hla] at hR HA HSA m1 g1 ⊢
  clear hla
  have HR := Lib.hid hR
  clear hR
  generalize v.kind = k0 at *
  generalize v.n = n0 at *
  generalize mkB v.s = s0 at *
  have hw0 : IntKind.i64.wrap (n - 1) = n - 1 := IntWalk.i64_in _ (by omega)
  go_enter Tryd.func16, Tryd.ntmps16
  obtain ⟨B, hB⟩ : ∃ B, B = w.heap.size := ⟨_, rfl⟩
  have HX1 := Lib.hid (heapA_new (w := w) (b := B) (.cells #[.int .i64 k0, .int .i64 n0, .string s0, .slice a1 la.length cap1] 24) hB)
  have HW := Lib.hid (belowA w (.cells #[.int .i64 k0, .int .i64 n0, .string s0, .slice a1 la.length cap1] 24))
  go_upto_region 1 with fail
  rw [← hB]
  clear hB
  generalize w.alloc _ = W1 at *
  go_wp2
  go_loopw [1, 5] (fun vm vk wr => ∃ (k : Nat) (m : Int), vk = .int .i64 k ∧ vm = .int .i64 m ∧ -1 ≤ m ∧ m ≤ 1000 ∧ k ≤ la.length ∧ Hid (Below W1.heap.size W1 wr) ∧ Hid (R = fewL (la.drop k) m)) (fun _ vk _ => la.length - (intOf vk).toNat)
  case atStart => exact ⟨0, n - 1, rfl, rfl, by omega, by omega, Nat.zero_le _, Below.refl _ _, HR⟩
  case round =>
    obtain ⟨k, m, rfl, rfl, hm0, hm1, hk, HWR1, HV⟩ := hrel
    have HWR := Lib.hid (HW.out.trans (HWR1.out.mono HW.out.size))
    obtain ⟨⟨c0, c1, c2, c3⟩, -⟩ := cells4 (block_keep HWR1.out HX1.out)
    by_cases q1 : k < la.length
    case neg =>
      have hkl : k = la.length := by omega
      subst hkl
      have hv := HV.out
      rw [List.drop_length] at hv
      obtain rfl : R = m := hv
      have hd1 : decide (la.length < la.length) = false := by simp
      clear HV HA HIH HN HSA HR
      go_wp2
      go_ret
      exact ⟨rfl, HWR.out⟩
    have hd1 : decide (k < la.length) = true := decide_eq_true q1
    have hd2 : decide ((k : Int) < (la.length : Int)) = true := decide_eq_true (by omega)
    by_cases q2 : 0 ≤ m
    case neg =>
      have hd3 : decide (0 ≤ m) = false := decide_eq_false q2
      have hv := HV.out
      rw [fewL_neg _ (by omega)] at hv
      obtain rfl : R = m := hv
      clear HV HA HIH HN HSA HR
      go_wp2
      go_ret
      exact ⟨rfl, HWR.out⟩
    have hd3 : decide (0 ≤ m) = true := decide_eq_true q2
    obtain ⟨x, hx⟩ : ∃ x, la[k]? = some x := ⟨_, List.getElem?_eq_getElem q1⟩
    obtain ⟨-, -, -, b1, o1, rfl, -, -, hax⟩ := (HA.out.below HWR.out).at (by omega)
    rw [← HLA.out] at hax
    obtain ⟨sx, hsx, x0, x1, x2, x3⟩ := hax k x hx
    have hlt : SizeOf.sizeOf x < SizeOf.sizeOf v := HSA.out k x hx
    have hN := HN.out
    have hfb := fewV_bd x m q2
    have hv : R = fewL (la.drop (k + 1)) (fewV x m) := by
      rw [HV.out, List.drop_eq_getElem_cons q1]
      have he : la[k] = x := by rw [List.getElem?_eq_getElem q1] at hx; exact Option.some.inj hx
      rw [he]
      simp only [fewL]
      rw [if_neg (by omega)]
    have HV2 := Lib.hid hv
    obtain ⟨sa', sc', rfl, -, -, -⟩ := hsx.len
    have HCALL := Lib.hid (HIH.out x _ wr m (by omega) q2 hm1 hsx)
    simp only [pvA] at HCALL
    have hb1 : -1 ≤ fewV x m := hfb.1
    have hb2 : fewV x m ≤ 1000 := by omega
    clear hv hsx hlt hN hax hx HA HIH HV HSA HLA HN hfb HR
    generalize fewV x m = m2 at *
    have hkl : (0 : Int) ≤ (k : Int) := by omega
    have hki : (k : Int) < (la.length : Int) := by omega
    generalize x.kind = xk at *
    generalize x.n = xn at *
    generalize mkB x.s = xs at *
    generalize x.l.length = xl at *
    go_wp2_with fail
    refine HCALL.out.mono ?_
    rintro e w5 ⟨rfl, hb5⟩
    have HW5 := Lib.hid (HWR1.out.trans (hb5.mono HWR1.out.size))
    clear hb5 x0 x1 x2 x3 HCALL c0 c1 c2 c3
    go_wp2
    go_roundw
    case rel => exact ⟨k + 1, m2, by go_num, rfl, hb1, hb2, by omega, HW5, HV2⟩
    case measure => simp [intOf]; omega

theorem txL_take {l : List PV} {k : Nat} {x : PV} (hx : l[k]? = some x) : txL (l.take (k + 1)) = (txL (l.take k) && txV x) := by
  induction l generalizing k with
  | nil => cases hx
  | cons y l ih =>
    cases k with
    | zero =>
      have : y = x := by simpa using hx
      subst this
      simp [txL]
    | succ k =>
      rw [List.take_succ_cons, List.take_succ_cons]
      simp only [txL]
      rw [ih (by simpa using hx), Bool.and_assoc]
theorem txL_bad {l : List PV} {k : Nat} {x : PV} (hx : l[k]? = some x) (h : txV x = false) : txL l = false := by
  induction l generalizing k with
  | nil => cases hx
  | cons y l ih =>
    simp only [txL]
    cases k with
    | zero =>
      have : y = x := by simpa using hx
      subst this
      rw [h, Bool.false_and]
    | succ k => rw [ih (by simpa using hx), Bool.and_false]

set_option maxRecDepth 8000 in
set_option maxHeartbeats 4000000 in
theorem texts_any : ∀ (N : Nat) (v : PV) (sl : Value) (w : World), SizeOf.sizeOf v ≤ N → IsV w anyF v sl →
    Calls Tryd.prog 17 #[pvA v sl] w fun e w' => e = .returned (.bool (txV v)) ∧ Below w.heap.size w w' := by
  intro N
  induction N with
  | zero => intro v sl w h; obtain ⟨_, _, _, _⟩ := v; simp at h
  | succ N ih =>
  intro v sl w hN hv
  obtain ⟨a1, cap1, e1, g1, g2, g3⟩ := hv.len
  subst e1
  have HA := Lib.hid hv
  have HIH := Lib.hid ih
  have HN := Lib.hid hN
  have HSA := Lib.hid (fun (k : Nat) (x : PV) (h : v.l[k]? = some x) => sizeOf_mem h)
  have m1 : (v.l.length : Int) ≤ 9223372036854775807 := by unfold maxLen at g2; omega
  obtain ⟨R, hR⟩ : ∃ R, R = txV v := ⟨_, rfl⟩
  rw [← hR]
  rw [txV_is] at hR
  unfold pvA
  clear ih hN hv g2 g3
  obtain ⟨la, hla⟩ : ∃ la, la = v.l := ⟨_, rfl⟩
  have HLA := Lib.hid hla
  rw [← hla] at hR HA HSA m1 g1 ⊢
  clear hla
  have HR := Lib.hid hR
  clear hR
  have hsz : (mkB v.s).size = v.s.length := mkB_size _
  have hszi : ((mkB v.s).size : Int) = v.s.length := by rw [hsz]
  generalize v.kind = k0 at *
  generalize v.n = n0 at *
  generalize mkB v.s = s0 at *
  generalize v.s.length = ns at *
  go_enter Tryd.func17, Tryd.ntmps17
  obtain ⟨B, hB⟩ : ∃ B, B = w.heap.size := ⟨_, rfl⟩
  have HX1 := Lib.hid (heapA_new (w := w) (b := B) (.cells #[.int .i64 k0, .int .i64 n0, .string s0, .slice a1 la.length cap1] 24) hB)
  have HW := Lib.hid (belowA w (.cells #[.int .i64 k0, .int .i64 n0, .string s0, .slice a1 la.length cap1] 24))
  go_upto_region 1 with fail
  rw [← hB]
  clear hB
  generalize w.alloc _ = W1 at *
  go_wp2
  go_loopw [3] (fun vk wr => ∃ (k : Nat), vk = .int .i64 k ∧ k ≤ la.length ∧ Hid (Below W1.heap.size W1 wr) ∧ Hid (txL (la.take k) = true)) (fun vk _ => la.length - (intOf vk).toNat)
  case atStart => exact ⟨0, rfl, Nat.zero_le _, Below.refl _ _, Lib.hid rfl⟩
  case round =>
    obtain ⟨k, rfl, hk, HWR1, HV⟩ := hrel
    have HWR := Lib.hid (HW.out.trans (HWR1.out.mono HW.out.size))
    obtain ⟨⟨c0, c1, c2, c3⟩, -⟩ := cells4 (block_keep HWR1.out HX1.out)
    by_cases q1 : k < la.length
    case neg =>
      have hkl : k = la.length := by omega
      subst hkl
      have hv := HV.out
      rw [List.take_length] at hv
      have hr := HR.out
      rw [hv, Bool.true_and] at hr
      have hd1 : decide (la.length < la.length) = false := by simp
      clear HV HA HIH HN HSA HR hv
      by_cases h3 : ns ≤ 300
      · have b1 : decide (ns ≤ 300) = true := decide_eq_true h3
        have b2 : decide ((ns : Int) ≤ 300) = true := decide_eq_true (by omega)
        rw [b1] at hr
        subst hr
        go_wp2
        go_ret
        exact ⟨rfl, HWR.out⟩
      · have b1 : decide (ns ≤ 300) = false := decide_eq_false h3
        have b2 : decide ((ns : Int) ≤ 300) = false := decide_eq_false (by omega)
        rw [b1] at hr
        subst hr
        go_wp2
        go_ret
        exact ⟨rfl, HWR.out⟩
    have hd1 : decide (k < la.length) = true := decide_eq_true q1
    have hd2 : decide ((k : Int) < (la.length : Int)) = true := decide_eq_true (by omega)
    obtain ⟨x, hx⟩ : ∃ x, la[k]? = some x := ⟨_, List.getElem?_eq_getElem q1⟩
    obtain ⟨-, -, -, b1, o1, rfl, -, -, hax⟩ := (HA.out.below HWR.out).at (by omega)
    rw [← HLA.out] at hax
    obtain ⟨sx, hsx, x0, x1, x2, x3⟩ := hax k x hx
    have hlt : SizeOf.sizeOf x < SizeOf.sizeOf v := HSA.out k x hx
    have hN := HN.out
    obtain ⟨sa', sc', rfl, -, -, -⟩ := hsx.len
    have HCALL := Lib.hid (HIH.out x _ wr (by omega) hsx)
    simp only [pvA] at HCALL
    have HT := Lib.hid (txL_take hx)
    have HTB := Lib.hid (fun (h : txV x = false) => txL_bad hx h)
    clear hsx hlt hN hax hx HA HIH HSA HLA HN
    generalize txV x = tx at *
    have hkl : (0 : Int) ≤ (k : Int) := by omega
    have hki : (k : Int) < (la.length : Int) := by omega
    generalize x.kind = xk at *
    generalize x.n = xn at *
    generalize mkB x.s = xs at *
    generalize x.l.length = xl at *
    go_wp2_with fail
    refine HCALL.out.mono ?_
    rintro e w5 ⟨rfl, hb5⟩
    have HW5 := Lib.hid (HWR1.out.trans (hb5.mono HWR1.out.size))
    clear hb5 x0 x1 x2 x3 HCALL c0 c1 c2 c3
    cases tx with
    | false =>
      have hr := HR.out
      rw [HTB.out rfl, Bool.false_and] at hr
      subst hr
      clear HR HT HTB HV
      go_wp2
      go_ret
      exact ⟨rfl, HW.out.trans (HW5.out.mono HW.out.size)⟩
    | true =>
      have HV2 := Lib.hid (show txL (la.take (k + 1)) = true by rw [HT.out, HV.out]; rfl)
      clear HT HTB HV HR
      go_wp2
      go_roundw
      case rel => exact ⟨k + 1, by go_num, by omega, HW5, HV2⟩
      case measure => simp [intOf]; omega
end Go.Proofs.YtnkodejgiabamaaDoor
/-
  A small value's form is short.
-/
namespace Go.Proofs.YtnkodejgiabamaaDoor

theorem print_lenS (k n : Int) (b : Bool) : (printV k n b).1.length ≤ 40 := by
  by_cases h : checkV k n b = 0
  · obtain ⟨-, hc⟩ := checkV_cases h
    unfold printV
    rw [if_pos h]
    show (signL n ++ absL k n.natAbs).length ≤ 40
    have h1 : (signL n).length ≤ 1 := by unfold signL; split <;> simp
    have h2 : (absL k n.natAbs).length ≤ 30 := by
      unfold absL
      split
      · have := decL_len 19 n.natAbs (by omega); omega
      · have h3 := decL_len 19 (n.natAbs / 1000000) (by omega)
        have h4 := (mil_trimF (n.natAbs % 1000000) (by omega)).2.2.2
        rw [List.length_append, List.length_cons]; omega
    rw [List.length_append]; omega
  · unfold printV
    rw [if_neg h]
    simp
theorem textF_lenS (s : List UInt8) : (textF s).length ≤ 2 * s.length + 2 := by
  unfold textF
  have h1 := bareF_len s
  have h2 := hexF_len s
  split <;> (simp only [List.length_cons, List.length_append, List.length_nil]; omega)
mutual
theorem form_lenS : ∀ v : PV, txV v = true → (formV v).length + 1 ≤ 1000 * nodeV v
  | .mk k n s l, h => by
    simp only [txV, Bool.and_eq_true, decide_eq_true_eq] at h
    have h1 := row_lenS l h.1
    have h2 := textF_lenS s
    have h3 := nameF_len s
    have h4 := print_lenS k n true
    have h5 := print_lenS 2 n true
    have hs := h.2
    simp only [formV, nodeV]
    repeat' split
    all_goals first | omega | (simp only [List.length_cons, List.length_append, List.length_nil]; omega)
theorem row_lenS : ∀ l : List PV, txL l = true → (rowF l).length ≤ 1000 * nodeL l
  | [], _ => by simp [rowF]
  | x :: l, h => by
    simp only [txL, Bool.and_eq_true] at h
    have h1 := form_lenS x h.1
    have h2 := more_lenS l h.2
    simp only [rowF, nodeL, List.length_append]
    omega
theorem more_lenS : ∀ l : List PV, txL l = true → (moreF l).length ≤ 1000 * nodeL l
  | [], _ => by simp [moreF]
  | x :: l, h => by
    simp only [txL, Bool.and_eq_true] at h
    have h1 := form_lenS x h.1
    have h2 := more_lenS l h.2
    simp only [moreF, nodeL, List.length_append, List.length_cons]
    omega
end
mutual
theorem depth_nodeS : ∀ v : PV, depthV v ≤ nodeV v
  | .mk k n s l => by
    have := depth_nodesS l
    simp only [depthV, nodeV]
    split <;> omega
theorem depth_nodesS : ∀ l : List PV, depthL l ≤ nodeL l
  | [] => by simp [depthL, nodeL]
  | x :: l => by
    have h1 := depth_nodeS x
    have h2 := depth_nodesS l
    simp only [depthL, nodeL]
    omega
end
def smallV (v : PV) : Bool := decide (0 ≤ fewV v 300) && txV v
theorem small_bd {v : PV} (h : smallV v = true) : depthV v ≤ 300 ∧ (formV v).length ≤ 300000 ∧ nodeV v ≤ 300 ∧ txV v = true := by
  unfold smallV at h
  rw [Bool.and_eq_true, decide_eq_true_eq] at h
  have h1 := fewV_bd v 300 (by omega)
  have h2 := form_lenS v h.2
  have h3 := depth_nodeS v
  exact ⟨by omega, by omega, by omega, h.2⟩
end Go.Proofs.YtnkodejgiabamaaDoor
