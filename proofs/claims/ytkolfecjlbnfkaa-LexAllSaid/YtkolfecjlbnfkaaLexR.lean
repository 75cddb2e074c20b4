/-
  Walks of layer 10's reference: where regular bytes end, a name.
-/
import Derived.Test.YtkolfecjlbnfkaaLexO
namespace Go.Proofs.Ytkolfecjlbnfkaa
open Go.RowKit

set_option maxRecDepth 8000 in
set_option maxHeartbeats 4000000 in
theorem rrun_any {w : World} {a : Option Addr} {cap : Nat} {bs : List UInt8} (hr : Row w 1 a bs.length cap (bs.map u8C)) (hn : bs.length ≤ 100000) (k : Nat) (hk : k ≤ bs.length) :
    Calls Try.prog 21 #[.slice a bs.length cap, .int .i64 k] w fun e w' => e = .returned (.int .i64 ((k + runN (bs.drop k) : Nat) : Int)) ∧ w = w' := by
  obtain ⟨R, hR⟩ : ∃ R, R = k + runN (bs.drop k) := ⟨_, rfl⟩
  rw [← hR]
  have HR := Lib.hid hR
  have HC := Lib.hid (fun j (hj : j < bs.length) => hr.at 0 j hj)
  have HK := Lib.hid hk
  clear hR hr hk
  go_enter Try.func21, Try.ntmps21
  go_wp2
  go_loop [1] (fun i => ∃ j : Nat, j ≤ bs.length ∧ i = .int .i64 j ∧ Hid (R = j + runN (bs.drop j))) (fun i => bs.length - (intOf i).toNat)
  case atStart => exact ⟨k, HK.out, rfl, HR⟩
  case round =>
    obtain ⟨j, hj, rfl, HJ⟩ := hrel
    by_cases hlt : j < bs.length
    · obtain ⟨b, off, ha, -, hc⟩ := HC.out j hlt
      unfold u8C at hc
      have hcj := hc j hlt
      have hg := HJ.out
      rw [drop_cons hlt] at hg
      have hji : decide ((j : Int) < bs.length) = true := decide_eq_true (by omega)
      have hjn : decide (j < bs.length) = true := decide_eq_true hlt
      have hjl : (j : Int) < bs.length := by omega
      have HM := Lib.hid (show bs.length - (j + 1) < bs.length - j by omega)
      have HJL := Lib.hid (show j + 1 ≤ bs.length from hlt)
      subst ha
      generalize bs.getD j 0 = c at *
      have HSP := Lib.hid (fun W => rspace_any c.toNat W)
      have HDL := Lib.hid (fun W => rdelim_any c.toNat W)
      rw [← spI_eq] at HSP
      rw [← dlI_eq] at HDL
      have hreg : isRg c = (!isSp c && !isDl c) := rfl
      generalize c.toNat = x at *
      generalize isSp c = sp at *
      generalize isDl c = dl at *
      clear hc HC
      cases sp
      · cases dl
        · have HG := Lib.hid (show R = (j + 1) + runN (bs.drop (j + 1)) by rw [hg, runN_yes _ hreg]; omega)
          clear hg hreg hlt
          go_wp2_with (first
            | (go_at_call 14; refine (HSP.out _).mono ?_; rintro e w' ⟨rfl, rfl⟩)
            | (go_at_call 16; refine (HDL.out _).mono ?_; rintro e w' ⟨rfl, rfl⟩))
          go_round
          case rel => exact ⟨j + 1, HJL.out, by go_num, HG⟩
          case measure => have := HM.out; simp only [intOf]; omega
        · have HG := Lib.hid (show R = j by rw [hg, runN_no _ hreg]; omega)
          clear hg hreg hlt
          go_wp2_with (first
            | (go_at_call 14; refine (HSP.out _).mono ?_; rintro e w' ⟨rfl, rfl⟩)
            | (go_at_call 16; refine (HDL.out _).mono ?_; rintro e w' ⟨rfl, rfl⟩))
          go_ret
          exact ⟨by rw [HG.out]; rfl, rfl⟩
      · have HG := Lib.hid (show R = j by rw [hg, runN_no _ hreg]; omega)
        clear hg hreg hlt
        go_wp2_with (first
          | (go_at_call 14; refine (HSP.out _).mono ?_; rintro e w' ⟨rfl, rfl⟩)
          | (go_at_call 16; refine (HDL.out _).mono ?_; rintro e w' ⟨rfl, rfl⟩))
        go_ret
        exact ⟨by rw [HG.out]; rfl, rfl⟩
    · obtain rfl : j = bs.length := by omega
      have hg := HJ.out
      rw [List.drop_length] at hg
      have HG := Lib.hid (show R = bs.length from hg)
      clear hg
      go_wp2
      go_ret
      exact ⟨by rw [HG.out]; rfl, rfl⟩

set_option maxRecDepth 8000 in
set_option maxHeartbeats 8000000 in
theorem rname_any {w : World} {a : Option Addr} {cap : Nat} {bs : List UInt8} (hr : Row w 1 a bs.length cap (bs.map u8C)) (hn : bs.length ≤ 100000) :
    Calls Try.prog 24 #[.slice a bs.length cap] w (NameEnd w (nameV bs)) := by
  obtain ⟨V, hV⟩ : ∃ V, V = nameV bs := ⟨_, rfl⟩
  rw [← hV]
  rw [nameV_fin] at hV
  have HV := Lib.hid hV
  obtain ⟨r, hrr⟩ : ∃ r, r = w.heap.size := ⟨_, rfl⟩
  have HBX := Lib.hid (show (w.alloc (.cells #[.int .i64 0, .int .i64 0, .string ⟨#[]⟩, .slice none 0 0] 26)).heap[r]? = some (.cells #[.int .i64 0, .int .i64 0, .string ⟨#[]⟩, .slice none 0 0] 26 (0, 0)) from heapA_new _ hrr)
  have HB0 := Lib.hid (belowA w (.cells #[.int .i64 0, .int .i64 0, .string ⟨#[]⟩, .slice none 0 0] 26))
  have HRR := Lib.hid hrr
  have HC := Lib.hid (fun (W : World) (h : Below w.heap.size w W) j (hj : j < bs.length) => (hr.mono h).at 0 j hj)
  have HCB := Lib.hid (fun j (hj : j < bs.length) => hr.at 0 j hj)
  clear hV hrr hr
  go_enter Try.func24, Try.ntmps24
  go_wp2
  rw [← HRR.out]
  generalize w.alloc (.cells #[.int .i64 0, .int .i64 0, .string ⟨#[]⟩, .slice none 0 0] 26) = W0 at *
  have hr0 := (Array.getElem?_eq_some_iff.1 HBX.out).1
  go_loopw [4, 5] (fun v i wr => ∃ (k : Nat) (o : List UInt8), k ≤ bs.length ∧ i = .int .i64 k ∧ o.length ≤ k ∧ Hid (wr.ownsRow W0.heap.size 5 1 v o.length (o.map u8C)) ∧ Hid (Below W0.heap.size W0 wr) ∧ Hid (V = finN (nameGo o (bs.drop k)))) (fun _ i _ => bs.length - (intOf i).toNat)
  case atStart => exact ⟨0, [], by omega, by go_num, by simp, Lib.hid (World.ownsRow_nil _ _ _ _), Lib.hid (Below.refl _ _), HV⟩
  case round =>
    obtain ⟨k, o, hk, rfl, hok, HO, HB, HG⟩ := hrel
    have HBR := Lib.hid (block_keep HB.out HBX.out)
    have HBW := Lib.hid (HB0.out.trans (HB.out.mono HB0.out.size))
    have hsz := HB.out.size
    by_cases hlt : k < bs.length
    · have hg := HG.out
      rw [drop_cons hlt] at hg
      obtain ⟨b, off, ha, -, hc⟩ := HC.out wr HBW.out k hlt
      have hbW : b < w.heap.size := by
        obtain ⟨b', off', ha', hb', -⟩ := HCB.out k hlt
        rw [ha] at ha'; cases ha'; exact hb'
      unfold u8C at hc
      have hcj := hc k hlt
      have hki : decide ((k : Int) < bs.length) = true := decide_eq_true (by omega)
      have hkn : decide (k < bs.length) = true := decide_eq_true hlt
      have hkl : (k : Int) < bs.length := by omega
      subst ha
      obtain ⟨c, hcc⟩ : ∃ c, bs.getD k 0 = c := ⟨_, rfl⟩
      rw [hcc] at hcj hg
      clear hcc
      by_cases h35 : c = 35
      · subst h35
        rw [show ((35 : UInt8).toNat : Int) = 35 from rfl] at hcj
        by_cases h2 : bs.length ≤ k + 2
        · have HNONE := Lib.hid (show V = none by rw [hg, nameGo_short _ _ (by rw [List.length_drop]; omega)]; rfl)
          have h2d : decide ((bs.length : Int) ≤ (k : Int) + 2) = true := decide_eq_true (by omega)
          clear hg hc
          obtain ⟨⟨k0, k1, k2, k3⟩, f0, f1, f2, f3⟩ := cells4 HBR.out
          go_wp2
          refine bodyPost_ret (results_val rfl _ _ r 26 _ (0, 0) _ rfl (set4 HBR.out _ _ _ _) Try.underlying26 rfl infoVal _ rfl) rfl ?_
          exact name_none HNONE.out (below_set4 HBW.out (by have := HRR.out; omega) _ _ _ _)
        · have h2d : decide ((bs.length : Int) ≤ (k : Int) + 2) = false := decide_eq_false (by omega)
          have h1' : k + 1 < bs.length := by omega
          have h2' : k + 1 + 1 < bs.length := by omega
          rw [drop_cons h1', drop_cons h2', nameGo_hex] at hg
          have c1 := hc (k + 1) h1'
          have c2 := hc (k + 2) h2'
          have l1 : (k : Int) + 1 < bs.length := by omega
          have l2 : (k : Int) + 2 < bs.length := by omega
          have hA := hexD_bd (bs.getD (k + 1) 0)
          have hB := hexD_bd (bs.getD (k + 1 + 1) 0)
          have HHA := Lib.hid (fun W => rhex_any (bs.getD (k + 1) 0) W)
          have HHB := Lib.hid (fun W => rhex_any (bs.getD (k + 1 + 1) 0) W)
          rw [show k + 2 = k + 1 + 1 from rfl] at c2
          generalize hexD (bs.getD (k + 1) 0) = A at *
          generalize hexD (bs.getD (k + 1 + 1) 0) = B at *
          generalize (bs.getD (k + 1) 0).toNat = x at *
          generalize (bs.getD (k + 1 + 1) 0).toNat = y at *
          rw [show k + 1 + 1 = k + 2 from rfl] at c2
          clear hc
          by_cases hAn : A < 0
          · have HNONE := Lib.hid (show V = none by rw [hg, if_pos (.inl hAn)]; rfl)
            have hAd : decide (A < 0) = true := decide_eq_true hAn
            clear hg
            obtain ⟨⟨k0, k1, k2, k3⟩, f0, f1, f2, f3⟩ := cells4 HBR.out
            go_wp2_with fail
            refine (HHA.out _).mono ?_
            rintro e w9 ⟨rfl, rfl⟩
            go_wp2
            refine bodyPost_ret (results_val rfl _ _ r 26 _ (0, 0) _ rfl (set4 HBR.out _ _ _ _) Try.underlying26 rfl infoVal _ rfl) rfl ?_
            exact name_none HNONE.out (below_set4 HBW.out (by have := HRR.out; omega) _ _ _ _)
          · have hAd : decide (A < 0) = false := decide_eq_false hAn
            by_cases hBn : B < 0
            · have HNONE := Lib.hid (show V = none by rw [hg, if_pos (.inr hBn)]; rfl)
              have hBd : decide (B < 0) = true := decide_eq_true hBn
              clear hg hAn
              obtain ⟨⟨k0, k1, k2, k3⟩, f0, f1, f2, f3⟩ := cells4 HBR.out
              go_wp2_with fail
              refine (HHA.out _).mono ?_
              rintro e w9 ⟨rfl, rfl⟩
              go_wp2_with fail
              refine (HHB.out _).mono ?_
              rintro e w9 ⟨rfl, rfl⟩
              go_wp2
              refine bodyPost_ret (results_val rfl _ _ r 26 _ (0, 0) _ rfl (set4 HBR.out _ _ _ _) Try.underlying26 rfl infoVal _ rfl) rfl ?_
              exact name_none HNONE.out (below_set4 HBW.out (by have := HRR.out; omega) _ _ _ _)
            · have hBd : decide (B < 0) = false := decide_eq_false hBn
              rw [if_neg (by rintro (h | h) <;> contradiction)] at hg
              have HG2 := Lib.hid hg
              have HBY := Lib.hid (byte_of9 (16 * A + B) (by omega) (by omega))
              have hA0 : 0 ≤ A := by omega
              have hB0 : 0 ≤ B := by omega
              obtain ⟨hA1, hA2⟩ := hA
              obtain ⟨hB1, hB2⟩ := hB
              have ak : u4.ownBlock ≠ some b := fun e => by have h1 := (HO.out.lt b e).1; have := HB0.out.size; omega
              have hb1w : b < wr.heap.size := by have := HBW.out.size; omega
              have HKK := Lib.hid (show k + 3 ≤ bs.length ∧ bs.length - (k + 3) < bs.length - k by omega)
              have i1 : IntKind.i64.wrap ((k : Int) + 1) = (k : Int) + 1 := IntWalk.i64_in _ (by omega)
              have i2 : IntKind.i64.wrap ((k : Int) + 2) = (k : Int) + 2 := IntWalk.i64_in _ (by omega)
              have i3 : IntKind.i64.wrap (16 * A) = 16 * A := IntWalk.i64_in _ (by omega)
              have i4 : IntKind.i64.wrap (16 * A + B) = 16 * A + B := IntWalk.i64_in _ (by omega)
              have i5 : IntKind.u8.wrap (16 * A + B) = 16 * A + B := by rw [IntKind.wrap_u8]; omega
              have i6 : ((k : Int) + 1).toNat = k + 1 := by omega
              have i7 : ((k : Int) + 2).toNat = k + 2 := by omega
              have i8 : (0 : Int) ≤ (k : Int) + 1 := by omega
              have i9 : (0 : Int) ≤ (k : Int) + 2 := by omega
              clear hg hAn hBn
              go_wp2_with fail
              refine (HHA.out _).mono ?_
              rintro e w9 ⟨rfl, rfl⟩
              go_wp2_with fail
              refine (HHB.out _).mono ?_
              rintro e w9 ⟨rfl, rfl⟩
              go_wp2
              go_region_held3 (fun w' => w'.cell? ⟨b, off + (k + 1), none⟩ = some (.int .u8 x) ∧ w'.cell? ⟨b, off + (k + 2), none⟩ = some (.int .u8 y))
                (first
                  | go_keep
                  | (go_split_ands
                     refine ⟨?_, ?_⟩
                     · (rw [hgrow.cell_far _ (by simp; omega) (Ne.symm ak)]; assumption)
                     · (rw [hgrow.cell_far _ (by simp; omega) (Ne.symm ak)]; assumption)))
                (first
                  | (go_at_call 34; with_reducible refine (HHA.out _).mono ?_; rintro e w9 ⟨rfl, rfl⟩)
                  | (go_at_call 34; with_reducible refine (HHB.out _).mono ?_; rintro e w9 ⟨rfl, rfl⟩)
                  | (obtain ⟨iB, hiB, hzB, hsB, hbB⟩ := info_parts EByte.info; refine step_append_lies _ (by rfl) _ _ _ (by rfl) W0.heap.size 5 iB _ 1 1 EByte.und hiB hzB hsB hbB rfl (by omega) u4 o.length _ (by rfl) ((HO.out.alloc _).drew) ⟨wr.heap.size, 0, none⟩ 1 1 [.int .u8 (16 * A + B)] (by rfl) (by rfl) (World.news_of_block (cs := #[.int .u8 (16 * A + B)]) (t := 5) (fr := (0, 0)) (heap_alloc_new wr _)) (by simp [Value.oneCell']) (by omega) (by unfold maxLen; omega) (by omega) (by simp; omega) (wr.heap.size + 1) (by simp) ?_; intro g cap7 w7 hO7 hgrow hat hlt))
              have HP7 := Lib.hid (show w7.ownsRow W0.heap.size 5 1 (.slice (some ⟨g, 0, none⟩) (o.length + 1) cap7) (o ++ [UInt8.ofNat (16 * A + B).toNat]).length ((o ++ [UInt8.ofNat (16 * A + B).toNat]).map u8C) ∧ Below W0.heap.size W0 w7 from
                put_one (UInt8.ofNat (16 * A + B).toNat) (.cells #[.int .u8 (16 * A + B)] 5) (below_drewN HB.out 1) hsz (ownsRow_keep HO.out (below_drewN (Below.refl _ _) 1)) (show Value.int .u8 (16 * A + B) = u8C (UInt8.ofNat (16 * A + B).toNat) from congrArg (Value.int .u8) HBY.out) hO7 hgrow)
              clear hgrow hO7 hat hlt ak i1 i2 i3 i4 i5 i6 i7 i8 i9
              go_wp2
              go_roundw
              case rel => exact ⟨k + 3, o ++ [UInt8.ofNat (16 * A + B).toNat], HKK.out.1, by go_num, by simp; omega, Lib.hid HP7.out.1, Lib.hid HP7.out.2, Lib.hid HG2.out⟩
              case measure => have := HKK.out.2; simp only [intOf]; omega
      · rw [nameGo_byte _ _ _ h35] at hg
        have HG2 := Lib.hid hg
        have e35 := u8_ne h35 35 rfl
        have e36 : ((c.toNat : Int) != 35) = true := by simp only [bne, e35, Bool.not_false]
        clear hg h35 hc
        obtain ⟨x, hx⟩ : ∃ x, c.toNat = x := ⟨_, rfl⟩
        rw [hx] at hcj e35 e36
        have HX := Lib.hid (show Value.int .u8 (x : Int) = u8C c by rw [← hx]; rfl)
        clear hx
        go_wp2_with (at_builtin; refine append_row EByte rfl (.tmp 18) (.tmp 23) rfl W0.heap.size _ o.length _ rfl (HO.out.alloc _) _ 1 _ _ rfl (row_new1 _ _ _) (one_mem rfl) (by unfold maxLen; omega) (by omega) (by rw [sizeA]; omega) ?_; intro v' w5 hO5 hg5 hnil5; have HP5 := Lib.hid (put_one c _ HB.out hsz HO.out HX.out hO5 hg5); clear hO5 hg5 hnil5)
        go_roundw
        case rel => exact ⟨k + 1, o ++ [c], by omega, by go_num, by simp; omega, Lib.hid HP5.out.1, Lib.hid HP5.out.2, HG2⟩
        case measure => simp [intOf]; omega
    · obtain rfl : k = bs.length := by omega
      have hg := HG.out
      rw [List.drop_length] at hg
      have hg2 : V = if 127 < o.length ∨ (0 : UInt8) ∈ o then none else some o := hg
      have HG2 := Lib.hid hg2
      have HCV := Lib.hid (conv_own HO.out)
      obtain ⟨a1, cap1, hv1, hrow, -⟩ := Row.of_owns HO.out
      have HROW := Lib.hid hrow
      have hol : o.length ≤ 100000 := by omega
      have hki : decide ((bs.length : Int) < bs.length) = false := decide_eq_false (by omega)
      subst hv1
      clear hg hg2 hrow
      go_wp2
      go_loop [6] (fun i => ∃ m : Nat, m ≤ o.length ∧ i = .int .i64 m ∧ Hid (∀ j, j < m → o.getD j 0 ≠ 0)) (fun i => o.length - (intOf i).toNat)
      case atStart => exact ⟨0, by omega, by go_num, Lib.hid (fun j hj => by omega)⟩
      case round =>
        obtain ⟨m, hm, rfl, HZ⟩ := hrel
        by_cases hmo : m < o.length
        · obtain ⟨b1, off1, he, -, hce⟩ := HROW.out.at 0 m hmo
          have cm := hce m hmo
          unfold u8C at cm
          subst he
          have hmn : decide (m < o.length) = true := decide_eq_true hmo
          have hmi : (m : Int) < o.length := by omega
          clear hce
          by_cases hz : o.getD m 0 = 0
          · have hmem : (0 : UInt8) ∈ o := by
              rw [← hz, List.getD_eq_getElem?_getD, List.getElem?_eq_getElem hmo]; exact List.getElem_mem _
            have HNONE := Lib.hid (show V = none by rw [HG2.out, if_pos (.inr hmem)])
            clear hmem
            rw [hz, show ((0 : UInt8).toNat : Int) = 0 from rfl] at cm
            clear hz
            obtain ⟨⟨k0, k1, k2, k3⟩, f0, f1, f2, f3⟩ := cells4 HBR.out
            go_wp2
            refine bodyPost_ret (results_val rfl _ _ r 26 _ (0, 0) _ rfl (set4 HBR.out _ _ _ _) Try.underlying26 rfl infoVal _ rfl) rfl ?_
            exact name_none HNONE.out (below_set4 HBW.out (by have := HRR.out; omega) _ _ _ _)
          · have e0 := u8_ne hz 0 rfl
            have HZ2 := Lib.hid (show ∀ j, j < m + 1 → o.getD j 0 ≠ 0 from fun j hj => by
              by_cases e : j = m
              · subst e; exact hz
              · exact HZ.out j (by omega))
            generalize (o.getD m 0).toNat = x at *
            clear hz
            go_wp2
            go_round
            case rel => exact ⟨m + 1, hmo, by go_num, HZ2⟩
            case measure => simp [intOf]; omega
        · obtain rfl : m = o.length := by omega
          have hn0 : ¬ (0 : UInt8) ∈ o := fun hm => by
            obtain ⟨j, hj, hje⟩ := List.getElem_of_mem hm
            refine HZ.out j hj ?_
            rw [List.getD_eq_getElem?_getD, List.getElem?_eq_getElem hj]; exact hje
          by_cases h127 : 127 < o.length
          · have HNONE := Lib.hid (show V = none by rw [HG2.out, if_pos (.inl h127)])
            have h127d : decide ((127 : Int) < o.length) = true := decide_eq_true (by omega)
            have h127e : decide (127 < o.length) = true := decide_eq_true h127
            clear hn0
            obtain ⟨⟨k0, k1, k2, k3⟩, f0, f1, f2, f3⟩ := cells4 HBR.out
            go_wp2
            refine bodyPost_ret (results_val rfl _ _ r 26 _ (0, 0) _ rfl (set4 HBR.out _ _ _ _) Try.underlying26 rfl infoVal _ rfl) rfl ?_
            exact name_none HNONE.out (below_set4 HBW.out (by have := HRR.out; omega) _ _ _ _)
          · have HS := Lib.hid (show V = some o by rw [HG2.out, if_neg (by rintro (h | h) <;> contradiction)])
            have h127d : decide ((127 : Int) < o.length) = false := decide_eq_false (by omega)
            have h127e : decide (127 < o.length) = false := decide_eq_false h127
            clear hn0 h127
            have hcv := HCV.out
            obtain ⟨⟨k0, k1, k2, k3⟩, f0, f1, f2, f3⟩ := cells4 HBR.out
            go_wp2
            refine bodyPost_ret (results_val rfl _ _ r 26 _ (0, 0) _ rfl (set4 HBR.out _ _ _ _) Try.underlying26 rfl infoVal _ rfl) rfl ?_
            exact name_some HS.out (below_set4 HBW.out (by have := HRR.out; omega) _ _ _ _)
end Go.Proofs.Ytkolfecjlbnfkaa
