/-
  The walk of layer 10's reference: a text in hex.
-/
import Derived.Test.YtkolfecjlbnfkaaLexN
import Derived.IntWalk
import Derived.Deep.RegionHeld3
import Derived.Deep.AppendLies
namespace Go.Proofs.Ytkolfecjlbnfkaa
open Go.RowKit

set_option maxRecDepth 8000 in
set_option maxHeartbeats 8000000 in
theorem rhexes_any {w : World} {a : Option Addr} {cap : Nat} {bs : List UInt8} (hr : Row w 1 a bs.length cap (bs.map u8C)) (hn : bs.length ≤ 100000) (k : Nat) (hk : k ≤ bs.length) (last : Bool) :
    Calls Try.prog 22 #[.slice a bs.length cap, .int .i64 k, .bool last] w (HexREnd bs last (hexV [] (-1) (bs.drop k)) w) := by
  obtain ⟨V, hV⟩ : ∃ V, V = hexV [] (-1) (bs.drop k) := ⟨_, rfl⟩
  rw [← hV]
  have HV := Lib.hid hV
  have HC := Lib.hid (fun (W : World) (h : Below w.heap.size w W) j (hj : j < bs.length) => (hr.mono h).at 0 j hj)
  have HK := Lib.hid hk
  clear hV hr hk
  go_enter Try.func22, Try.ntmps22
  go_wp2
  go_loopw [1, 9] (fun i v wr => ∃ (j : Nat) (ds : List Int) (o : List UInt8) (half : Int), j ≤ bs.length ∧ i = .int .i64 j ∧ ds.length ≤ j ∧ Hid (DgM w v ds wr) ∧ Hid (DgP ds o half) ∧ Hid (V = hexV o half (bs.drop j))) (fun i _ _ => bs.length - (intOf i).toNat)
  case atStart => exact ⟨k, [], [], -1, HK.out, rfl, by simp, Lib.hid ⟨World.ownsRow_nil _ _ _ _, Below.refl _ _⟩, Lib.hid DgP.nil, HV⟩
  case round =>
    obtain ⟨j, ds, o, half, hj, rfl, hdj, HD, HP, HG⟩ := hrel
    have hsz := HD.out.bel.size
    by_cases hlt : j < bs.length
    · obtain ⟨b0, off, ha, -, hc⟩ := HC.out wr HD.out.bel j hlt
      unfold u8C at hc
      have hcj := hc j hlt
      have hji : decide ((j : Int) < bs.length) = true := decide_eq_true (by omega)
      have hjn : decide (j < bs.length) = true := decide_eq_true hlt
      have hjl : (j : Int) < bs.length := by omega
      have hg := HG.out
      rw [drop_cons hlt, hexV] at hg
      subst ha
      obtain ⟨c, hcc⟩ : ∃ c, bs.getD j 0 = c := ⟨_, rfl⟩
      rw [hcc] at hcj hg
      clear hc hcc
      by_cases h62 : c = 62
      · subst h62
        rw [if_pos rfl] at hg
        obtain ⟨p1, p2, p3⟩ := HP.out.odd
        have HBD := Lib.hid HP.out.bd
        rw [show ((62 : UInt8).toNat : Int) = 62 from rfl] at hcj
        by_cases hh : 0 ≤ half
        · rw [if_pos hh] at hg
          have ho : ((ds.length : Int) % 2 == 1) = true := by rw [beq_iff_eq]; exact p1.2 hh
          obtain ⟨q1, q2⟩ := p3 hh
          obtain ⟨va, vcap, hv, -⟩ := HD.out.len
          have HBD2 := Lib.hid (show ∀ d ∈ ds ++ [0], 0 ≤ d ∧ d ≤ 15 from fun d hd => by
            rcases List.mem_append.1 hd with h | h
            · exact HBD.out d h
            · simp at h; subst h; omega)
          have HQ1 := Lib.hid q1
          have HQ2 := Lib.hid q2
          have HG2 := Lib.hid hg
          subst hv
          clear hg p1 p2 p3 q1 q2 hh
          generalize o ++ [UInt8.ofNat (16 * half).toNat] = X at *
          go_wp2_with (at_builtin; refine append_row EInt rfl (.tmp 29) (.tmp 30) rfl w.heap.size _ ds.length _ rfl (HD.out.row.alloc _) _ 1 _ _ rfl (row_new1 _ _ _) (one_mem rfl) (by unfold maxLen; omega) (by omega) (by rw [sizeA]; omega) ?_; intro v' w5 hO5 hg5 hnil5; have HD5 := Lib.hid (HD.out.put 0 _ hO5 hg5); clear hO5 hg5 hnil5)
          have hl5 : (ds ++ [0]).length ≤ 100001 := by simp; omega
          have HEB := HBD2
          generalize ds ++ [0] = es at *
          obtain ⟨ea, ec, hv5, hrow5⟩ := HD5.out.len
          subst hv5
          have HR5 := Lib.hid hrow5
          clear hrow5 HBD HBD2 HD HP HG
          go_loopw [11, 12] (fun v i wq => ∃ (m p : Nat), m ≤ X.length ∧ i = .int .i64 p ∧ Hid (p = 2 * m) ∧ Hid (wq.ownsRow w5.heap.size 5 1 v (X.take m).length ((X.take m).map u8C)) ∧ Hid (Below w5.heap.size w5 wq)) (fun _ i _ => es.length - (intOf i).toNat)
          case atStart => exact ⟨0, 0, Nat.zero_le _, by go_num, Lib.hid rfl, Lib.hid (by simpa using World.ownsRow_nil _ _ _ _), Lib.hid (Below.refl _ _)⟩
          case round =>
            obtain ⟨m, p, hm, rfl, HPM, HO, HB⟩ := hrel
            have hq2 := HQ2.out
            have hpm := HPM.out
            have hsz5 := HB.out.size
            by_cases hmx : m < X.length
            · have hp1 : p + 1 < es.length := by omega
              obtain ⟨b1, off1, he, hb15, hce0⟩ := HR5.out.at 0 p (by omega)
              have hce := fun k hk => cell?_keep HB.out (hce0 k hk)
              clear hce0
              have c1 := hce p (by omega)
              have c2 := hce (p + 1) hp1
              unfold i64C at c1 c2
              have hA := HEB.out (es.getD p 0) (by rw [List.getD_eq_getElem?_getD, List.getElem?_eq_getElem (by omega)]; exact List.getElem_mem _)
              have hB := HEB.out (es.getD (p + 1) 0) (by rw [List.getD_eq_getElem?_getD, List.getElem?_eq_getElem (by omega)]; exact List.getElem_mem _)
              have HPK := Lib.hid (take_next (X := X) (m := m) (by rw [← HQ1.out, pk_get m es (by omega), ← hpm]))
              have hpn : decide (p < es.length) = true := decide_eq_true (by omega)
              have hpi : (p : Int) < es.length := by omega
              have hpi1 : (p : Int) + 1 < es.length := by omega
              have hmo : (X.take m).length ≤ 100000 := by rw [List.length_take]; omega
              have HM := Lib.hid (show es.length - (p + 2) < es.length - p by omega)
              have HP2 := Lib.hid (show p + 2 = 2 * (m + 1) by omega)
              have HMX := Lib.hid hmx
              have hpl : p ≤ 100001 := by omega
              subst he
              obtain ⟨hA0, hA1⟩ := hA
              obtain ⟨hB0, hB1⟩ := hB
              generalize es.getD p 0 = A at *
              generalize es.getD (p + 1) 0 = B at *
              have HBY := Lib.hid (byte_of9 (16 * A + B) (by omega) (by omega))
              clear hce hq2 hpm hm hmx
              go_wp2
              have ak : u11.ownBlock ≠ some b1 := fun e => by have h1 := (HO.out.lt b1 e).1; omega
              have hb1w : b1 < wr.heap.size := by omega
              have i1 : IntKind.i64.wrap ((p : Int) + 1) = (p : Int) + 1 := IntWalk.i64_in _ (by omega)
              have i2 : IntKind.i64.wrap (16 * A) = 16 * A := IntWalk.i64_in _ (by omega)
              have i3 : IntKind.i64.wrap (16 * A + B) = 16 * A + B := IntWalk.i64_in _ (by omega)
              have i4 : IntKind.u8.wrap (16 * A + B) = 16 * A + B := by rw [IntKind.wrap_u8]; omega
              have i5 : ((p : Int) + 1).toNat = p + 1 := by omega
              have i6 : (0 : Int) ≤ (p : Int) + 1 := by omega
              have hBw : w5.heap.size ≤ wr.heap.size := hsz5
              go_region_held3 (fun w' => w'.cell? ⟨b1, off1 + p, none⟩ = some (.int .i64 A) ∧ w'.cell? ⟨b1, off1 + (p + 1), none⟩ = some (.int .i64 B))
                (first
                  | go_keep
                  | (go_split_ands
                     refine ⟨?_, ?_⟩
                     · (rw [hgrow.cell_far _ (by simp; omega) (Ne.symm ak)]; assumption)
                     · (rw [hgrow.cell_far _ (by simp; omega) (Ne.symm ak)]; assumption)))
                ((obtain ⟨iB, hiB, hzB, hsB, hbB⟩ := info_parts EByte.info; refine step_append_lies _ (by rfl) _ _ _ (by rfl) w5.heap.size 5 iB _ 1 1 EByte.und hiB hzB hsB hbB rfl (by omega) u11 (X.take m).length _ (by rfl) ((HO.out.alloc _).drew) ⟨wr.heap.size, 0, none⟩ 1 1 [.int .u8 (16 * A + B)] (by rfl) (by rfl) (World.news_of_block (cs := #[.int .u8 (16 * A + B)]) (t := 5) (fr := (0, 0)) (heap_alloc_new wr _)) (by simp [Value.oneCell']) (by omega) (by unfold maxLen; omega) (by omega) (by simp; omega) (wr.heap.size + 1) (by simp) ?_; intro g cap7 w7 hO7 hgrow hat hlt))
              have HP7 := Lib.hid (show w7.ownsRow w5.heap.size 5 1 (.slice (some ⟨g, 0, none⟩) ((X.take m).length + 1) cap7) (X.take m ++ [UInt8.ofNat (16 * A + B).toNat]).length ((X.take m ++ [UInt8.ofNat (16 * A + B).toNat]).map u8C) ∧ Below w5.heap.size w5 w7 from
                put_one (UInt8.ofNat (16 * A + B).toNat) (.cells #[.int .u8 (16 * A + B)] 5) (below_drewN HB.out 1) hBw (ownsRow_keep HO.out (below_drewN (Below.refl _ _) 1)) (show Value.int .u8 (16 * A + B) = u8C (UInt8.ofNat (16 * A + B).toNat) from congrArg (Value.int .u8) HBY.out) hO7 hgrow)
              clear hgrow hO7 hat hlt ak i1 i2 i3 i4 i5 i6
              go_wp2
              go_roundw
              case rel => exact ⟨m + 1, p + 2, HMX.out, by go_num, HP2, Lib.hid (by rw [HPK.out]; have h := HP7.out.1; simpa using h), Lib.hid HP7.out.2⟩
              case measure => have := HM.out; simp only [intOf]; omega
            · have hpn : decide (p < es.length) = false := decide_eq_false (by omega)
              have hX : X.take m = X := List.take_of_length_le (by omega)
              have HO2 := Lib.hid (by have h := HO.out; rw [hX] at h; exact h)
              have HBB := Lib.hid (HD5.out.bel.trans (HB.out.mono HD5.out.bel.size))
              have hoo := ownsRow_base HO2.out HD5.out.bel.size
              have HOO := Lib.hid hoo
              clear hX hoo hq2 hpm hmx
              go_wp2
              go_ret3
              exact hexR_some HG2.out hlt rfl HOO.out HBB.out
        · have hh2 : half < 0 := by omega
          rw [if_neg hh] at hg
          have ho : ((ds.length : Int) % 2 == 1) = false := by rw [beq_eq_false_iff_ne]; exact fun e => hh (p1.1 e)
          obtain ⟨q1, q2⟩ := p2 hh2
          obtain ⟨ea, ec, hv5, hrow5⟩ := HD.out.len
          have HQ1 := Lib.hid q1
          have HQ2 := Lib.hid q2
          have HG2 := Lib.hid hg
          have HEB := HBD
          have HD5 := HD
          have HR5 := Lib.hid hrow5
          have hl5 : ds.length ≤ 100001 := by omega
          subst hv5
          clear hg p1 p2 p3 q1 q2 hh hh2 hrow5 HBD HD HP HG
          obtain ⟨X, hX⟩ : ∃ X, X = o := ⟨_, rfl⟩
          subst hX
          obtain ⟨es, hes⟩ : ∃ es, es = ds := ⟨_, rfl⟩
          subst hes
          go_wp2
          obtain ⟨w5, hw5⟩ : ∃ w5 : World, w5 = wr := ⟨_, rfl⟩
          subst hw5
          go_loopw [11, 12] (fun v i wq => ∃ (m p : Nat), m ≤ X.length ∧ i = .int .i64 p ∧ Hid (p = 2 * m) ∧ Hid (wq.ownsRow w5.heap.size 5 1 v (X.take m).length ((X.take m).map u8C)) ∧ Hid (Below w5.heap.size w5 wq)) (fun _ i _ => es.length - (intOf i).toNat)
          case atStart => exact ⟨0, 0, Nat.zero_le _, by go_num, Lib.hid rfl, Lib.hid (by simpa using World.ownsRow_nil _ _ _ _), Lib.hid (Below.refl _ _)⟩
          case round =>
            obtain ⟨m, p, hm, rfl, HPM, HO, HB⟩ := hrel
            have hq2 := HQ2.out
            have hpm := HPM.out
            have hsz5 := HB.out.size
            by_cases hmx : m < X.length
            · have hp1 : p + 1 < es.length := by omega
              obtain ⟨b1, off1, he, hb15, hce0⟩ := HR5.out.at 0 p (by omega)
              have hce := fun k hk => cell?_keep HB.out (hce0 k hk)
              clear hce0
              have c1 := hce p (by omega)
              have c2 := hce (p + 1) hp1
              unfold i64C at c1 c2
              have hA := HEB.out (es.getD p 0) (by rw [List.getD_eq_getElem?_getD, List.getElem?_eq_getElem (by omega)]; exact List.getElem_mem _)
              have hB := HEB.out (es.getD (p + 1) 0) (by rw [List.getD_eq_getElem?_getD, List.getElem?_eq_getElem (by omega)]; exact List.getElem_mem _)
              have HPK := Lib.hid (take_next (X := X) (m := m) (by rw [← HQ1.out, pk_get m es (by omega), ← hpm]))
              have hpn : decide (p < es.length) = true := decide_eq_true (by omega)
              have hpi : (p : Int) < es.length := by omega
              have hpi1 : (p : Int) + 1 < es.length := by omega
              have hmo : (X.take m).length ≤ 100000 := by rw [List.length_take]; omega
              have HM := Lib.hid (show es.length - (p + 2) < es.length - p by omega)
              have HP2 := Lib.hid (show p + 2 = 2 * (m + 1) by omega)
              have HMX := Lib.hid hmx
              have hpl : p ≤ 100001 := by omega
              subst he
              obtain ⟨hA0, hA1⟩ := hA
              obtain ⟨hB0, hB1⟩ := hB
              generalize es.getD p 0 = A at *
              generalize es.getD (p + 1) 0 = B at *
              have HBY := Lib.hid (byte_of9 (16 * A + B) (by omega) (by omega))
              clear hce hq2 hpm hm hmx
              go_wp2
              have ak : u11.ownBlock ≠ some b1 := fun e => by have h1 := (HO.out.lt b1 e).1; omega
              have hb1w : b1 < wr.heap.size := by omega
              have i1 : IntKind.i64.wrap ((p : Int) + 1) = (p : Int) + 1 := IntWalk.i64_in _ (by omega)
              have i2 : IntKind.i64.wrap (16 * A) = 16 * A := IntWalk.i64_in _ (by omega)
              have i3 : IntKind.i64.wrap (16 * A + B) = 16 * A + B := IntWalk.i64_in _ (by omega)
              have i4 : IntKind.u8.wrap (16 * A + B) = 16 * A + B := by rw [IntKind.wrap_u8]; omega
              have i5 : ((p : Int) + 1).toNat = p + 1 := by omega
              have i6 : (0 : Int) ≤ (p : Int) + 1 := by omega
              have hBw : w5.heap.size ≤ wr.heap.size := hsz5
              go_region_held3 (fun w' => w'.cell? ⟨b1, off1 + p, none⟩ = some (.int .i64 A) ∧ w'.cell? ⟨b1, off1 + (p + 1), none⟩ = some (.int .i64 B))
                (first
                  | go_keep
                  | (go_split_ands
                     refine ⟨?_, ?_⟩
                     · (rw [hgrow.cell_far _ (by simp; omega) (Ne.symm ak)]; assumption)
                     · (rw [hgrow.cell_far _ (by simp; omega) (Ne.symm ak)]; assumption)))
                ((obtain ⟨iB, hiB, hzB, hsB, hbB⟩ := info_parts EByte.info; refine step_append_lies _ (by rfl) _ _ _ (by rfl) w5.heap.size 5 iB _ 1 1 EByte.und hiB hzB hsB hbB rfl (by omega) u11 (X.take m).length _ (by rfl) ((HO.out.alloc _).drew) ⟨wr.heap.size, 0, none⟩ 1 1 [.int .u8 (16 * A + B)] (by rfl) (by rfl) (World.news_of_block (cs := #[.int .u8 (16 * A + B)]) (t := 5) (fr := (0, 0)) (heap_alloc_new wr _)) (by simp [Value.oneCell']) (by omega) (by unfold maxLen; omega) (by omega) (by simp; omega) (wr.heap.size + 1) (by simp) ?_; intro g cap7 w7 hO7 hgrow hat hlt))
              have HP7 := Lib.hid (show w7.ownsRow w5.heap.size 5 1 (.slice (some ⟨g, 0, none⟩) ((X.take m).length + 1) cap7) (X.take m ++ [UInt8.ofNat (16 * A + B).toNat]).length ((X.take m ++ [UInt8.ofNat (16 * A + B).toNat]).map u8C) ∧ Below w5.heap.size w5 w7 from
                put_one (UInt8.ofNat (16 * A + B).toNat) (.cells #[.int .u8 (16 * A + B)] 5) (below_drewN HB.out 1) hBw (ownsRow_keep HO.out (below_drewN (Below.refl _ _) 1)) (show Value.int .u8 (16 * A + B) = u8C (UInt8.ofNat (16 * A + B).toNat) from congrArg (Value.int .u8) HBY.out) hO7 hgrow)
              clear hgrow hO7 hat hlt ak i1 i2 i3 i4 i5 i6
              go_wp2
              go_roundw
              case rel => exact ⟨m + 1, p + 2, HMX.out, by go_num, HP2, Lib.hid (by rw [HPK.out]; have h := HP7.out.1; simpa using h), Lib.hid HP7.out.2⟩
              case measure => have := HM.out; simp only [intOf]; omega
            · have hpn : decide (p < es.length) = false := decide_eq_false (by omega)
              have hX : X.take m = X := List.take_of_length_le (by omega)
              have HO2 := Lib.hid (by have h := HO.out; rw [hX] at h; exact h)
              have HBB := Lib.hid (HD5.out.bel.trans (HB.out.mono HD5.out.bel.size))
              have hoo := ownsRow_base HO2.out HD5.out.bel.size
              have HOO := Lib.hid hoo
              clear hX hoo hq2 hpm hmx
              go_wp2
              go_ret3
              exact hexR_some HG2.out hlt rfl HOO.out HBB.out
      · have e62 := u8_ne h62 62 rfl
        rw [if_neg h62] at hg
        have HSP := Lib.hid (fun W => rspace_any c.toNat W)
        rw [← spI_eq] at HSP
        have HHX := Lib.hid (fun W => rhex_any c W)
        have hbd := hexD_bd c
        generalize c.toNat = x at *
        obtain ⟨sp, hsp⟩ : ∃ sp, isSp c = sp := ⟨_, rfl⟩
        rw [hsp] at HSP hg
        clear hsp h62
        generalize hexD c = d at *
        cases sp
        · rw [if_neg (by decide)] at hg
          by_cases hd : d < 0
          · rw [if_pos hd] at hg
            have hdd : decide (d < 0) = true := decide_eq_true hd
            have HG2 := Lib.hid hg
            clear hg hd
            go_wp2_with (first
              | (go_at_call 14; refine (HSP.out _).mono ?_; rintro e w' ⟨rfl, rfl⟩)
              | (go_at_call 34; refine (HHX.out _).mono ?_; rintro e w' ⟨rfl, rfl⟩))
            go_ret3
            exact hexR_form HG2.out HD.out.bel
          · rw [if_neg hd] at hg
            have hdd : decide (d < 0) = false := decide_eq_false hd
            obtain ⟨q1, q2⟩ := HP.out.put (show 0 ≤ d by omega) hbd.2
            have HQ : Hid (∃ o2 h2, DgP (ds ++ [d]) o2 h2 ∧ V = hexV o2 h2 (bs.drop (j + 1))) := by
              by_cases hh : half < 0
              · rw [if_pos hh] at hg; exact Lib.hid ⟨_, _, q1 hh, hg⟩
              · rw [if_neg hh] at hg; exact Lib.hid ⟨_, _, q2 (by omega), hg⟩
            obtain ⟨va, vcap, hv, -⟩ := HD.out.len
            subst hv
            clear hg q1 q2 hd
            go_wp2_with (first
              | (go_at_call 14; refine (HSP.out _).mono ?_; rintro e w' ⟨rfl, rfl⟩)
              | (go_at_call 34; refine (HHX.out _).mono ?_; rintro e w' ⟨rfl, rfl⟩)
              | (at_builtin; refine append_row EInt rfl (.tmp 60) (.tmp 63) rfl w.heap.size _ ds.length _ rfl (HD.out.row.alloc _) _ 1 _ _ rfl (row_new1 _ _ _) (one_mem rfl) (by unfold maxLen; omega) (by omega) (by rw [sizeA]; omega) ?_; intro v' w5 hO5 hg5 hnil5; have HD5 := Lib.hid (HD.out.put d _ hO5 hg5); clear hO5 hg5 hnil5))
            go_roundw
            case rel =>
              obtain ⟨o2, h2, q1, q2⟩ := HQ.out
              exact ⟨j + 1, ds ++ [d], o2, h2, by omega, by go_num, by simp; omega, HD5, Lib.hid q1, Lib.hid q2⟩
            case measure => simp [intOf]; omega
        · rw [if_pos rfl] at hg
          have HG2 := Lib.hid hg
          clear hg
          go_wp2_with (go_at_call 14; refine (HSP.out _).mono ?_; rintro e w' ⟨rfl, rfl⟩)
          go_roundw
          case rel => exact ⟨j + 1, ds, o, half, by omega, by go_num, by omega, HD, HP, HG2⟩
          case measure => simp [intOf]; omega
    · obtain rfl : j = bs.length := by omega
      have hg := HG.out
      rw [List.drop_length, hexV] at hg
      have HG2 := Lib.hid hg
      have hji : decide ((bs.length : Int) < bs.length) = false := decide_eq_false (by omega)
      clear hg
      go_wp2_with (go_at_call 35; refine (rcut_any _ _).mono ?_; rintro e w' ⟨rfl, rfl⟩)
      go_ret3
      exact hexR_open HG2.out HD.out.bel
end Go.Proofs.Ytkolfecjlbnfkaa
