/-
  Walks of the laws of layer 9: what is printed is read, what is read is printed.
-/
import Derived.Test.YtkolfecjlbnfkaaDoorNumLaw
namespace Go.Proofs.YtkolfecjlbnfkaaDoor
open Go.RowKit

theorem digits_pad2 (n d : Int) (h : (padV n d).2 = 0) : digitsV (bl (mkS (padV n d).1)) = if 2147483647 < n then (0, 5) else (n, 0) := (digits_pad n d h).2.2

set_option maxRecDepth 8000 in
set_option maxHeartbeats 8000000 in
theorem law_back (k n : Int) (s : ByteArray) (a : Option Addr) (m c : Nat) (d : Int) (w : World) (hm : (m : Int) ≤ 9223372036854775807) (hn : n < 9223372036854775808) (hn0 : -9223372036854775808 ≤ n) (hd0 : -9223372036854775808 ≤ d) (hd1 : d ≤ 9223372036854775807) :
    Calls Tryd.prog 5 #[.agg #[.int .i64 k, .int .i64 n, .string s, .slice a m c], .int .i64 d] w (LawEnd w) := by
  have hP := fun W => print_any k n s a m c W hm
  have hA := fun W => pad_any n d W hn hn0 hd0 hd1
  unfold PrintEnd at hP
  unfold PadEnd at hA
  have HA := Lib.hid hA
  have HW := Lib.hid (fun W => works9 W)
  unfold LawEnd at HW
  have HBX := Lib.hid (show (w.alloc (.cells #[.int .i64 k, .int .i64 n, .string s, .slice a m c] 25)).heap[w.heap.size]? = some (.cells #[.int .i64 k, .int .i64 n, .string s, .slice a m c] 25 (0, 0)) from heapA_new _ rfl)
  have HB0 := Lib.hid (belowA w (.cells #[.int .i64 k, .int .i64 n, .string s, .slice a m c] 25))
  -- the digits with zeros ahead
  have HDG := Lib.hid (fun (W : World) (h : (padV n d).2 = 0) => (by rw [← digits_pad2 n d h]; exact digits_any (mkS (padV n d).1) W : Calls Tryd.prog 10 #[.string (mkS (padV n d).1)] W (DigEnd (if 2147483647 < n then (0, 5) else (n, 0)) W)))
  have HQL := Lib.hid (fun h : (padV n d).2 = 0 => (show ((mkS (padV n d).1).size : Int) = d by rw [mkS_size]; exact (digits_pad n d h).2.1))
  have HQS := Lib.hid (padV_is n d)
  clear hA hn hn0 hd0 hd1
  generalize padV n d = pv at *
  obtain ⟨qs, qe⟩ := pv
  simp only at HA HDG HQL HQS
  rcases checkV_is k n (bareV s m) with hc | hc
  · have hpp := parse_print k n (bareV s m) hc
    have hlen := print_len hc
    have h2 : (printV k n (bareV s m)).2 = 0 := by rw [printV_ok hc]
    obtain ⟨hb, -⟩ := checkV_cases hc
    obtain ⟨rfl, rfl⟩ := bare_parts hb
    have hPR := fun W => parse_any (mkS (printV k n (bareV noStr 0)).1) W (by rw [mkS_size]; omega)
    rw [bl_mkS, hpp] at hPR
    rw [h2] at hP
    unfold ParseEnd valC at hPR
    simp only at hPR
    have HP := Lib.hid hP
    have HPR := Lib.hid hPR
    have HS := Lib.hid (fun W => same_any k n noStr none a 0 0 c W (by omega))
    clear hP hPR hpp hlen h2 hc hb
    generalize mkS (printV k n (bareV noStr 0)).1 = ps at *
    go_enter Tryd.func5, Tryd.ntmps5
    go_wp2_with fail
    refine (HP.out _).mono ?_
    rintro e w1 ⟨rfl, hb1⟩
    have HK1 := Lib.hid (block_keep hb1 HBX.out)
    have HB1 := Lib.hid (HB0.out.trans (hb1.mono HB0.out.size))
    clear hb1
    go_wp2_with fail
    refine (HPR.out _).mono ?_
    rintro e w2 ⟨rfl, hb2⟩
    have hk2 := block_keep hb2 HK1.out
    have HK2 := Lib.hid hk2
    have HB2 := Lib.hid (HB1.out.trans (hb2.mono HB1.out.size))
    obtain ⟨⟨k0, k1, k2, k3⟩, -⟩ := cells4 hk2
    have hlt := (Array.getElem?_eq_some_iff.1 hk2).1
    clear hb2 hk2
    go_wp2_with fail
    refine (HS.out _).mono ?_
    rintro e w3 ⟨rfl, hb3⟩
    clear k0 k1 k2 k3
    have hk3 := block_keep hb3 (heapA_old _ HK2.out)
    have HB3 := Lib.hid ((HB2.out.trans ((belowA w2 _).mono HB2.out.size)).trans (hb3.mono (by rw [sizeA]; have := HB2.out.size; omega)))
    obtain ⟨⟨k0, k1, k2, k3⟩, -⟩ := cells4 hk3
    have HK3 := Lib.hid hk3
    clear hb3 hk3 hlt
    go_wp2_with fail
    refine (HA.out _).mono ?_
    rintro e w4 ⟨rfl, q, rfl⟩
    rcases HQS.out with hq | hq
    · have HQ := Lib.hid (HQL.out hq)
      have HDG2 := Lib.hid (fun W => HDG.out W hq)
      subst hq
      have hk4 : (w3.drewN q).heap[w.heap.size]? = _ := HK3.out
      have HB4 := Lib.hid (below_drewN HB3.out q)
      generalize w3.drewN q = w4 at *
      clear k0 k1 k2 k3
      by_cases hbig : 2147483647 < n
      · rw [if_pos hbig] at HDG2
        unfold DigEnd at HDG2
        go_wp2_with fail
        refine (HDG2.out _).mono ?_
        rintro e w5 ⟨rfl, hb5⟩
        have hk5 := block_keep hb5 hk4
        have HB5 := Lib.hid (HB4.out.trans (hb5.mono HB4.out.size))
        obtain ⟨⟨k0, k1, k2, k3⟩, -⟩ := cells4 hk5
        have hqd : (((mkS qs).size : Int) == d) = true := by rw [beq_iff_eq]; exact HQ.out
        clear hb5 hk5 hk4
        go_wp2_with (go_at_call 7; refine (HW.out _).mono ?_; rintro e w' ⟨rfl, hb⟩)
        go_ret
        exact ⟨rfl, HB5.out.trans (hb.mono HB5.out.size)⟩
      · rw [if_neg hbig] at HDG2
        unfold DigEnd at HDG2
        have hbigd : decide (2147483647 < n) = false := by simpa using hbig
        go_wp2_with fail
        refine (HDG2.out _).mono ?_
        rintro e w5 ⟨rfl, hb5⟩
        have hk5 := block_keep hb5 hk4
        have HB5 := Lib.hid (HB4.out.trans (hb5.mono HB4.out.size))
        obtain ⟨⟨k0, k1, k2, k3⟩, -⟩ := cells4 hk5
        have hqd : (((mkS qs).size : Int) == d) = true := by rw [beq_iff_eq]; exact HQ.out
        clear hb5 hk5 hk4 hbig
        go_wp2_with (go_at_call 7; refine (HW.out _).mono ?_; rintro e w' ⟨rfl, hb⟩)
        go_ret
        exact ⟨rfl, HB5.out.trans (hb.mono HB5.out.size)⟩
    · have hqe : qe = 2 := (Prod.mk.inj hq).2
      clear hq
      subst hqe
      have HB4 := Lib.hid (below_drewN HB3.out q)
      generalize w3.drewN q = w4 at *
      clear k0 k1 k2 k3
      go_wp2_with (go_at_call 7; refine (HW.out _).mono ?_; rintro e w' ⟨rfl, hb⟩)
      go_ret
      exact ⟨rfl, HB4.out.trans (hb.mono HB4.out.size)⟩
  · have h2 : (printV k n (bareV s m)).2 = 2 := by rw [printV_bad hc]
    rw [h2] at hP
    have HP := Lib.hid hP
    clear hP h2 hc
    generalize mkS (printV k n (bareV s m)).1 = ps at *
    go_enter Tryd.func5, Tryd.ntmps5
    go_wp2_with fail
    refine (HP.out _).mono ?_
    rintro e w3 ⟨rfl, hb1⟩
    have hk3 := block_keep hb1 HBX.out
    have HB3 := Lib.hid (HB0.out.trans (hb1.mono HB0.out.size))
    obtain ⟨⟨k0, k1, k2, k3⟩, -⟩ := cells4 hk3
    have HK3 := Lib.hid hk3
    clear hb1 hk3
    go_wp2_with fail
    refine (HA.out _).mono ?_
    rintro e w4 ⟨rfl, q, rfl⟩
    rcases HQS.out with hq | hq
    · have HQ := Lib.hid (HQL.out hq)
      have HDG2 := Lib.hid (fun W => HDG.out W hq)
      subst hq
      have hk4 : (w3.drewN q).heap[w.heap.size]? = _ := HK3.out
      have HB4 := Lib.hid (below_drewN HB3.out q)
      generalize w3.drewN q = w4 at *
      clear k0 k1 k2 k3
      by_cases hbig : 2147483647 < n
      · rw [if_pos hbig] at HDG2
        unfold DigEnd at HDG2
        go_wp2_with fail
        refine (HDG2.out _).mono ?_
        rintro e w5 ⟨rfl, hb5⟩
        have hk5 := block_keep hb5 hk4
        have HB5 := Lib.hid (HB4.out.trans (hb5.mono HB4.out.size))
        obtain ⟨⟨k0, k1, k2, k3⟩, -⟩ := cells4 hk5
        have hqd : (((mkS qs).size : Int) == d) = true := by rw [beq_iff_eq]; exact HQ.out
        clear hb5 hk5 hk4
        go_wp2_with (go_at_call 7; refine (HW.out _).mono ?_; rintro e w' ⟨rfl, hb⟩)
        go_ret
        exact ⟨rfl, HB5.out.trans (hb.mono HB5.out.size)⟩
      · rw [if_neg hbig] at HDG2
        unfold DigEnd at HDG2
        have hbigd : decide (2147483647 < n) = false := by simpa using hbig
        go_wp2_with fail
        refine (HDG2.out _).mono ?_
        rintro e w5 ⟨rfl, hb5⟩
        have hk5 := block_keep hb5 hk4
        have HB5 := Lib.hid (HB4.out.trans (hb5.mono HB4.out.size))
        obtain ⟨⟨k0, k1, k2, k3⟩, -⟩ := cells4 hk5
        have hqd : (((mkS qs).size : Int) == d) = true := by rw [beq_iff_eq]; exact HQ.out
        clear hb5 hk5 hk4 hbig
        go_wp2_with (go_at_call 7; refine (HW.out _).mono ?_; rintro e w' ⟨rfl, hb⟩)
        go_ret
        exact ⟨rfl, HB5.out.trans (hb.mono HB5.out.size)⟩
    · have hqe : qe = 2 := (Prod.mk.inj hq).2
      clear hq
      subst hqe
      have HB4 := Lib.hid (below_drewN HB3.out q)
      generalize w3.drewN q = w4 at *
      clear k0 k1 k2 k3
      go_wp2_with (go_at_call 7; refine (HW.out _).mono ?_; rintro e w' ⟨rfl, hb⟩)
      go_ret
      exact ⟨rfl, HB4.out.trans (hb.mono HB4.out.size)⟩

set_option maxRecDepth 8000 in
set_option maxHeartbeats 8000000 in
theorem law_again (s : ByteArray) (w : World) (hs : s.size ≤ 9223372036854775807) : Calls Tryd.prog 6 #[.string s] w (LawEnd w) := by
  have HW := Lib.hid (fun W => works9 W)
  unfold LawEnd at HW
  by_cases hbig : 300 < (s.size : Int)
  · go_enter Tryd.func6, Tryd.ntmps6
    go_wp2_with (go_at_call 7; refine (HW.out _).mono ?_; rintro e w' ⟨rfl, hb⟩)
    go_ret
    exact ⟨rfl, hb⟩
  have hbd : decide (300 < (s.size : Int)) = false := by simpa using hbig
  have hs3 : s.size ≤ 300 := by omega
  have hP := fun W => parse_any s W (by omega)
  unfold ParseEnd valC at hP
  by_cases he : (parseV (bl s)).2.2 = 0
  · have hck := parseV_check (bl s) he
    rw [he] at hP
    generalize (parseV (bl s)).1 = K at *
    generalize (parseV (bl s)).2.1 = N at *
    have hpp := parse_print K N true hck
    have hlen := print_len hck
    have h2 : (printV K N true).2 = 0 := by rw [printV_ok hck]
    have hPR := fun W => parse_any (mkS (printV K N true).1) W (by rw [mkS_size]; omega)
    have hQ := fun W => print_any K N noStr none 0 0 W (by omega)
    have hC := fun W => check_any K N noStr none 0 0 W (by omega)
    rw [show bareV noStr 0 = true from rfl, hck] at hC
    unfold PrintEnd at hQ
    rw [show bareV noStr 0 = true from rfl, h2] at hQ
    rw [bl_mkS, hpp] at hPR
    unfold ParseEnd valC at hPR
    simp only at hPR
    have HP := Lib.hid hP
    have HQ := Lib.hid hQ
    have HPR := Lib.hid hPR
    have HC := Lib.hid hC
    have HS := Lib.hid (fun W => same_any K N noStr none none 0 0 0 W (by omega))
    clear hP hQ hPR hC hpp hlen h2 hck he hbig hs
    generalize mkS (printV K N true).1 = ps at *
    go_enter Tryd.func6, Tryd.ntmps6
    go_wp2_with fail
    refine (HP.out _).mono ?_
    rintro e w1 ⟨rfl, hb1⟩
    have HB1 := Lib.hid hb1
    clear hb1
    go_wp2_with fail
    refine (HQ.out _).mono ?_
    rintro e w2 ⟨rfl, hb2⟩
    have HK2 := Lib.hid (block_keep hb2 (heapA_new _ rfl))
    have HB2 := Lib.hid ((HB1.out.trans ((belowA w1 _).mono HB1.out.size)).trans (hb2.mono (by rw [sizeA]; have := HB1.out.size; omega)))
    clear hb2
    go_wp2_with fail
    refine (HPR.out _).mono ?_
    rintro e w3 ⟨rfl, hb3⟩
    have hk3 := block_keep hb3 HK2.out
    have HK3 := Lib.hid hk3
    have HB3 := Lib.hid (HB2.out.trans (hb3.mono HB2.out.size))
    have hlt := (Array.getElem?_eq_some_iff.1 hk3).1
    obtain ⟨⟨k0, k1, k2, k3⟩, -⟩ := cells4 hk3
    clear hb3 hk3
    go_wp2_with fail
    refine (HC.out _).mono ?_
    rintro e w4 ⟨rfl, hb4⟩
    clear k0 k1 k2 k3
    have hk4 := block_keep hb4 (heapA_old _ HK3.out)
    have hl4 := block_keep hb4 (heapA_new _ rfl)
    have HB4 := Lib.hid ((HB3.out.trans ((belowA w3 _).mono HB3.out.size)).trans (hb4.mono (by rw [sizeA]; have := HB3.out.size; omega)))
    obtain ⟨⟨k0, k1, k2, k3⟩, -⟩ := cells4 hk4
    obtain ⟨⟨g0, g1, g2, g3⟩, -⟩ := cells4 hl4
    clear hb4 hk4 hl4 hlt
    go_wp2_with fail
    refine (HS.out _).mono ?_
    rintro e w5 ⟨rfl, hb5⟩
    have HB5 := Lib.hid (HB4.out.trans (hb5.mono HB4.out.size))
    clear hb5 k0 k1 k2 k3 g0 g1 g2 g3
    go_wp2_with (go_at_call 7; refine (HW.out _).mono ?_; rintro e w' ⟨rfl, hb⟩)
    go_ret
    exact ⟨rfl, HB5.out.trans (hb.mono HB5.out.size)⟩
  · obtain ⟨z1, z2⟩ := parseV_err (bl s) he
    rw [z1, z2] at hP
    have hed : ((parseV (bl s)).2.2 == 0) = false := by rw [beq_eq_false_iff_ne]; exact he
    have hed2 : ((parseV (bl s)).2.2 != 0) = true := by rw [bne_iff_ne]; exact he
    have HP := Lib.hid hP
    have HS := Lib.hid (fun W => same_any 0 0 noStr none none 0 0 0 W (by omega))
    clear hP z1 z2 he hbig hs
    generalize (parseV (bl s)).2.2 = E at *
    go_enter Tryd.func6, Tryd.ntmps6
    go_wp2_with fail
    refine (HP.out _).mono ?_
    rintro e w1 ⟨rfl, hb1⟩
    have HB1 := Lib.hid hb1
    clear hb1
    go_wp2_with fail
    refine (HS.out _).mono ?_
    rintro e w2 ⟨rfl, hb2⟩
    have HB2 := Lib.hid ((HB1.out.trans ((belowA w1 _).mono HB1.out.size)).trans (hb2.mono (by rw [sizeA]; have := HB1.out.size; omega)))
    clear hb2
    go_wp2_with (go_at_call 7; refine (HW.out _).mono ?_; rintro e w' ⟨rfl, hb⟩)
    go_ret
    exact ⟨rfl, HB2.out.trans (hb.mono HB2.out.size)⟩
end Go.Proofs.YtkolfecjlbnfkaaDoor
