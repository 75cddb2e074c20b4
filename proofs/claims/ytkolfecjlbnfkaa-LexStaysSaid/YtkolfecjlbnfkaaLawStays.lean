/-
  The law LexStays, walked.
-/
import Derived.Test.YtkolfecjlbnfkaaLawPlaces
namespace Go.Proofs.Ytkolfecjlbnfkaa
open Go.RowKit

theorem Row.take1 {α : Type} {enc : α → Value} {w : World} {a : Option Addr} {n cap : Nat} {l : List α} (h : Row w 1 a n cap (l.map enc)) (q : Nat) (hq : q ≤ n) : Row w 1 a (l.take q).length cap ((l.take q).map enc) := by
  have hl := h.len1
  obtain ⟨h1, h2, h3, h4, h5⟩ := h
  have e : (l.take q).length = q := by rw [List.length_take]; omega
  rw [e]
  refine ⟨by simp; omega, by omega, h3, h4, fun h0 => ?_⟩
  obtain ⟨b, off, ha, hb, hc⟩ := h5 (by omega)
  refine ⟨b, off, ha, hb, fun j u hj => hc j u ?_⟩
  rw [List.getElem?_map] at hj ⊢
  obtain ⟨x, hx, hxu⟩ := Option.map_eq_some_iff.1 hj
  rw [List.getElem?_take] at hx
  split at hx
  · rw [hx]; exact congrArg some hxu
  · cases hx

set_option maxRecDepth 8000 in
set_option maxHeartbeats 8000000 in
theorem law_stays {a : Option Addr} {cap : Nat} {bs : List UInt8} (k : Int) (M : Nat) (last : Bool) (w : World) (hr : Row w 1 a bs.length cap (bs.map u8C)) (hM : M ≤ 65535) :
    Calls Try.prog 5 #[.agg #[.slice a bs.length cap, .int .i64 k, .int .u16 M], .bool last] w (PlEnd w) := by
  have hi := hr.i64
  have HW := Lib.hid (fun W => works_any W)
  have HB0 := Lib.hid (belowA w (.cells #[.slice a bs.length cap, .int .i64 k, .int .u16 M] 43))
  by_cases hbig : 400 < bs.length
  · have hb2 : decide (400 < bs.length) = true := decide_eq_true hbig
    have hb3 : decide ((400 : Int) < bs.length) = true := decide_eq_true (by omega)
    clear hr hbig
    go_enter Try.func5, Try.ntmps5
    go_wp2
    go_quiet (fail)
    have HB1 := Lib.hid (below_drewN HB0.out nq)
    generalize (w.alloc _).drewN nq = W1 at *
    go_wp2_with (go_at_call 8; refine (HW.out _).mono ?_; rintro e w' ⟨rfl, hb⟩)
    go_ret
    exact ⟨rfl, HB1.out.trans (hb.mono HB1.out.size)⟩
  obtain ⟨q, hq⟩ : ∃ q, q = M % (bs.length + 1) := ⟨_, rfl⟩
  have hql : q ≤ bs.length := by
    have := Nat.mod_lt M (show bs.length + 1 > 0 by omega)
    omega
  have hqe : (M : Int) % ((bs.length : Int) + 1) = (q : Int) := by rw [hq]; push_cast; rfl
  have hb2 : decide (400 < bs.length) = false := decide_eq_false hbig
  have hb3 : decide ((400 : Int) < bs.length) = false := decide_eq_false (by omega)
  have hl4 : bs.length ≤ 400 := by omega
  have hM0 : (0 : Int) ≤ (M : Int) := by omega
  have hM1 : (M : Int) ≤ 65535 := by omega
  clear hbig hq
  by_cases ho : k < 0 ∨ (q : Int) < k
  · clear hr
    by_cases hk : k < 0
    · have hkd : decide (k < 0) = true := decide_eq_true hk
      clear ho
      go_enter Try.func5, Try.ntmps5
      go_wp2
      go_quiet (fail)
      have HB1 := Lib.hid (below_drewN HB0.out nq)
      generalize (w.alloc _).drewN nq = W1 at *
      go_wp2_with (go_at_call 8; refine (HW.out _).mono ?_; rintro e w' ⟨rfl, hb⟩)
      go_ret
      exact ⟨rfl, HB1.out.trans (hb.mono HB1.out.size)⟩
    · have hkd : decide (k < 0) = false := decide_eq_false hk
      have hkq : decide ((q : Int) < k) = true := decide_eq_true (by omega)
      clear ho hk
      go_enter Try.func5, Try.ntmps5
      go_wp2
      go_quiet (fail)
      have HB1 := Lib.hid (below_drewN HB0.out nq)
      generalize (w.alloc _).drewN nq = W1 at *
      go_wp2_with (go_at_call 8; refine (HW.out _).mono ?_; rintro e w' ⟨rfl, hb⟩)
      go_ret
      exact ⟨rfl, HB1.out.trans (hb.mono HB1.out.size)⟩
  have hkd : decide (k < 0) = false := decide_eq_false (by omega)
  have hkq : decide ((q : Int) < k) = false := decide_eq_false (by omega)
  have hst := nextV_stays (bs := bs) (n := q) (k := k) last (by omega) (by omega) hql
  have hqc : q ≤ cap := by have := hr.2.1; omega
  have hcc := hr.i64c
  have HT := Lib.hid (hr.take1 q hql)
  have hlq : (bs.take q).length = q := by rw [List.length_take]; omega
  have HN1 := Lib.hid (fun (W : World) (h : Below w.heap.size w W) => next_any (HT.out.mono h) (by omega) k false)
  have HN2 := Lib.hid (fun (W : World) (h : Below w.heap.size w W) => next_any (hr.mono h) (by omega) k last)
  have HN3 := Lib.hid (fun (W : World) (h : Below w.heap.size w W) => next_any (HT.out.mono h) (by omega) k true)
  rw [hlq] at HN1 HN3
  generalize nextV (bs.take q) k false = V at *
  have HF := Lib.hid (fun (W : World) => (heapA_new (.cells (tokN V.1 V.2.1 V.2.2.1) 28) rfl : (W.alloc _).heap[W.heap.size]? = some (.cells (tokN V.1 V.2.1 V.2.2.1) 28 (0, 0))))
  obtain ⟨x, f, t, er⟩ := V
  simp only at hst
  have HOF := Lib.hid (fun W => of_any x f t W)
  have HSM := Lib.hid (fun W => tsame_any x f t W)
  have hnil : a = none → cap = 0 := hr.2.2.2.1
  clear hr HT hlq ho
  by_cases h6 : er = 6
  · subst h6
    unfold NextEnd at HN1
    simp only [tokN] at HN1
    clear hst HN2 HN3 HF HOF HSM
    go_enter Try.func5, Try.ntmps5
    go_wp2
    go_quiet (fail)
    have HB1 := Lib.hid (below_drewN HB0.out nq)
    generalize (w.alloc _).drewN nq = W1 at *
    go_wp2_with fail
    refine (HN1.out _ HB1.out).mono ?_
    rintro e w1 ⟨rfl, hb1⟩
    have HB2 := Lib.hid (HB1.out.trans (hb1.mono HB1.out.size))
    clear hb1
    go_wp2_with (go_at_call 8; refine (HW.out _).mono ?_; rintro e w' ⟨rfl, hb⟩)
    go_ret
    exact ⟨rfl, (HB2.out.alloc HB2.out.size _).trans (hb.mono (by rw [sizeA]; have := HB2.out.size; omega))⟩
  · obtain ⟨g1, g2⟩ := hst h6
    rw [g1] at HN2
    rw [g2] at HN3
    unfold NextEnd at HN1 HN2 HN3
    simp only [tokN] at HN1 HN2 HN3 HF HOF HSM
    have e6 : (er == 6) = false := by rw [beq_eq_false_iff_ne]; exact h6
    clear g1 g2 h6 hst
    generalize x.kind = a0 at *
    generalize x.vk = a1 at *
    generalize x.vn = a2 at *
    generalize mkB x.vs = s1 at *
    generalize mkB x.s = s2 at *
    go_enter Try.func5, Try.ntmps5
    go_wp2
    go_quiet (fail)
    have HB1 := Lib.hid (below_drewN HB0.out nq)
    generalize (w.alloc _).drewN nq = W1 at *
    go_wp2_with fail
    refine (HN1.out _ HB1.out).mono ?_
    rintro e w1 ⟨rfl, hb1⟩
    have hb1' := HB1.out.trans (hb1.mono HB1.out.size)
    have HB2 := Lib.hid (hb1'.alloc hb1'.size (.cells #[.int .i64 a0, .int .i64 f, .int .i64 t, .int .i64 a1, .int .i64 a2, .string s1, .slice none 0 0, .string s2] 28))
    have HT1 := Lib.hid (HF.out w1)
    clear hb1 hb1' HN1
    have HN2b := Lib.hid (HN2.out _ HB2.out)
    go_wp2_with fail
    refine HN2b.out.mono ?_
    rintro e w2 ⟨rfl, hb2⟩
    have HT1b := Lib.hid (block_keep (hb2.alloc hb2.size (.cells #[.int .i64 a0, .int .i64 f, .int .i64 t, .int .i64 a1, .int .i64 a2, .string s1, .slice none 0 0, .string s2] 28)) HT1.out)
    have HT2 := Lib.hid (HF.out w2)
    have HB3 := Lib.hid (HB2.out.trans ((hb2.alloc hb2.size (.cells #[.int .i64 a0, .int .i64 f, .int .i64 t, .int .i64 a1, .int .i64 a2, .string s1, .slice none 0 0, .string s2] 28)).mono HB2.out.size))
    clear hb2 HN2 HN2b HT1 HB2
    have HN3b := Lib.hid (HN3.out _ HB3.out)
    go_wp2_with fail
    refine HN3b.out.mono ?_
    rintro e w3 ⟨rfl, hb3⟩
    have HT1c := Lib.hid (block_keep (hb3.alloc hb3.size (.cells #[.int .i64 a0, .int .i64 f, .int .i64 t, .int .i64 a1, .int .i64 a2, .string s1, .slice none 0 0, .string s2] 28)) HT1b.out)
    have HT2c := Lib.hid (block_keep (hb3.alloc hb3.size (.cells #[.int .i64 a0, .int .i64 f, .int .i64 t, .int .i64 a1, .int .i64 a2, .string s1, .slice none 0 0, .string s2] 28)) HT2.out)
    have HT3 := Lib.hid (HF.out w3)
    have HB4 := Lib.hid (HB3.out.trans ((hb3.alloc hb3.size (.cells #[.int .i64 a0, .int .i64 f, .int .i64 t, .int .i64 a1, .int .i64 a2, .string s1, .slice none 0 0, .string s2] 28)).mono HB3.out.size))
    clear hb3 HN3 HN3b HT1b HT2 HB3
    go_wp2_with fail
    generalize w3.alloc _ = W4 at *
    generalize w1.heap.size = r1 at *
    generalize w2.heap.size = r2 at *
    generalize w3.heap.size = r3 at *
    obtain ⟨⟨k0, k1, k2, k3, k4, k5, k6, k7⟩, -⟩ := cells8 HT1c.out
    obtain ⟨⟨g0, g1, g2, g3, g4, g5, g6, g7⟩, -⟩ := cells8 HT2c.out
    obtain ⟨⟨m0, m1, m2, m3, m4, m5, m6, m7⟩, -⟩ := cells8 HT3.out
    have q0 := BelowW.cell k0
    have q1 := BelowW.cell k1
    have q2 := BelowW.cell k2
    have q3 := BelowW.cell k3
    have q4 := BelowW.cell k4
    have q5 := BelowW.cell k5
    have q6 := BelowW.cell k6
    have q7 := BelowW.cell k7
    have p0 := BelowW.cell g0
    have p1 := BelowW.cell g1
    have p2 := BelowW.cell g2
    have p3 := BelowW.cell g3
    have p4 := BelowW.cell g4
    have p5 := BelowW.cell g5
    have p6 := BelowW.cell g6
    have p7 := BelowW.cell g7
    have n0 := BelowW.cell m0
    have n1 := BelowW.cell m1
    have n2 := BelowW.cell m2
    have n3 := BelowW.cell m3
    have n4 := BelowW.cell m4
    have n5 := BelowW.cell m5
    have n6 := BelowW.cell m6
    have n7 := BelowW.cell m7
    clear k0 k1 k2 k3 k4 k5 k6 k7 g0 g1 g2 g3 g4 g5 g6 g7 m0 m1 m2 m3 m4 m5 m6 m7
    refine wp_region_below (by kernel_rfl) (by kernel_rfl) ?_
    repeat (quiet_step ((first
      | (go_at_call 12; with_reducible exact Calls.below_of (HOF.out _))
      | (go_at_call 11; with_reducible exact Calls.below_of (HSM.out _))
      | (go_at_call 8; with_reducible exact Calls.below_of (HW.out _)))))
    refine wpQuiet_nil ?_
    rintro _ ⟨⟨w4, hb4⟩, rfl⟩
    go_wp2
    go_ret
    exact ⟨rfl, HB4.out.trans (hb4.mono HB4.out.size)⟩
end Go.Proofs.Ytkolfecjlbnfkaa
