/-
  The law LexPlaces, walked.
-/
import Derived.Test.YtkolfecjlbnfkaaLexI
import Derived.Test.YtkolfecjlbnfkaaLexK
import Derived.Test.YtkolfecjlbnfkaaLexQ
import Derived.Test.YtkolfecjlbnfkaaBelow
namespace Go.Proofs.Ytkolfecjlbnfkaa
open Go.RowKit

def TokB (w : World) (b : Nat) (x : Tk) (f t : Int) : Prop := w.heap[b]? = some (.cells (tokN x f t) 28 (0, 0))
theorem TokB.cells {w : World} {b : Nat} {x : Tk} {f t : Int} (h : TokB w b x f t) :
    w.cell? ⟨b, 0, none⟩ = some (.int .i64 x.kind) ∧ w.cell? ⟨b, 1, none⟩ = some (.int .i64 f) ∧ w.cell? ⟨b, 2, none⟩ = some (.int .i64 t) ∧ w.cell? ⟨b, 3, none⟩ = some (.int .i64 x.vk) ∧ w.cell? ⟨b, 4, none⟩ = some (.int .i64 x.vn) ∧ w.cell? ⟨b, 5, none⟩ = some (.string (mkB x.vs)) ∧ w.cell? ⟨b, 6, none⟩ = some (.slice none 0 0) ∧ w.cell? ⟨b, 7, none⟩ = some (.string (mkB x.s)) := (cells8 h).1
theorem TokB.keep {w w' : World} {b : Nat} {x : Tk} {f t : Int} (h : TokB w b x f t) (hb : Below w.heap.size w w') : TokB w' b x f t := block_keep hb h
def PlEnd (w : World) (e : Ending) (w' : World) : Prop := e = .returned (.bool true) ∧ Below w.heap.size w w'

set_option maxRecDepth 8000 in
set_option maxHeartbeats 4000000 in
theorem law_places_out {a : Option Addr} {cap n : Nat} (k : Int) (last : Bool) (w : World) (hi : (n : Int) ≤ 9223372036854775807) (ho : 400 < n ∨ k < 0 ∨ (n : Int) < k) :
    Calls Try.prog 6 #[.slice a n cap, .int .i64 k, .bool last] w (PlEnd w) := by
  by_cases hbig : 400 < n
  · have hb2 : decide (400 < n) = true := decide_eq_true hbig
    have hb3 : decide ((400 : Int) < n) = true := decide_eq_true (by omega)
    clear ho
    go_enter Try.func6, Try.ntmps6
    go_wp2_with (go_at_call 8; refine (works_any _).mono ?_; rintro e w' ⟨rfl, hb⟩)
    go_ret
    exact ⟨rfl, hb⟩
  · have hb2 : decide (400 < n) = false := decide_eq_false hbig
    have hb3 : decide ((400 : Int) < n) = false := decide_eq_false (by omega)
    by_cases hk : k < 0
    · have hkd : decide (k < 0) = true := decide_eq_true hk
      clear ho hbig
      go_enter Try.func6, Try.ntmps6
      go_wp2_with (go_at_call 8; refine (works_any _).mono ?_; rintro e w' ⟨rfl, hb⟩)
      go_ret
      exact ⟨rfl, hb⟩
    · have hkd : decide (k < 0) = false := decide_eq_false hk
      have hk2 : decide ((n : Int) < k) = true := decide_eq_true (by omega)
      clear ho hbig hk
      go_enter Try.func6, Try.ntmps6
      go_wp2_with (go_at_call 8; refine (works_any _).mono ?_; rintro e w' ⟨rfl, hb⟩)
      go_ret
      exact ⟨rfl, hb⟩

set_option maxRecDepth 8000 in
set_option maxHeartbeats 8000000 in
theorem law_places {a : Option Addr} {cap : Nat} {bs : List UInt8} (k : Int) (last : Bool) (w : World) (hr : Row w 1 a bs.length cap (bs.map u8C)) :
    Calls Try.prog 6 #[.slice a bs.length cap, .int .i64 k, .bool last] w (PlEnd w) := by
  by_cases ho : 400 < bs.length ∨ k < 0 ∨ (bs.length : Int) < k
  · exact law_places_out k last w hr.i64 ho
  have hi := hr.i64
  have hb2 : decide (400 < bs.length) = false := decide_eq_false (by omega)
  have hb3 : decide ((400 : Int) < bs.length) = false := decide_eq_false (by omega)
  have hkd : decide (k < 0) = false := decide_eq_false (by omega)
  have hk2 : decide ((bs.length : Int) < k) = false := decide_eq_false (by omega)
  have HNX := Lib.hid (fun (W : World) (h : Below w.heap.size w W) (k : Int) => next_any (hr.mono h) (by omega) k last)
  obtain ⟨p1, p2, p3⟩ := nextV_places (bs := bs) (k := k) last (by omega) (by omega)
  have HN1 := Lib.hid (HNX.out w (Below.refl _ _) k)
  generalize nextV bs k last = V at *
  obtain ⟨x, f, t, er⟩ := V
  simp only at p1 p2 p3
  unfold NextEnd at HN1
  have HW := Lib.hid (fun W => works_any W)
  clear hr ho
  by_cases her : er = 0
  · subst her
    by_cases hkind : x.kind = 0
    · obtain ⟨rfl, rfl, rfl⟩ := p2 rfl hkind
      have HK := Lib.hid hkind
      clear p1 p2 p3 hkind
      go_enter Try.func6, Try.ntmps6
      go_wp2_with fail
      refine HN1.out.mono ?_
      rintro e w1 ⟨rfl, hb1⟩
      have HB1 := Lib.hid hb1
      clear hb1
      unfold tokN
      rw [HK.out]
      go_wp2_with (go_at_call 8; refine (HW.out _).mono ?_; rintro e w' ⟨rfl, hb⟩)
      go_ret
      exact ⟨rfl, (HB1.out.alloc HB1.out.size _).trans (hb.mono (by rw [sizeA]; have := HB1.out.size; omega))⟩
    · obtain ⟨hV, h1, h2, h3⟩ := p3 rfl hkind
      have HN2 := Lib.hid (fun W h => HNX.out W h f)
      rw [hV] at HN2
      unfold NextEnd at HN2
      have hkf : (x.kind == 0) = false := by rw [beq_eq_false_iff_ne]; exact hkind
      have h1d : decide (k ≤ f) = true := decide_eq_true h1
      have h2d : decide (f < t) = true := decide_eq_true h2
      have h3d : decide (t ≤ bs.length) = true := decide_eq_true h3
      clear p1 p2 p3 hV HNX h1 h2 h3 hkind
      have HOF := Lib.hid (fun W => of_any x f t W)
      have HSM := Lib.hid (fun W => tsame_any x f t W)
      have HAL := Lib.hid (fun (W : World) => (heapA_new (.cells (tokN x f t) 28) rfl : (W.alloc _).heap[W.heap.size]? = some (.cells (tokN x f t) 28 (0, 0))))
      unfold tokN at HOF HSM HN1 HN2 HAL
      generalize x.kind = a0 at *
      generalize x.vk = a1 at *
      generalize x.vn = a2 at *
      generalize mkB x.vs = s1 at *
      generalize mkB x.s = s2 at *
      go_enter Try.func6, Try.ntmps6
      go_wp2_with fail
      refine HN1.out.mono ?_
      rintro e w1 ⟨rfl, hb1⟩
      have HB1 := Lib.hid (hb1.alloc hb1.size (.cells #[.int .i64 a0, .int .i64 f, .int .i64 t, .int .i64 a1, .int .i64 a2, .string s1, .slice none 0 0, .string s2] 28))
      have HT1 := Lib.hid (HAL.out w1)
      have HN2b := Lib.hid (HN2.out _ HB1.out)
      clear hb1 HN1 HN2
      go_wp2_with fail
      refine HN2b.out.mono ?_
      rintro e w2 ⟨rfl, hb2⟩
      have HT2 := Lib.hid (block_keep (hb2.alloc hb2.size (.cells #[.int .i64 a0, .int .i64 f, .int .i64 t, .int .i64 a1, .int .i64 a2, .string s1, .slice none 0 0, .string s2] 28)) HT1.out)
      have HT3 := Lib.hid (HAL.out w2)
      have HB2 := Lib.hid (HB1.out.trans ((hb2.alloc hb2.size (.cells #[.int .i64 a0, .int .i64 f, .int .i64 t, .int .i64 a1, .int .i64 a2, .string s1, .slice none 0 0, .string s2] 28)).mono HB1.out.size))
      clear HN2b HB1 HT1 hb2
      go_wp2_with fail
      generalize w2.alloc _ = W3 at *
      generalize w1.heap.size = r1 at *
      generalize w2.heap.size = r2 at *
      obtain ⟨⟨k0, k1, k2, k3, k4, k5, k6, k7⟩, -⟩ := cells8 HT2.out
      obtain ⟨⟨g0, g1, g2, g3, g4, g5, g6, g7⟩, -⟩ := cells8 HT3.out
      have q0 := BelowW.cell k0
      have q1 := BelowW.cell k1
      have q2 := BelowW.cell k2
      have q3 := BelowW.cell k3
      have q4 := BelowW.cell k4
      have q5 := BelowW.cell k5
      have q6 := BelowW.cell k6
      have q7 := BelowW.cell k7
      have p0 := BelowW.cell g0
      have p1 := BelowW.cell g1
      have p2 := BelowW.cell g2
      have p3 := BelowW.cell g3
      have p4 := BelowW.cell g4
      have p5 := BelowW.cell g5
      have p6 := BelowW.cell g6
      have p7 := BelowW.cell g7
      clear k0 k1 k2 k3 k4 k5 k6 k7 g0 g1 g2 g3 g4 g5 g6 g7
      refine wp_region_below (by kernel_rfl) (by kernel_rfl) ?_
      repeat (quiet_step ((first
        | (go_at_call 12; with_reducible exact Calls.below_of (HOF.out _))
        | (go_at_call 11; with_reducible exact Calls.below_of (HSM.out _))
        | (go_at_call 8; with_reducible exact Calls.below_of (HW.out _)))))
      refine wpQuiet_nil ?_
      rintro _ ⟨⟨w4, hb4⟩, rfl⟩
      go_wp2
      go_ret
      exact ⟨rfl, HB2.out.trans (hb4.mono HB2.out.size)⟩
  · obtain ⟨rfl, rfl, h1, h2⟩ := p1 her
    have e1 : (er == 0) = false := by rw [beq_eq_false_iff_ne]; exact her
    have e2 : (er != 0) = true := by simp only [bne, e1, Bool.not_false]
    have h1d : decide (k ≤ f) = true := decide_eq_true h1
    have h2d : decide (f ≤ bs.length) = true := decide_eq_true h2
    clear p1 p2 p3 her h1 h2
    go_enter Try.func6, Try.ntmps6
    go_wp2_with fail
    refine HN1.out.mono ?_
    rintro e w1 ⟨rfl, hb1⟩
    have HB1 := Lib.hid hb1
    clear hb1
    unfold tokN
    go_wp2_with (go_at_call 8; refine (HW.out _).mono ?_; rintro e w' ⟨rfl, hb⟩)
    go_ret
    exact ⟨rfl, (HB1.out.alloc HB1.out.size _).trans (hb.mono (by rw [sizeA]; have := HB1.out.size; omega))⟩
end Go.Proofs.Ytkolfecjlbnfkaa
