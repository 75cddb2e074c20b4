/-
  The law LexAll, walked.
-/
import Derived.Test.YtkolfecjlbnfkaaLexI
import Derived.Test.YtkolfecjlbnfkaaLexW
import Derived.Test.YtkolfecjlbnfkaaLexX
import Derived.Test.YtkolfecjlbnfkaaBelow
namespace Go.Proofs.Ytkolfecjlbnfkaa
open Go.RowKit

def AlEnd (w : World) (e : Ending) (w' : World) : Prop := e = .returned (.bool true) ∧ Below w.heap.size w w'

set_option maxRecDepth 8000 in
set_option maxHeartbeats 16000000 in
theorem law_all {a : Option Addr} {cap : Nat} {bs : List UInt8} (w : World) (hr : Row w 1 a bs.length cap (bs.map u8C)) :
    Calls Try.prog 7 #[.slice a bs.length cap] w (AlEnd w) := by
  have hi := hr.i64
  have HW := Lib.hid (fun W => works_any W)
  by_cases hbig : 400 < bs.length
  · have hb2 : decide (400 < bs.length) = true := decide_eq_true hbig
    have hb3 : decide ((400 : Int) < bs.length) = true := decide_eq_true (by omega)
    clear hbig hr
    go_enter Try.func7, Try.ntmps7
    go_wp2_with (go_at_call 8; refine (HW.out _).mono ?_; rintro e w' ⟨rfl, hb⟩)
    go_ret
    exact ⟨rfl, hb⟩
  have hb2 : decide (400 < bs.length) = false := decide_eq_false hbig
  have hb3 : decide ((400 : Int) < bs.length) = false := decide_eq_false (by omega)
  have hl4 : bs.length ≤ 400 := by omega
  have HA := Lib.hid (all_tok hr hl4)
  have HN := Lib.hid (fun (W : World) (h : Below w.heap.size w W) (k : Int) => rnext_any (hr.mono h) (by omega) k true)
  unfold AllTEnd at HA
  clear hr hbig
  go_enter Try.func7, Try.ntmps7
  go_wp2_with fail
  refine HA.out.mono ?_
  rintro e w1 ⟨hb1, v, L, A, to, er, rfl, hO, hLl, hch, hA0, hA1, xe, fe, te, hne, hto⟩
  obtain ⟨va, vcap, hv, hrow, -⟩ := Row.of_owns hO
  subst hv
  have HROW := Lib.hid hrow
  have HB1 := Lib.hid hb1
  have HCH := Lib.hid hch
  have HNE := Lib.hid hne
  have HTO := Lib.hid hto
  have hL4 : L.length ≤ 400 := by omega
  clear HA hb1 hO hrow hch hne hto hA0 hA1 hLl
  go_wp2
  go_loopw [6, 7] (fun p k wr => ∃ (m : Nat) (c : Int), m ≤ L.length ∧ k = .int .i64 m ∧ p = .int .i64 c ∧ Hid (ChainT bs c (L.drop m) A) ∧ Hid (Below w.heap.size w wr) ∧ Hid (Below w1.heap.size w1 wr)) (fun _ k _ => L.length - (intOf k).toNat)
  case atStart => exact ⟨0, 0, Nat.zero_le _, by go_num, by go_num, HCH, HB1, Lib.hid (Below.refl _ _)⟩
  case round =>
    obtain ⟨m, c, hm, rfl, rfl, HC, HB, HBB⟩ := hrel
    have hsz := HB.out.size
    have HN1 := Lib.hid (HN.out wr HB.out c)
    by_cases hml : m < L.length
    · have hch := HC.out
      rw [List.drop_eq_getElem_cons hml] at hch
      obtain ⟨hn1, hk1, hch2⟩ := hch
      rw [hn1] at HN1
      obtain ⟨b, off, hva, hbw, hcell⟩ := HROW.out.2.2.2.2 (by omega)
      have hcw : ∀ i u, i < 8 → (tokN (L[m]).1 (L[m]).2.1 (L[m]).2.2)[i]? = some u → w1.cell? ⟨b, off + m * 8 + i, none⟩ = some u := fun i u hi hu => by
        have := hcell (m * 8 + i) u (by rw [tkV_get L m i hml hi]; exact hu)
        rwa [← Nat.add_assoc] at this
      have HCW := Lib.hid hcw
      have HCH2 := Lib.hid hch2
      have hkf : ((L[m]).1.kind == 0) = false := by rw [beq_eq_false_iff_ne]; exact hk1
      have hmn : decide (m < L.length) = true := decide_eq_true hml
      have hmi : (m : Int) < L.length := by omega
      have HML := Lib.hid (show m + 1 ≤ L.length from hml)
      subst hva
      clear hn1 hk1 hch2 hcell hcw
      generalize L[m] = y at *
      obtain ⟨x, f, t⟩ := y
      simp only at HCW HCH2 HN1 hkf
      have HOF := Lib.hid (fun W => of_any x f t W)
      have HSM := Lib.hid (fun W => tsame_any x f t W)
      have HAL := Lib.hid (fun (W : World) (T : TypeId) => (heapA_new (.cells (tokN x f t) T) rfl : (W.alloc _).heap[W.heap.size]? = some (.cells (tokN x f t) T (0, 0))))
      unfold NextEnd at HN1
      simp only [tokN] at HN1 HOF HSM HAL HCW
      generalize x.kind = a0 at *
      generalize x.vk = a1 at *
      generalize x.vn = a2 at *
      generalize mkB x.vs = s1 at *
      generalize mkB x.s = s2 at *
      go_wp2_with fail
      refine HN1.out.mono ?_
      rintro e w2 ⟨rfl, hb2⟩
      have hb3 := hb2.alloc hb2.size (.cells #[.int .i64 a0, .int .i64 f, .int .i64 t, .int .i64 a1, .int .i64 a2, .string s1, .slice none 0 0, .string s2] 32)
      have HB2 := Lib.hid (HB.out.trans (hb3.mono hsz))
      have HBB2 := Lib.hid (HBB.out.trans (hb3.mono HBB.out.size))
      have HT := Lib.hid (HAL.out w2 32)
      have hs2 := hb2.size
      clear hb2 hb3 HN1 HAL
      go_wp2_with fail
      generalize w2.alloc _ = W3 at *
      generalize w2.heap.size = r at *
      have k0 := cell?_keep HBB2.out (HCW.out 0 _ (by omega) rfl)
      have k1 := cell?_keep HBB2.out (HCW.out 1 _ (by omega) rfl)
      have k2 := cell?_keep HBB2.out (HCW.out 2 _ (by omega) rfl)
      have k3 := cell?_keep HBB2.out (HCW.out 3 _ (by omega) rfl)
      have k4 := cell?_keep HBB2.out (HCW.out 4 _ (by omega) rfl)
      have k5 := cell?_keep HBB2.out (HCW.out 5 _ (by omega) rfl)
      have k6 := cell?_keep HBB2.out (HCW.out 6 _ (by omega) rfl)
      have k7 := cell?_keep HBB2.out (HCW.out 7 _ (by omega) rfl)
      obtain ⟨⟨g0, g1, g2, g3, g4, g5, g6, g7⟩, -⟩ := cells8 HT.out
      rw [Nat.add_zero] at k0
      have q0 := BelowW.cell k0
      have q1 := BelowW.cell k1
      have q2 := BelowW.cell k2
      have q3 := BelowW.cell k3
      have q4 := BelowW.cell k4
      have q5 := BelowW.cell k5
      have q6 := BelowW.cell k6
      have q7 := BelowW.cell k7
      have p0 := BelowW.cell g0
      have p1 := BelowW.cell g1
      have p2 := BelowW.cell g2
      have p3 := BelowW.cell g3
      have p4 := BelowW.cell g4
      have p5 := BelowW.cell g5
      have p6 := BelowW.cell g6
      have p7 := BelowW.cell g7
      have HG2 := Lib.hid g2
      clear k0 k1 k2 k3 k4 k5 k6 k7 g0 g1 g2 g3 g4 g5 g6 g7
      refine wp_region_below (by kernel_rfl) (by kernel_rfl) ?_
      repeat (quiet_step ((first
        | (go_at_call 12; with_reducible exact Calls.below_of (HOF.out _))
        | (go_at_call 11; with_reducible exact Calls.below_of (HSM.out _)))))
      refine wpQuiet_nil ?_
      rintro _ ⟨⟨w4, hb4⟩, rfl⟩
      have hg2 := cell?_keep hb4 HG2.out
      have HB4 := Lib.hid (HB2.out.trans (hb4.mono HB2.out.size))
      have HBB4 := Lib.hid (HBB2.out.trans (hb4.mono HBB2.out.size))
      clear hb4 q0 q1 q2 q3 q4 q5 q6 q7 p0 p1 p2 p3 p4 p5 p6 p7
      go_wp2
      go_roundw
      case rel => exact ⟨m + 1, t, HML.out, by go_num, rfl, HCH2, HB4, HBB4⟩
      case measure => simp [intOf]; omega
    · obtain rfl : m = L.length := by omega
      have hch := HC.out
      rw [List.drop_length] at hch
      have hce : c = A := hch
      subst hce
      rw [HNE.out] at HN1
      unfold NextEnd at HN1
      simp only [tokN] at HN1
      have hmn : decide (L.length < L.length) = false := decide_eq_false (by omega)
      rcases HTO.out with ⟨her, hto⟩ | ⟨her, hk, hto⟩
      · have e1 : (er == 0) = false := by rw [beq_eq_false_iff_ne]; exact her
        have e2 : (er != 0) = true := by simp only [bne, e1, Bool.not_false]
        subst hto
        clear her hch hml
        go_wp2_with fail
        refine HN1.out.mono ?_
        rintro e w2 ⟨rfl, hb2⟩
        have HB2 := Lib.hid (HB.out.trans (hb2.mono hsz))
        clear hb2
        go_wp2_with (go_at_call 8; refine (HW.out _).mono ?_; rintro e w' ⟨rfl, hb⟩)
        go_ret
        exact ⟨rfl, (HB2.out.alloc HB2.out.size _).trans (hb.mono (by rw [sizeA]; have := HB2.out.size; omega))⟩
      · subst her
        subst hto
        rw [hk] at HN1
        clear hk hch hml
        go_wp2_with fail
        refine HN1.out.mono ?_
        rintro e w2 ⟨rfl, hb2⟩
        have HB2 := Lib.hid (HB.out.trans (hb2.mono hsz))
        clear hb2
        go_wp2_with (go_at_call 8; refine (HW.out _).mono ?_; rintro e w' ⟨rfl, hb⟩)
        go_ret
        exact ⟨rfl, (HB2.out.alloc HB2.out.size _).trans (hb.mono (by rw [sizeA]; have := HB2.out.size; omega))⟩
end Go.Proofs.Ytkolfecjlbnfkaa
