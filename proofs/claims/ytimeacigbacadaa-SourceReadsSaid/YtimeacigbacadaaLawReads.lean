/-
  The walk of the law SourceReads.
-/
import Derived.Test.YtimeacigbacadaaStP
import Derived.Test.YtimeacigbacadaaBelow
namespace Go.Proofs.Ytimeacigbacadaa
open Go.RowKit Go.Maps Go.Sort

theorem cellsX {w : World} {b : Nat} {x0 x1 x2 x3 : Value} {t : TypeId} (h : w.heap[b]? = some (.cells #[x0, x1, x2, x3] t (0, 0))) :
    w.cell? ⟨b, 0, none⟩ = some x0 ∧ w.cell? ⟨b, 1, none⟩ = some x1 ∧ w.cell? ⟨b, 2, none⟩ = some x2 ∧ w.cell? ⟨b, 3, none⟩ = some x3 := by
  refine ⟨?_, ?_, ?_, ?_⟩ <;> (rw [cell_of_row w b _ _ _ _ h]; rfl)
theorem EPc : ElemT Try.prog 38 45 (.agg #[.int .i64 0, .slice none 0 0]) 2 32 := ⟨Try.underlying38, by kernel_rfl, rfl, by omega⟩
theorem rput_zero {t x n : Int} (h : rput t x n = 0) : 0 ≤ x := by
  unfold rput at h
  split at h
  · cases h
  · omega
theorem heldS {w5 W W' : World} {b o : Nat} {v : Value} (h : W.cell? ⟨b, o, none⟩ = some v ∧ Below w5.heap.size w5 W) (hb : Below W.heap.size W W') : W'.cell? ⟨b, o, none⟩ = some v ∧ Below w5.heap.size w5 W' := ⟨cell?_keep hb h.1, h.2.trans (hb.mono h.2.size)⟩
theorem same_self (a b : Option Addr) (n c d : Nat) (A : List (Int × Int)) (w : World) (hA : SRow w a n c A) (hB : SRow w b n d A) :
    Calls Try.prog 24 #[.slice a n c, .slice b n d] w fun e w' => e = .returned (.bool true) ∧ Below w.heap.size w w' := (same_any a b n n c d A A w hA hB).mono fun e w' ⟨he, q, hq⟩ => ⟨by rw [he, decide_eq_true rfl], by subst hq; exact belowN (Below.refl _ _) q⟩
theorem SrcU.total {w0 w : World} {U : Nat → Prop} {p tot k : Nat} {vp : Value} {PV PS : List Pc} (h : SrcU w0 w U p tot k vp PV PS) : Calls Try.prog 28 #[.pointer (some ⟨p, 0, none⟩)] w fun e w' => e = .returned (.int .i64 tot) ∧ w = w' := by
  obtain ⟨N, T, C, hq, -⟩ := h.src
  exact total_any hq

def LawEndR (w : World) (e : Ending) (w' : World) : Prop := e = .returned (.bool true) ∧ Below w.heap.size w w'

set_option maxHeartbeats 2000000 in
theorem reads_bad (t : Int) (v : Value) (w : World) (h : t < 0 ∨ 2147483647 < t) : Calls Try.prog 4 #[.int .i64 t, v] w (LawEndR w) := by
  have HN := Lib.hid (new_bad t w h)
  have HR := Lib.hid (fun W => rnew_bad t W h)
  have HW := Lib.hid (fun W => works_any W)
  clear h
  go_enter Try.func4, Try.ntmps4
  go_wp2_with fail
  refine HN.out.mono ?_
  rintro e w1 ⟨rfl, rfl⟩
  go_wp2_with fail
  refine (HR.out _).mono ?_
  rintro e w2 ⟨rfl, rfl⟩
  go_wp2_with fail
  refine (HW.out _).mono ?_
  rintro e w3 ⟨rfl, hb⟩
  go_wp2
  go_ret
  exact ⟨rfl, hb⟩

set_option maxHeartbeats 2000000 in
theorem reads_big (t : Nat) (a : Option Addr) (n cap : Nat) (w : World) (h : t ≤ 2147483647) (hb : 200 < t ∨ 30 < n) : Calls Try.prog 4 #[.int .i64 t, .slice a n cap] w (LawEndR w) := by
  have HN := Lib.hid (new_any t w h)
  have HR := Lib.hid (fun W => rnew_ok t W h)
  have HW := Lib.hid (fun W => works_any W)
  have hq : ∃ q, q = decide (200 < t) := ⟨_, rfl⟩
  obtain ⟨q, hq⟩ := hq
  have hqi : decide ((200 : Int) < t) = q := by rw [hq]; exact decide_eq_decide.2 (by omega)
  have hqn := hq.symm
  have h30 : q = false → decide ((30 : Int) < n) = true := fun e => decide_eq_true (by rw [e] at hqn; have := of_decide_eq_false hqn; omega)
  clear hq h hb
  cases q
  all_goals
    have hd := h30
    simp only [reduceCtorEq, false_implies, forall_const] at hd
    clear h30
    go_enter Try.func4, Try.ntmps4
    go_wp2_with fail
    refine HN.out.mono ?_
    rintro e w1 ⟨p, U, rfl, hQ, hB, hU, hp⟩
    have HB := Lib.hid hB
    clear hQ hB hU hp
    go_wp2_with fail
    refine (HR.out _).mono ?_
    rintro e w2 ⟨rfl, rfl⟩
    go_wp2_with fail
    refine (HW.out _).mono ?_
    rintro e w3 ⟨rfl, hb⟩
    have HE := Lib.hid (HB.out.trans (hb.mono HB.out.size))
    clear hb
    go_wp2
    go_ret
    exact ⟨rfl, HE.out⟩

set_option maxRecDepth 8000 in
set_option maxHeartbeats 8000000 in
theorem reads_in (t n cap : Nat) (a : Option Addr) (l : List St) (w : World) (ht : t ≤ 200) (hn : n ≤ 30) (hr : TRow w a n cap l) :
    Calls Try.prog 4 #[.int .i64 t, .slice a n cap] w (LawEndR w) := by
  have HN := Lib.hid (new_any t w (by omega))
  have HR := Lib.hid (fun W => rnew_ok t W (by omega))
  have HW := Lib.hid (fun W => works_any W)
  have HRP := Lib.hid (fun (x m : Int) W => rput_any t x m W (by omega))
  have HT := Lib.hid hr
  have hd1 : decide ((200 : Int) < t) = false := decide_eq_false (by omega)
  have hd1' : decide (200 < t) = false := decide_eq_false (by omega)
  have hd2 : decide ((30 : Int) < n) = false := decide_eq_false (by omega)
  have hd2' : decide (30 < n) = false := decide_eq_false (by omega)
  clear hr
  go_enter Try.func4, Try.ntmps4
  go_wp2_with fail
  refine HN.out.mono ?_
  rintro e w1 ⟨p, U, rfl, hQ, hB, hU, hp⟩
  have HS := Lib.hid (show SrcU w w1 U p t 0 (.slice none 0 0) [] [] from ⟨⟨0, [], _, hQ, fun i => by simp [cov_nil, byteP], fun i c h => (by cases h), Nat.le_refl _, Nat.le_refl _⟩, hU, fun b hb => (by cases hb), hB, World.ownsRow_nil _ _ _ _, Nat.le_refl _, fun q hq => (by cases hq)⟩)
  clear hQ hB hU hp
  go_wp2_with fail
  refine (HR.out _).mono ?_
  rintro e w2 ⟨rfl, rfl⟩
  go_wp2
  go_loopw [7, 8] (fun vp vk wr => ∃ (k : Nat) (a1 : Option Addr) (c1 : Nat) (P : List Pc) (U : Nat → Prop), vk = .int .i64 k ∧ vp = .slice a1 P.length c1 ∧ k ≤ n ∧ Hid (SrcU w wr U p t k (.slice a1 P.length c1) P P)) (fun _ vk _ => n - (intOf vk).toNat)
  case atStart => exact ⟨0, none, 0, [], U, rfl, rfl, Nat.zero_le _, HS⟩
  case round =>
    obtain ⟨k, a1, c1, P, U, rfl, rfl, hk, HS⟩ := hrel
    by_cases hlt : k < n
    · obtain ⟨b, off, rfl, hbw, g0, g1, g2, g3, hrow, b0, b2, b3⟩ := HT.out.at k hlt
      generalize l.getD k default = s at *
      obtain ⟨x, sa, scap, bs, fr, most⟩ := s
      simp only at g0 g1 g2 g3 hrow b0 b2 b3
      have c0 := cell?_keep HS.out.below g0
      have c1' := cell?_keep HS.out.below g1
      have c2 := cell?_keep HS.out.below g2
      have c3 := cell?_keep HS.out.below g3
      have HRW := Lib.hid hrow
      have hmx := hrow.i64
      clear g0 g1 g2 g3 hrow
      by_cases h100 : 100 < bs.length
      · have hd3 : decide ((100 : Int) < bs.length) = true := decide_eq_true (by omega)
        go_wp2_with fail
        refine (HW.out _).mono ?_
        rintro e w3 ⟨rfl, hb⟩
        have hb1 := HS.out.below.alloc HS.out.below.size (.cells #[.int .i64 x, .slice sa bs.length scap, .int .i64 fr, .int .i64 most] 41)
        have HE := Lib.hid (hb1.trans (hb.mono hb1.size))
        clear hb hb1
        go_wp2
        go_ret
        exact ⟨rfl, HE.out⟩
      · have hd3 : decide ((100 : Int) < bs.length) = false := decide_eq_false (by omega)
        have hd3' : decide (100 < bs.length) = false := decide_eq_false (by omega)
        have HH1 := Lib.hid (show (wr.alloc (.cells #[.int .i64 x, .slice sa bs.length scap, .int .i64 fr, .int .i64 most] 41)).heap[wr.heap.size]? = some (.cells #[.int .i64 x, .slice sa bs.length scap, .int .i64 fr, .int .i64 most] 41 (0, 0)) from heapA_new _ rfl)
        have HS1 := Lib.hid (HS.out.mono (belowA wr (.cells #[.int .i64 x, .slice sa bs.length scap, .int .i64 fr, .int .i64 most] 41)))
        have HUX := Lib.hid (show ¬ U wr.heap.size from fun e => by
          obtain ⟨N, T, C, hq, -⟩ := HS.out.src
          exact Nat.lt_irrefl _ (hq.lt _ e))
        have HOX := Lib.hid (show (Value.slice a1 P.length c1).ownBlock ≠ some wr.heap.size from fun e => Nat.lt_irrefl _ (HS.out.own.lt _ e).2)
        have HPL := Lib.hid HS.out.len
        go_wp2_with fail
        clear c0 c1' c2 c3
        generalize wr.alloc (.cells #[.int .i64 x, .slice sa bs.length scap, .int .i64 fr, .int .i64 most] 41) = W1 at *
        generalize wr.heap.size = xb at *
        refine (HRP.out _ _ _).mono ?_
        rintro e w3 ⟨rfl, rfl⟩
        obtain ⟨f, hf⟩ : ∃ f, f = rput t x bs.length := ⟨_, rfl⟩
        have hput := sput_all HS1.out (by omega) x HRW.out (by omega)
        rw [← hf] at hput ⊢
        have HPUT := Lib.hid hput
        obtain ⟨k0, k1, k2, k3⟩ := cellsX HH1.out
        clear hput
        have hx0 : f = 0 → 0 ≤ x := fun e => rput_zero (hf.symm.trans e)
        clear hf
        go_wp2_with fail
        refine HPUT.out.mono ?_
        rintro e w4 ⟨rfl, U', hS4, hk4, hU4⟩
        have hH4 := hk4.obj HH1.out HUX.out
        have hlt1 := (Array.getElem?_eq_some_iff.1 HH1.out).1
        have HUX4 := Lib.hid (show ¬ U' xb from fun e => (hU4 _ e).elim HUX.out (fun h => by omega))
        have HH4 := Lib.hid hH4
        clear hk4 hU4 hH4 hlt1 HPUT HS1 HH1 HUX k0 k1 k2 k3
        by_cases f0 : f = 0
        case' pos =>
          subst f0
          rw [if_pos rfl] at hS4
          have HS4 := Lib.hid hS4
          obtain ⟨xn, rfl⟩ := Int.eq_ofNat_of_zero_le (hx0 rfl)
          rw [Int.toNat_natCast] at HS4
          obtain ⟨k0, k1, k2, k3⟩ := cellsX HH4.out
          have hpl := HPL.out
          clear hS4 hx0
          go_wp2_with (at_builtin; refine append_at EPc rfl (.tmp 68) (.tmp 74) rfl w.heap.size _ P.length _ rfl (HS4.out.own.alloc _) _ 1 _ _ rfl (row_new2 _ _ _ _) (pcV_one_cell [⟨xn, sa, scap, bs⟩]) (by unfold maxLen; omega) (by omega) (by rw [sizeA]; have := HS4.out.below.size; omega) ?_; intro v' w5 hO5 hg5 hN5; have HS5 := Lib.hid (HS4.out.app hpl hO5 hg5 hN5); have HX5 := Lib.hid ((((Keeps.refl _ w4).alloc _).grown hg5 (fun k hk => .inl hk)).obj HH4.out HOX.out); generalize P ++ [(⟨xn, sa, scap, bs⟩ : Pc)] = P5 at HS5; obtain ⟨a5, c5, hv5, -, -⟩ := Row.of_owns HS5.out.own; subst hv5; obtain ⟨q0, q1, q2, q3⟩ := cellsX HX5.out; clear hO5 hg5 hN5 k0 k1 k2 k3)
        case' neg =>
          rw [if_neg f0] at hS4
          have HS5 := Lib.hid hS4
          have HX5 := HH4
          obtain ⟨k0, k1, k2, k3⟩ := cellsX HH4.out
          clear hS4 hx0 HH4
          generalize w4 = w5 at *
          go_wp2_with fail
        all_goals
          obtain ⟨o, q, hRD, hRR⟩ := both_read HS5.out (by omega) ht fr most b3.2
          obtain ⟨m, hF, hRF⟩ := both_first HS5.out (by omega) ht fr
          obtain ⟨T, hTl, hKN, hSP⟩ := both_known HS5.out (by omega)
          have HMK := Lib.hid (fun W (h : Below w5.heap.size w5 W) => rmarks_any _ _ _ _ t W (HS5.out.mono h).row ((HS5.out.mono h).ats ht) (by omega))
          have HRD := Lib.hid hRD
          have HRR := Lib.hid hRR
          have HF := Lib.hid hF
          have HRF := Lib.hid hRF
          have HKN := Lib.hid hKN
          have HSP := Lib.hid hSP
          clear hRD hRR hF hRF hKN hSP
          refine HRD.out.mono ?_
          rintro e w6 ⟨v6, rfl, hO6, hb6⟩
          obtain ⟨a6, c6, rfl, -, -⟩ := Row.of_owns hO6
          obtain ⟨r0, r1, r2, r3⟩ := cellsX (block_keep hb6 HX5.out)
          have HO6 := Lib.hid hO6
          have HB6 := Lib.hid hb6
          have HC2 := Lib.hid r2
          clear hO6 hb6
          go_wp2_with fail
          refine (HRR.out _ HB6.out).mono ?_
          rintro e w7 ⟨rfl, hb⟩
          clear r0 r1 r2 r3
          have hB7 := HB6.out.trans (hb.mono HB6.out.size)
          have hx7 := cell?_keep hb HC2.out
          have hO7 := ownsRow_keep HO6.out hb
          have hcx : ∀ W, Below w7.heap.size w7 W → (convert 39 9 (.slice a6 o.length c6)).run Try.prog W = .ok (.string (mkB o)) W := fun W h => conv_own (ownsRow_keep hO7 h)
          have e0 : w7.drew.cell? ⟨xb, 2, none⟩ = some (.int .i64 fr) := cell?_keep ((Below.refl _ _).drew) hx7
          have e1 : Below w7.heap.size w7 w7.drew := (Below.refl _ _).drew
          have HF := Lib.hid (fun W (h : Below w7.heap.size w7 W) => HF.out W (hB7.trans (h.mono hB7.size)))
          have HRF := Lib.hid (fun W (h : Below w7.heap.size w7 W) => HRF.out W (hB7.trans (h.mono hB7.size)))
          have HKN := Lib.hid (fun W (h : Below w7.heap.size w7 W) => HKN.out W (hB7.trans (h.mono hB7.size)))
          have HMK := Lib.hid (fun W (h : Below w7.heap.size w7 W) => HMK.out W (hB7.trans (h.mono hB7.size)))
          have HS7 := Lib.hid (fun W (h : Below w7.heap.size w7 W) => HS5.out.mono (hB7.trans (h.mono hB7.size)))
          generalize mkB o = s at *
          clear hb hx7 hO7 HB6 HC2 HO6 hB7
          go_wp2_with fail
          go_region_held3 (fun w' => w'.cell? ⟨xb, 2, none⟩ = some (.int .i64 fr) ∧ Below w7.heap.size w7 w') (first | assumption | exact ⟨e0, e1⟩ | exact heldS (by assumption) hbQ | exact heldS (by assumption) hbS | exact heldS (by assumption) hbM | exact heldS (by assumption) hbK | exact heldS (by assumption) hbG | exact heldS (by assumption) hbF)
            (first
              | (go_at_call 22; refine (HF.out _ (And.right (by assumption))).mono ?_; rintro e wF ⟨rfl, hbF⟩)
              | (go_at_call 23; refine (HRF.out _ (And.right (by assumption))).mono ?_; rintro e wG ⟨rfl, hbG⟩)
              | (go_at_call 25; refine (HKN.out _ (And.right (by assumption))).mono ?_; rintro e wK ⟨vK, rfl, hOK, hbK⟩; obtain ⟨aK, cK, rfl, hrK, -⟩ := Row.of_owns hOK; clear hOK)
              | (go_at_call 27; refine (HMK.out _ (And.right (by assumption))).mono ?_; rintro e wM ⟨vM, rfl, hOM, hbM⟩; obtain ⟨aM, cM, rfl, hrM, -⟩ := Row.of_owns hOM; clear hOM)
              | (go_at_call 26; refine (rspans_any aM _ cM _ _ (by first | exact hrM | exact hrM.mono hbK) (by omega)).mono ?_; rintro e wS ⟨L, vS, hL, rfl, hOS, hbS⟩; obtain ⟨aS, cS, rfl, hrS, -⟩ := Row.of_owns hOS; obtain rfl := HSP.out L hL; clear hOS)
              | (go_at_call 24; refine (same_self _ _ _ _ _ _ _ (by first | exact hrK | exact hrK.mono hbS | exact (hrK.mono hbM).mono hbS) (by first | exact hrS | exact hrS.mono hbK)).mono ?_; rintro e wQ ⟨rfl, hbQ⟩))
          go_wp2
          go_roundw
          case rel => exact ⟨k + 1, _, _, _, U', by go_num, rfl, by omega, Lib.hid (HS7.out _ (And.right (by assumption)))⟩
          case measure => simp [intOf]; omega
    · obtain rfl : k = n := by omega
      have HTO := Lib.hid HS.out.total
      go_wp2_with fail
      refine HTO.out.mono ?_
      rintro e w3 ⟨rfl, rfl⟩
      go_wp2_with fail
      refine (HW.out _).mono ?_
      rintro e w4 ⟨rfl, hb⟩
      have HE := Lib.hid (HS.out.below.trans (hb.mono HS.out.below.size))
      clear hb
      go_wp2
      go_ret
      exact ⟨rfl, HE.out⟩

theorem law_reads (t : Int) (n cap : Nat) (a : Option Addr) (l : List St) (w : World) (hr : TRow w a n cap l) :
    Calls Try.prog 4 #[.int .i64 t, .slice a n cap] w (LawEndR w) := by
  by_cases hb : t < 0 ∨ 2147483647 < t
  · exact reads_bad t _ w hb
  · obtain ⟨t, rfl⟩ := Int.eq_ofNat_of_zero_le (show 0 ≤ t by omega)
    by_cases h2 : 200 < t ∨ 30 < n
    · exact reads_big t a n cap w (by omega) h2
    · exact reads_in t n cap a l w (by omega) (by omega) hr
end Go.Proofs.Ytimeacigbacadaa
