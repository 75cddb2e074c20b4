/-
  The walk of the law SourceOrder.
-/
import Derived.Test.YtimeacigbacadaaOrdS
import Derived.Test.YtimeacigbacadaaBelow
import Derived.Deep.LoopGhost
import Derived.Deep.Cut
import Derived.Deep.CutRange
import Derived.Deep.RegionHeld3
namespace Go.Proofs.Ytimeacigbacadaa
open Go.RowKit Go.Maps Go.Sort

def LawEndO (w : World) (e : Ending) (w' : World) : Prop := e = .returned (.bool true) ∧ Below w.heap.size w w'

set_option maxRecDepth 8000 in
set_option maxHeartbeats 2000000 in
theorem order_big (at_ : Int) (a a1 : Option Addr) (n cap n1 cap1 : Nat) (w : World) (hb : 300 < n ∨ 30 < n1) : Calls Try.prog 6 #[.slice a n cap, .slice a1 n1 cap1, .int .u16 at_] w (LawEndO w) := by
  have HW := Lib.hid (fun W => works_any W)
  have hq : ∃ q, q = decide (300 < n) := ⟨_, rfl⟩
  obtain ⟨q, hq⟩ := hq
  have hqi : decide ((300 : Int) < n) = q := by rw [hq]; exact decide_eq_decide.2 (by omega)
  have hqn := hq.symm
  have h30 : q = false → decide ((30 : Int) < n1) = true := fun e => decide_eq_true (by rw [e] at hqn; have := of_decide_eq_false hqn; omega)
  clear hq hb
  cases q
  all_goals
    have hd := h30
    simp only [reduceCtorEq, false_implies, forall_const] at hd
    clear h30
    go_enter Try.func6, Try.ntmps6
    go_wp2_with fail
    refine (HW.out _).mono ?_
    rintro e w3 ⟨rfl, hb⟩
    go_wp2
    go_ret
    exact ⟨rfl, hb⟩

theorem SRow.two {w : World} {a : Option Addr} {n cap : Nat} {l : List (Int × Int)} (h : SRow w a n cap l) (k : Nat) (hk : k < n) :
    ∃ b off, a = some ⟨b, off, none⟩ ∧ w.cell? ⟨b, off + k * 2, none⟩ = some (.int .i64 (l.getD k (0, 0)).1) ∧ w.cell? ⟨b, off + k * 2 + 1, none⟩ = some (.int .i64 (l.getD k (0, 0)).2) ∧
      w.cell? ⟨b, off + (n - 1 - k) * 2, none⟩ = some (.int .i64 (l.getD (n - 1 - k) (0, 0)).1) ∧ w.cell? ⟨b, off + (n - 1 - k) * 2 + 1, none⟩ = some (.int .i64 (l.getD (n - 1 - k) (0, 0)).2) := by
  obtain ⟨b, off, rfl, hbw, hc⟩ := SRow.at h k hk
  obtain ⟨g0, g1⟩ := hc k hk
  obtain ⟨g2, g3⟩ := hc (n - 1 - k) (by omega)
  exact ⟨b, off, rfl, g0, g1, g2, g3⟩

theorem take_rev {l : List (Int × Int)} {n k : Nat} (hl : l.length = n) (hk : k < n) : l.reverse.take (k + 1) = l.reverse.take k ++ [l.getD (n - 1 - k) (0, 0)] := by
  rw [take_succ_getD l.reverse k (by simpa [hl] using hk)]
  congr 2
  simp [List.getD, List.getElem?_reverse (show k < l.length by omega), hl]

theorem cellsY {w : World} {b : Nat} {x0 x1 : Value} {t : TypeId} (h : w.heap[b]? = some (.cells #[x0, x1] t (0, 0))) : w.cell? ⟨b, 0, none⟩ = some x0 ∧ w.cell? ⟨b, 1, none⟩ = some x1 := by
  refine ⟨?_, ?_⟩ <;> (rw [cell_of_row w b _ _ _ _ h]; rfl)

theorem row_zero (w : World) (Y : Addr) (c : Nat) (bs : List UInt8) (u : Nat) (hc : c ≤ maxLen) : Row w 1 (some Y) 0 c ((chB bs u u).map u8C) :=
  ⟨by simp [chB], Nat.zero_le _, hc, fun h => (by cases h), fun h => absurd h (Nat.lt_irrefl _)⟩
theorem row_cut {w : World} {b0 o0 cap : Nat} {bs : List UInt8} (h : Row w 1 (some ⟨b0, o0, none⟩) bs.length cap (bs.map u8C)) (u v : Nat) (huv : u < v) (hv : v ≤ bs.length) : Row w 1 (some ⟨b0, o0 + u, none⟩) (v - u) (cap - u) ((chB bs u v).map u8C) := by
  have := row_sub h u v huv hv
  rwa [show ((bs.drop u).take (v - u)).length = v - u from chB_len hv] at this

theorem same_self (a b : Option Addr) (n c d : Nat) (A : List (Int × Int)) (w : World) (hA : SRow w a n c A) (hB : SRow w b n d A) :
    Calls Try.prog 24 #[.slice a n c, .slice b n d] w fun e w' => e = .returned (.bool true) ∧ Below w.heap.size w w' := (same_any a b n n c d A A w hA hB).mono fun e w' ⟨he, q, hq⟩ => ⟨by rw [he, decide_eq_true rfl], by subst hq; exact belowN (Below.refl _ _) q⟩
theorem conv_pre {w : World} {y : Addr} {n cap m : Nat} {os : List UInt8} (hr : Row w 1 (some y) n cap (os.map u8C)) (hm : m ≤ n) : (convert 39 9 (.slice (some y) m cap)).run Try.prog w = .ok (.string (mkB (os.take m))) w := by
  have hl : os.length = n := by simpa using hr.1
  have e : (os.take m).length = m := by simp; omega
  have := run_convert_bytes_back (P := Try.prog) w 39 9 5 y cap (os.take m) Try.underlying39 Try.underlying5 Try.underlying9 (fun j hj => by
    rw [e] at hj
    obtain ⟨b, o, hx, -, hc⟩ := hr.2.2.2.2 (by omega)
    cases hx
    have := hc j (u8C (os[j]'(by omega))) (by simp [show j < os.length by omega])
    rw [Addr.add_lit, List.getElem_take]
    exact this)
  rwa [e] at this
theorem chB_take (bs : List UInt8) (f m m' : Nat) (h : m ≤ m') : (chB bs f (f + m')).take m = chB bs f (f + m) := by
  unfold chB
  rw [List.take_take]
  congr 1
  omega
theorem heldB {w7 W W' : World} (h : Below w7.heap.size w7 W) (hb : Below W.heap.size W W') : Below w7.heap.size w7 W' := h.trans (hb.mono h.size)

/-- The two spans of a round in memory. -/
structure XY (wr w : World) (b1 b2 : Nat) (x y : Int × Int) : Prop where
  below : Below wr.heap.size wr w
  x : w.heap[b1]? = some (.cells #[.int .i64 x.1, .int .i64 x.2] 23 (0, 0))
  y : w.heap[b2]? = some (.cells #[.int .i64 y.1, .int .i64 y.2] 23 (0, 0))
  lx : wr.heap.size ≤ b1
  ly : wr.heap.size ≤ b2

set_option maxRecDepth 8000 in
set_option maxHeartbeats 8000000 in
theorem order_in (f at_ cap n1 cap1 : Nat) (a a1 : Option Addr) (bs : List UInt8) (l : List (Int × Int)) (w : World) (hl : bs.length ≤ 300) (hn : n1 ≤ 30) (hat : at_ < 65536) (hf : f = at_ % (bs.length + 1)) (hr : Row w 1 a bs.length cap (bs.map u8C)) (hs : SRow w a1 n1 cap1 l) :
    Calls Try.prog 6 #[.slice a bs.length cap, .slice a1 n1 cap1, .int .u16 at_] w (LawEndO w) := by
  have HN := Lib.hid (fun W => new_any bs.length W (by omega))
  have HW := Lib.hid (fun W => works_any W)
  have HRB := Lib.hid hr
  have HSB := Lib.hid hs
  have HLL := Lib.hid hs.len
  have hcap := hr.2.1
  have hcm := hr.2.2.1
  have hd1 : decide ((300 : Int) < bs.length) = false := decide_eq_false (by omega)
  have hd1' : decide (300 < bs.length) = false := decide_eq_false (by omega)
  have hd2 : decide ((30 : Int) < n1) = false := decide_eq_false (by omega)
  have hd2' : decide (30 < n1) = false := decide_eq_false (by omega)
  have hff : f ≤ bs.length := by have := Nat.mod_lt at_ (show 0 < bs.length + 1 by omega); omega
  have i1 : IntKind.i64.wrap ((bs.length : Int) + 1) = (bs.length : Int) + 1 := IntWalk.i64_in _ (by omega)
  have i2 : IntKind.i64.wrap (at_ : Int) = (at_ : Int) := IntWalk.i64_in _ (by omega)
  have hmod : (at_ : Int) % ((bs.length : Int) + 1) = (f : Int) := by rw [hf, Int.natCast_emod, Int.natCast_add]; rfl
  have hmod2 : (at_ : Int).tmod ((bs.length : Int) + 1) = (f : Int) := by rw [Int.tmod_eq_emod_of_nonneg (by omega)]; exact hmod
  have i3 : IntKind.i64.wrap (f : Int) = (f : Int) := IntWalk.i64_in _ (by omega)
  have hne : ¬ ((bs.length : Int) + 1 = 0) := by omega
  clear hr hs hf
  go_enter Try.func6, Try.ntmps6
  go_wp2_with fail
  refine (HN.out w).mono ?_
  rintro e w1 ⟨p1, U1, rfl, hQ1, hB1, hU1, hp1⟩
  have HQ1 := Lib.hid hQ1
  have HB1 := Lib.hid hB1
  have HU1 := Lib.hid hU1
  clear hQ1 hB1 hU1 hp1
  go_wp2_with fail
  refine (HN.out w1).mono ?_
  rintro e w2 ⟨p2, U2, rfl, hQ2, hB2, hU2, hp2⟩
  have HT := Lib.hid (show TwoS w w2 U1 U2 p1 p2 bs 0 (l.take 0) 0 (l.reverse.take 0) from
    ⟨⟨⟨0, [], _, HQ1.out.mono hB2, fun i => ⟨fun h => absurd h (cov_nil _), fun ⟨z, hz, _⟩ => by simp at hz⟩, fun i h => absurd h (cov_nil _), Nat.le_refl _, Nat.le_refl _⟩, HU1.out⟩,
     ⟨⟨0, [], _, hQ2, fun i => ⟨fun h => absurd h (cov_nil _), fun ⟨z, hz, _⟩ => by simp at hz⟩, fun i h => absurd h (cov_nil _), Nat.le_refl _, Nat.le_refl _⟩, fun b hb => Nat.le_trans HB1.out.size (hU2 b hb)⟩,
     fun b h1 h2 => by have := HQ1.out.lt b h1; have := hU2 b h2; omega, HB1.out.trans (hB2.mono HB1.out.size)⟩)
  clear hQ2 hB2 hU2 hp2
  go_wp2_with fail
  go_loopg [12, 13] n1 (fun g vs vk wr => ∃ (k m : Nat) (U1 U2 : Nat → Prop), vk = .int .i64 k ∧ vs = .string (mkB (chB bs f (f + m))) ∧ k ≤ n1 ∧ g = n1 - k ∧ f + m ≤ bs.length ∧ Hid (TwoS w wr U1 U2 p1 p2 bs k (l.take k) k (l.reverse.take k)) ∧ Hid (m = 0 ∨ IsN bs.length (l.take k) f m))
  case atStart => exact ⟨0, 0, U1, U2, rfl, by simp [chB]; rfl, Nat.zero_le _, rfl, hff, HT, Lib.hid (.inl rfl)⟩
  case round =>
    obtain ⟨k, m, U1, U2, rfl, rfl, hk, rfl, hfm, HT, HM⟩ := hrel
    by_cases hlt : k < n1
    · obtain ⟨b, off, rfl, g0, g1, g2, g3⟩ := HSB.out.two k hlt
      have HTK := Lib.hid (take_succ_getD l k (by rw [HLL.out]; exact hlt))
      have HTR := Lib.hid (take_rev HLL.out hlt)
      obtain ⟨x, hx⟩ : ∃ x, x = l.getD k (0, 0) := ⟨_, rfl⟩
      obtain ⟨y, hy⟩ : ∃ y, y = l.getD (n1 - 1 - k) (0, 0) := ⟨_, rfl⟩
      rw [← hx] at g0 g1 HTK
      rw [← hy] at g2 g3 HTR
      obtain ⟨j, hj⟩ : ∃ j, j = n1 - 1 - k := ⟨_, rfl⟩
      rw [← hj] at g2 g3
      have hji : (n1 : Int) - 1 - k = (j : Int) := by omega
      have hjl : j < n1 := by omega
      have q1 : IntKind.i64.wrap ((n1 : Int) - 1) = (n1 : Int) - 1 := IntWalk.i64_in _ (by omega)
      have q2 : IntKind.i64.wrap (j : Int) = (j : Int) := IntWalk.i64_in _ (by omega)
      have q3 : (0 : Int) ≤ (j : Int) := by omega
      have q4 : (j : Int) < (n1 : Int) := by omega
      have q5 : (0 : Int) ≤ (k : Int) := by omega
      have q6 : (k : Int) < (n1 : Int) := by omega
      have c0 := cell?_keep HT.out.below g0
      have c1 := cell?_keep HT.out.below g1
      have c2 := cell?_keep HT.out.below g2
      have c3 := cell?_keep HT.out.below g3
      clear hx hy hj g0 g1 g2 g3
      go_wp2_with fail
      go_cut [14, 15] from 55 to 169 (fun v14 v15 wx => ∃ b1 b2, v14 = .pointer (some ⟨b1, 0, none⟩) ∧ v15 = .pointer (some ⟨b2, 0, none⟩) ∧ Hid (XY wr wx b1 b2 x y))
      case first =>
        have e0 := cell?_keep (Below.refl _ wr).drew c0
        have e1 := cell?_keep (Below.refl _ wr).drew c1
        have e2 := cell?_keep (Below.refl _ wr).drew c2
        have e3 := cell?_keep (Below.refl _ wr).drew c3
        go_region_held3 (fun w' => w'.cell? ⟨b, off + k * 2, none⟩ = some (.int .i64 x.1) ∧ w'.cell? ⟨b, off + k * 2 + 1, none⟩ = some (.int .i64 x.2) ∧ w'.cell? ⟨b, off + j * 2, none⟩ = some (.int .i64 y.1) ∧ w'.cell? ⟨b, off + j * 2 + 1, none⟩ = some (.int .i64 y.2)) (go_keep) (fail)
        all_goals (try go_wp2_with fail)
        all_goals go_meet
        · exact ⟨_, _, rfl, rfl, Lib.hid ⟨(belowA2 wr _ _).drew, heapA_old _ (heapA_new _ rfl), heapA_new _ (by rw [sizeA]), Nat.le_refl _, Nat.le_succ _⟩⟩
        · exact ⟨_, _, rfl, rfl, Lib.hid ⟨(belowA2 wr _ _).drew, heapA_new _ (by rw [sizeA]), heapA_old _ (heapA_new _ rfl), Nat.le_succ _, Nat.le_refl _⟩⟩
      case rest =>
      obtain ⟨b1, b2, rfl, rfl, HXY⟩ := hcut
      have HT1 := Lib.hid (HT.out.mono HXY.out.below)
      have HU := Lib.hid (show ¬ U1 b1 ∧ ¬ U1 b2 ∧ ¬ U2 b1 ∧ ¬ U2 b2 from ⟨fun e => by have := HT.out.s.lt _ e; have := HXY.out.lx; omega, fun e => by have := HT.out.s.lt _ e; have := HXY.out.ly; omega, fun e => by have := HT.out.t.lt _ e; have := HXY.out.lx; omega, fun e => by have := HT.out.t.lt _ e; have := HXY.out.ly; omega⟩)
      clear c0 c1 c2 c3 q1 q2 q3 q4 q5 q6 hji hjl
      obtain ⟨x1, y1⟩ := x
      obtain ⟨x2, y2⟩ := y
      go_wp2_with fail
      go_cut [102] from 55 to 169 (fun vc wx => vc = .bool false ∧ ∃ U' : Nat → Prop, Hid (TwoS w wx U' U2 p1 p2 bs (k + 1) (l.take (k + 1)) k (l.reverse.take k)) ∧ Hid (wx.heap[b2]? = some (.cells #[.int .i64 x2, .int .i64 y2] 23 (0, 0))))
      case first =>
        as_aux_lemma =>
          obtain ⟨e0, e1⟩ := cellsY (show wc.drew.heap[b1]? = _ from HXY.out.x)
          obtain ⟨g0, g1⟩ := cellsY HXY.out.x
          by_cases h0 : okS bs.length (x1, y1)
          · obtain ⟨h1, h2, h3⟩ := h0
            simp only at h1 h2 h3
            obtain ⟨u, rfl⟩ := Int.eq_ofNat_of_zero_le h1
            obtain ⟨v, rfl⟩ := Int.eq_ofNat_of_zero_le (show 0 ≤ y1 by omega)
            have huv : u ≤ v := by omega
            have hvl : v ≤ bs.length := by omega
            have HTD := Lib.hid (HT1.out.mono (Below.refl _ wc).drew)
            have HEND := Lib.hid (show ∀ (wx : World) (U' : Nat → Prop), TwoS w wx U' U2 p1 p2 bs (k + 1) (l.take k ++ [((u : Int), (v : Int))]) k (l.reverse.take k) → Keeps U1 wc.drew wx → (∀ b, U' b → U1 b ∨ wc.drew.heap.size ≤ b) → (∃ U' : Nat → Prop, Hid (TwoS w wx U' U2 p1 p2 bs (k + 1) (l.take (k + 1)) k (l.reverse.take k)) ∧ Hid (wx.heap[b2]? = some (.cells #[.int .i64 x2, .int .i64 y2] 23 (0, 0)))) from fun wx U' h1 h2 h3 => ⟨U', Lib.hid (by rw [HTK.out]; exact h1), Lib.hid (h2.obj HXY.out.y HU.out.2.1)⟩)
            have HNU := Lib.hid (show ¬ U1 b1 from HU.out.1)
            have d2 : decide (u ≤ v) = true := decide_eq_true huv
            have d2i : decide ((u : Int) ≤ v) = true := decide_eq_true (by omega)
            have d3 : decide (v ≤ bs.length) = true := decide_eq_true hvl
            have d3i : decide ((v : Int) ≤ bs.length) = true := decide_eq_true (by omega)
            have iu : IntKind.i64.wrap (u : Int) = (u : Int) := IntWalk.i64_in _ (by omega)
            have iv : IntKind.i64.wrap (v : Int) = (v : Int) := IntWalk.i64_in _ (by omega)
            have hmx0 : max (v : Int) 0 = (v : Int) := by omega
            have hQc : v ≤ cap := by omega
            clear h1 h2 h3 g0 g1
            cases a with
            | none =>
              have q1 := HRB.out.2.2.2.1 rfl
              obtain rfl : bs = [] := List.eq_nil_of_length_eq_zero (by omega)
              obtain rfl : v = 0 := Nat.le_zero.1 hvl
              obtain rfl : u = 0 := Nat.le_zero.1 huv
              have HPUT := Lib.hid (two_put HTD.out (by omega) hl (u := 0) (v := 0) (Nat.le_refl _) (Nat.zero_le _) (a := none) (cap := 0) (by simpa [chB] using Row.nil w 1))
              subst q1
              clear iu iv hmx0 hQc d2 d2i d3 d3i huv hvl
              go_region_held3 (fun w' => w'.cell? ⟨b1, 0, none⟩ = some (.int .i64 0) ∧ w'.cell? ⟨b1, 1, none⟩ = some (.int .i64 0)) (first | assumption | exact ⟨e0, e1⟩ | exact ⟨hk5.cell e0 HNU.out, hk5.cell e1 HNU.out⟩)
                ((go_at_call 19; refine HPUT.out.mono ?_; rintro e w5 ⟨rfl, U', hT5, hk5, hU5⟩))
              all_goals (try go_wp2_with fail)
              all_goals go_meet
              all_goals exact ⟨rfl, HEND.out w5 U' hT5 hk5 hU5⟩
            | some z =>
              by_cases huv2 : u = v
              · subst huv2
                have hput := fun (Y : Addr) (c : Nat) (hc : c ≤ maxLen) => two_put HTD.out (by omega) hl (u := u) (v := u) (Nat.le_refl _) hvl (a := some Y) (cap := c) (by rw [Nat.sub_self]; exact row_zero w Y c bs u hc)
                rw [Nat.sub_self] at hput
                have HPUT := Lib.hid hput
                clear hput
                by_cases hcne : cap = u
                · obtain rfl : u = cap := hcne.symm
                  go_region_held3 (fun w' => w'.cell? ⟨b1, 0, none⟩ = some (.int .i64 (u : Nat)) ∧ w'.cell? ⟨b1, 1, none⟩ = some (.int .i64 (u : Nat))) (first | assumption | exact ⟨e0, e1⟩ | exact ⟨hk5.cell e0 HNU.out, hk5.cell e1 HNU.out⟩)
                    ((go_at_call 19; refine (HPUT.out _ _ (by omega)).mono ?_; rintro e w5 ⟨rfl, U', hT5, hk5, hU5⟩))
                  all_goals (try go_wp2_with fail)
                  all_goals go_meet
                  all_goals exact ⟨rfl, HEND.out w5 U' hT5 hk5 hU5⟩
                · go_region_held3 (fun w' => w'.cell? ⟨b1, 0, none⟩ = some (.int .i64 (u : Nat)) ∧ w'.cell? ⟨b1, 1, none⟩ = some (.int .i64 (u : Nat))) (first | assumption | exact ⟨e0, e1⟩ | exact ⟨hk5.cell e0 HNU.out, hk5.cell e1 HNU.out⟩)
                    ((go_at_call 19; refine (HPUT.out _ _ (by omega)).mono ?_; rintro e w5 ⟨rfl, U', hT5, hk5, hU5⟩))
                  all_goals (try go_wp2_with fail)
                  all_goals go_meet
                  all_goals exact ⟨rfl, HEND.out w5 U' hT5 hk5 hU5⟩
              · obtain ⟨ba, oa, hz, -, -⟩ := HRB.out.2.2.2.2 (by omega)
                cases hz
                have hcne : ¬ cap = u := by omega
                have HPUT := Lib.hid (two_put HTD.out (by omega) hl (u := u) (v := v) huv hvl (a := some ⟨ba, oa + u, none⟩) (cap := cap - u) (row_cut HRB.out u v (by omega) hvl))
                go_region_held3 (fun w' => w'.cell? ⟨b1, 0, none⟩ = some (.int .i64 (u : Nat)) ∧ w'.cell? ⟨b1, 1, none⟩ = some (.int .i64 (v : Nat))) (first | assumption | exact ⟨e0, e1⟩ | exact ⟨hk5.cell e0 HNU.out, hk5.cell e1 HNU.out⟩)
                  ((go_at_call 19; refine HPUT.out.mono ?_; rintro e w5 ⟨rfl, U', hT5, hk5, hU5⟩))
                all_goals (try go_wp2_with fail)
                all_goals go_meet
                all_goals exact ⟨rfl, HEND.out w5 U' hT5 hk5 hU5⟩
          · have HSK := Lib.hid (show ∀ wx, Below wc.heap.size wc wx → (∃ U' : Nat → Prop, Hid (TwoS w wx U' U2 p1 p2 bs (k + 1) (l.take (k + 1)) k (l.reverse.take k)) ∧ Hid (wx.heap[b2]? = some (.cells #[.int .i64 x2, .int .i64 y2] 23 (0, 0)))) from fun wx h1 => ⟨U1, Lib.hid (by rw [HTK.out]; exact (HT1.out.mono h1).skip h0), Lib.hid (block_keep h1 HXY.out.y)⟩)
            by_cases h1 : 0 ≤ x1
            · have d1 : decide (0 ≤ x1) = true := decide_eq_true h1
              by_cases h2 : x1 ≤ y1
              · have d2 : decide (x1 ≤ y1) = true := decide_eq_true h2
                have d3 : decide (y1 ≤ (bs.length : Int)) = false := decide_eq_false (fun h => h0 ⟨h1, h2, h⟩)
                clear h0
                go_quiet (fail)
                (try go_wp2_with fail)
                go_meet
                exact ⟨rfl, HSK.out _ (belowN (Below.refl _ _) _)⟩
              · have d2 : decide (x1 ≤ y1) = false := decide_eq_false h2
                clear h0
                go_quiet (fail)
                (try go_wp2_with fail)
                go_meet
                exact ⟨rfl, HSK.out _ (belowN (Below.refl _ _) _)⟩
            · have d1 : decide (0 ≤ x1) = false := decide_eq_false h1
              clear h0
              go_quiet (fail)
              (try go_wp2_with fail)
              go_meet
              exact ⟨rfl, HSK.out _ (belowN (Below.refl _ _) _)⟩
      case rest =>
      obtain ⟨rfl, U1', HT2, HX2⟩ := hcut
      clear HXY HT1
      go_wp2_with fail
      go_cut [132] from 55 to 169 (fun vc wx => vc = .bool false ∧ ∃ U' : Nat → Prop, Hid (TwoS w wx U1' U' p1 p2 bs (k + 1) (l.take (k + 1)) (k + 1) (l.reverse.take (k + 1))))
      case first =>
        as_aux_lemma =>
          obtain ⟨e0, e1⟩ := cellsY (show wc.drew.heap[b2]? = _ from HX2.out)
          obtain ⟨g0, g1⟩ := cellsY HX2.out
          by_cases h0 : okS bs.length (x2, y2)
          · obtain ⟨h1, h2, h3⟩ := h0
            simp only at h1 h2 h3
            obtain ⟨u, rfl⟩ := Int.eq_ofNat_of_zero_le h1
            obtain ⟨v, rfl⟩ := Int.eq_ofNat_of_zero_le (show 0 ≤ y2 by omega)
            have huv : u ≤ v := by omega
            have hvl : v ≤ bs.length := by omega
            have HTD := Lib.hid (HT2.out.flip.mono (Below.refl _ wc).drew)
            have HEND := Lib.hid (show ∀ (wx : World) (U' : Nat → Prop), TwoS w wx U' U1' p2 p1 bs (k + 1) (l.reverse.take k ++ [((u : Int), (v : Int))]) (k + 1) (l.take (k + 1)) → Keeps U2 wc.drew wx → (∀ b, U' b → U2 b ∨ wc.drew.heap.size ≤ b) → (∃ U' : Nat → Prop, Hid (TwoS w wx U1' U' p1 p2 bs (k + 1) (l.take (k + 1)) (k + 1) (l.reverse.take (k + 1)))) from fun wx U' h1 h2 h3 => ⟨U', Lib.hid (by rw [HTR.out]; exact h1.flip)⟩)
            have HNU := Lib.hid (show ¬ U2 b2 from HU.out.2.2.2)
            have d2 : decide (u ≤ v) = true := decide_eq_true huv
            have d2i : decide ((u : Int) ≤ v) = true := decide_eq_true (by omega)
            have d3 : decide (v ≤ bs.length) = true := decide_eq_true hvl
            have d3i : decide ((v : Int) ≤ bs.length) = true := decide_eq_true (by omega)
            have iu : IntKind.i64.wrap (u : Int) = (u : Int) := IntWalk.i64_in _ (by omega)
            have iv : IntKind.i64.wrap (v : Int) = (v : Int) := IntWalk.i64_in _ (by omega)
            have hmx0 : max (v : Int) 0 = (v : Int) := by omega
            have hQc : v ≤ cap := by omega
            clear h1 h2 h3 g0 g1
            cases a with
            | none =>
              have q1 := HRB.out.2.2.2.1 rfl
              obtain rfl : bs = [] := List.eq_nil_of_length_eq_zero (by omega)
              obtain rfl : v = 0 := Nat.le_zero.1 hvl
              obtain rfl : u = 0 := Nat.le_zero.1 huv
              have HPUT := Lib.hid (two_put HTD.out (by omega) hl (u := 0) (v := 0) (Nat.le_refl _) (Nat.zero_le _) (a := none) (cap := 0) (by simpa [chB] using Row.nil w 1))
              subst q1
              clear iu iv hmx0 hQc d2 d2i d3 d3i huv hvl
              go_region_held3 (fun w' => w'.cell? ⟨b2, 0, none⟩ = some (.int .i64 0) ∧ w'.cell? ⟨b2, 1, none⟩ = some (.int .i64 0)) (first | assumption | exact ⟨e0, e1⟩ | exact ⟨hk5.cell e0 HNU.out, hk5.cell e1 HNU.out⟩)
                ((go_at_call 19; refine HPUT.out.mono ?_; rintro e w5 ⟨rfl, U', hT5, hk5, hU5⟩))
              all_goals (try go_wp2_with fail)
              all_goals go_meet
              all_goals exact ⟨rfl, HEND.out w5 U' hT5 hk5 hU5⟩
            | some z =>
              by_cases huv2 : u = v
              · subst huv2
                have hput := fun (Y : Addr) (c : Nat) (hc : c ≤ maxLen) => two_put HTD.out (by omega) hl (u := u) (v := u) (Nat.le_refl _) hvl (a := some Y) (cap := c) (by rw [Nat.sub_self]; exact row_zero w Y c bs u hc)
                rw [Nat.sub_self] at hput
                have HPUT := Lib.hid hput
                clear hput
                by_cases hcne : cap = u
                · obtain rfl : u = cap := hcne.symm
                  go_region_held3 (fun w' => w'.cell? ⟨b2, 0, none⟩ = some (.int .i64 (u : Nat)) ∧ w'.cell? ⟨b2, 1, none⟩ = some (.int .i64 (u : Nat))) (first | assumption | exact ⟨e0, e1⟩ | exact ⟨hk5.cell e0 HNU.out, hk5.cell e1 HNU.out⟩)
                    ((go_at_call 19; refine (HPUT.out _ _ (by omega)).mono ?_; rintro e w5 ⟨rfl, U', hT5, hk5, hU5⟩))
                  all_goals (try go_wp2_with fail)
                  all_goals go_meet
                  all_goals exact ⟨rfl, HEND.out w5 U' hT5 hk5 hU5⟩
                · go_region_held3 (fun w' => w'.cell? ⟨b2, 0, none⟩ = some (.int .i64 (u : Nat)) ∧ w'.cell? ⟨b2, 1, none⟩ = some (.int .i64 (u : Nat))) (first | assumption | exact ⟨e0, e1⟩ | exact ⟨hk5.cell e0 HNU.out, hk5.cell e1 HNU.out⟩)
                    ((go_at_call 19; refine (HPUT.out _ _ (by omega)).mono ?_; rintro e w5 ⟨rfl, U', hT5, hk5, hU5⟩))
                  all_goals (try go_wp2_with fail)
                  all_goals go_meet
                  all_goals exact ⟨rfl, HEND.out w5 U' hT5 hk5 hU5⟩
              · obtain ⟨ba, oa, hz, -, -⟩ := HRB.out.2.2.2.2 (by omega)
                cases hz
                have hcne : ¬ cap = u := by omega
                have HPUT := Lib.hid (two_put HTD.out (by omega) hl (u := u) (v := v) huv hvl (a := some ⟨ba, oa + u, none⟩) (cap := cap - u) (row_cut HRB.out u v (by omega) hvl))
                go_region_held3 (fun w' => w'.cell? ⟨b2, 0, none⟩ = some (.int .i64 (u : Nat)) ∧ w'.cell? ⟨b2, 1, none⟩ = some (.int .i64 (v : Nat))) (first | assumption | exact ⟨e0, e1⟩ | exact ⟨hk5.cell e0 HNU.out, hk5.cell e1 HNU.out⟩)
                  ((go_at_call 19; refine HPUT.out.mono ?_; rintro e w5 ⟨rfl, U', hT5, hk5, hU5⟩))
                all_goals (try go_wp2_with fail)
                all_goals go_meet
                all_goals exact ⟨rfl, HEND.out w5 U' hT5 hk5 hU5⟩
          · have HSK := Lib.hid (show ∀ wx, Below wc.heap.size wc wx → (∃ U' : Nat → Prop, Hid (TwoS w wx U1' U' p1 p2 bs (k + 1) (l.take (k + 1)) (k + 1) (l.reverse.take (k + 1)))) from fun wx h1 => ⟨U2, Lib.hid (by rw [HTR.out]; exact ((HT2.out.mono h1).flip.skip h0).flip)⟩)
            by_cases h1 : 0 ≤ x2
            · have d1 : decide (0 ≤ x2) = true := decide_eq_true h1
              by_cases h2 : x2 ≤ y2
              · have d2 : decide (x2 ≤ y2) = true := decide_eq_true h2
                have d3 : decide (y2 ≤ (bs.length : Int)) = false := decide_eq_false (fun h => h0 ⟨h1, h2, h⟩)
                clear h0
                go_quiet (fail)
                (try go_wp2_with fail)
                go_meet
                exact ⟨rfl, HSK.out _ (belowN (Below.refl _ _) _)⟩
              · have d2 : decide (x2 ≤ y2) = false := decide_eq_false h2
                clear h0
                go_quiet (fail)
                (try go_wp2_with fail)
                go_meet
                exact ⟨rfl, HSK.out _ (belowN (Below.refl _ _) _)⟩
            · have d1 : decide (0 ≤ x2) = false := decide_eq_false h1
              clear h0
              go_quiet (fail)
              (try go_wp2_with fail)
              go_meet
              exact ⟨rfl, HSK.out _ (belowN (Below.refl _ _) _)⟩
      case rest =>
      obtain ⟨rfl, U2', HT3⟩ := hcut
      obtain ⟨m', hN', hRD⟩ := ord_read HT3.out.s (by omega) f hff hl
      have hmm : m ≤ m' := HM.out.elim (fun e => by omega) (fun h => h.le hN' (fun i hi => by rw [HTK.out, cvS_snoc]; exact .inl hi))
      have hfm' := hN'.1
      have HN' := Lib.hid hN'
      have HRD := Lib.hid hRD
      clear HT2 HX2 HU hN' hRD HM HT HTK HTR HSB HQ1 HB1 HU1
      go_wp2_with fail
      refine HRD.out.mono ?_
      rintro e w6 ⟨v6, rfl, hO6, hb6⟩
      obtain ⟨a6, c6, rfl, hr6, -⟩ := Row.of_owns hO6
      have HT6 := Lib.hid (HT3.out.mono hb6)
      have HR6 := Lib.hid hr6
      have HO6 := Lib.hid hO6
      have hcx := fun q : BelowW w6 => conv_own (w := q.w) (v := .slice a6 m' c6) (o := chB bs f (f + m')) (by rw [chB_len hfm', Nat.add_sub_cancel_left]; exact ownsRow_keep HO6.out q.h)
      have HBB := Lib.hid (fun q : BelowW w6 => HT6.out.below.trans (q.h.mono HT6.out.below.size))
      obtain ⟨Q, hQ⟩ : ∃ Q, Q = f + m' := ⟨_, rfl⟩
      have hsum : (f : Int) + m' = (Q : Int) := by omega
      have iQ : IntKind.i64.wrap (Q : Int) = (Q : Int) := IntWalk.i64_in _ (by omega)
      have im : IntKind.i64.wrap (m : Int) = (m : Int) := IntWalk.i64_in _ (by omega)
      have hmQ : max (Q : Int) 0 = (Q : Int) := by omega
      have hmm0 : max (m : Int) 0 = (m : Int) := by omega
      have hQc : Q ≤ cap := by omega
      have hfQ : f ≤ Q := by omega
      have hc6 := hr6.2.1
      have hmc : m ≤ c6 := by omega
      have hnm : ¬ m' < m := by omega
      have hdm : decide (m' < m) = false := decide_eq_false hnm
      have hdm2 : decide ((m' : Int) < m) = false := decide_eq_false (by omega)
      have HNX := Lib.hid (show ∀ wx, Below w6.heap.size w6 wx → ∃ (k2 m2 : Nat) (V1 V2 : Nat → Prop), Value.int .i64 ((k : Int) + 1) = .int .i64 k2 ∧ Value.string (mkB (chB bs f (f + m'))) = .string (mkB (chB bs f (f + m2))) ∧ k2 ≤ n1 ∧ n1 - (k + 1) = n1 - k2 ∧ f + m2 ≤ bs.length ∧ Hid (TwoS w wx V1 V2 p1 p2 bs k2 (l.take k2) k2 (l.reverse.take k2)) ∧ Hid (m2 = 0 ∨ IsN bs.length (l.take k2) f m2) from
        fun wx h => ⟨k + 1, m', U1', U2', by go_num, rfl, by omega, rfl, hfm', Lib.hid (HT6.out.mono h), Lib.hid (.inr HN'.out)⟩)
      clear hO6 hb6 HRD HT3
      obtain ⟨S0, hS0⟩ : ∃ S0, S0 = mkB (chB bs f (f + m)) := ⟨_, rfl⟩
      obtain ⟨S1, hS1⟩ : ∃ S1, S1 = mkB (chB bs f (f + m')) := ⟨_, rfl⟩
      have hs0 : S0.size = m := by
        rw [hS0]
        show (chB bs f (f + m)).toArray.size = m
        rw [List.size_toArray, chB_len hfm]
        omega
      rw [← hS1] at hcx HNX
      rw [← hS0]
      have HS0 := Lib.hid hS0
      have HS1 := Lib.hid hS1
      have hbb := fun (hq : f < Q) (q : BelowW w6) (ba oa : Nat) (hz : a = some ⟨ba, oa, none⟩) => conv_row (w := q.w) (a := some ⟨ba, oa + f, none⟩) (cap := cap - f) (bs := chB bs f Q) (by
        have h1 := row_cut (b0 := ba) (o0 := oa) (hz ▸ HRB.out.mono (HBB.out q)) f Q hq (by omega)
        rwa [← chB_len (bs := bs) (u := f) (v := Q) (by omega)] at h1)
      have HBQ := Lib.hid hbb
      have HQ := Lib.hid hQ
      have hcb0 : ∀ (Y : Addr) (c : Nat) (q : BelowW w6), (convert 39 9 (.slice (some Y) 0 c)).run Try.prog q.w = .ok (.string (mkB [])) q.w := fun Y c q => run_convert_bytes_back (P := Try.prog) q.w 39 9 5 Y c [] Try.underlying39 Try.underlying5 Try.underlying9 (fun j hj => absurd hj (by simp))
      have hcn0 : ∀ q : BelowW w6, (convert 39 9 (.slice none 0 0)).run Try.prog q.w = .ok (.string (mkB [])) q.w := fun q => run_convert_bytes_string q.w 39 9 5 none 0 0 Try.underlying39 Try.underlying5 Try.underlying9
      clear hbb hQ hS0 hS1
      have hS10 : m' = 0 → S1 = mkB [] := fun e => by rw [HS1.out, e]; simp [chB]
      go_wp2_with fail
      cases a6 with
      | none =>
        have hz := hr6.2.2.2.1 rfl
        obtain rfl : m' = 0 := by omega
        obtain rfl : m = 0 := by omega
        obtain rfl : S0 = S1 := HS0.out.trans HS1.out.symm
        have hE := hS10 rfl
        rw [← hE] at hcb0
        subst hz
        clear hcn0 hE hS10 hr6 HR6 hc6 hmc hnm hmm
        have HQ2 := HQ.out
        cases a with
        | none =>
          have q1 := HRB.out.2.2.2.1 rfl
          subst q1
          obtain rfl : bs = [] := List.eq_nil_of_length_eq_zero (by omega)
          obtain rfl : f = 0 := Nat.le_zero.1 hff
          obtain rfl : Q = 0 := HQ2
          clear hsum iQ im hmQ hmm0 hQc hfQ hfm hfm' hff
          refine wp_region_below (by kernel_rfl) (by kernel_rfl) ?_
          repeat (go_big_quiet_step (fail))
          refine wpQuiet_nil ?_
          rintro _ ⟨⟨w7, hb7⟩, rfl⟩
          have hcx7 := hcx ⟨_, hb7⟩
          go_wp2
          go_roundg (n1 - (k + 1))
          case measure => omega
          case rel => exact HNX.out _ hb7
        | some z =>
          obtain rfl : Q = f := HQ2
          clear hsum
          by_cases hcne : cap = Q
          · obtain rfl : Q = cap := hcne.symm
            refine wp_region_below (by kernel_rfl) (by kernel_rfl) ?_
            repeat (go_big_quiet_step (fail))
            refine wpQuiet_nil ?_
            rintro _ ⟨⟨w7, hb7⟩, rfl⟩
            have hcx7 := hcx ⟨_, hb7⟩
            go_wp2
            go_roundg (n1 - (k + 1))
            case measure => omega
            case rel => exact HNX.out _ hb7
          · refine wp_region_below (by kernel_rfl) (by kernel_rfl) ?_
            repeat (go_big_quiet_step (fail))
            refine wpQuiet_nil ?_
            rintro _ ⟨⟨w7, hb7⟩, rfl⟩
            have hcx7 := hcx ⟨_, hb7⟩
            go_wp2
            go_roundg (n1 - (k + 1))
            case measure => omega
            case rel => exact HNX.out _ hb7
      | some y =>
        have hcp : ∀ q : BelowW w6, (convert 39 9 (.slice (some y) m c6)).run Try.prog q.w = .ok (.string S0) q.w := fun q => by
          have := conv_pre (HR6.out.mono q.h) hmm
          rwa [chB_take bs f m m' hmm, ← HS0.out] at this
        clear hr6 HR6
        by_cases hfQ2 : f < Q
        · cases a with
          | none =>
            have q1 := HRB.out.2.2.2.1 rfl
            omega
          | some z =>
            obtain ⟨ba, oa, hz, -, -⟩ := HRB.out.2.2.2.2 (by omega)
            cases hz
            have hcne : ¬ cap = f := by omega
            have hcb : ∀ q : BelowW w6, (convert 39 9 (.slice (some ⟨ba, oa + f, none⟩) (Q - f) (cap - f))).run Try.prog q.w = .ok (.string S1) q.w := fun q => by
              have h1 := HBQ.out hfQ2 q ba oa rfl
              rw [chB_len (by omega), HQ.out, ← HS1.out] at h1
              rw [HQ.out]
              exact h1
            clear hcb0 hcn0 hS10
            refine wp_region_below (by kernel_rfl) (by kernel_rfl) ?_
            repeat (go_big_quiet_step (fail))
            refine wpQuiet_nil ?_
            rintro _ ⟨⟨w7, hb7⟩, rfl⟩
            have hcx7 := hcx ⟨_, hb7⟩
            go_wp2
            go_roundg (n1 - (k + 1))
            case measure => omega
            case rel => exact HNX.out _ hb7
        · have HQ2 := HQ.out
          obtain rfl : m' = 0 := by omega
          obtain rfl : m = 0 := by omega
          have hE := hS10 rfl
          rw [← hE] at hcb0 hcn0
          clear hE hS10 hfQ2
          obtain rfl : S0 = S1 := HS0.out.trans HS1.out.symm
          cases a with
          | none =>
            have q1 := HRB.out.2.2.2.1 rfl
            subst q1
            obtain rfl : bs = [] := List.eq_nil_of_length_eq_zero (by omega)
            obtain rfl : f = 0 := Nat.le_zero.1 hff
            obtain rfl : Q = 0 := HQ2
            clear hsum iQ im hmQ hmm0 hQc hfQ hfm hfm' hff
            refine wp_region_below (by kernel_rfl) (by kernel_rfl) ?_
            repeat (go_big_quiet_step (fail))
            refine wpQuiet_nil ?_
            rintro _ ⟨⟨w7, hb7⟩, rfl⟩
            have hcx7 := hcx ⟨_, hb7⟩
            go_wp2
            go_roundg (n1 - (k + 1))
            case measure => omega
            case rel => exact HNX.out _ hb7
          | some z =>
            obtain rfl : Q = f := HQ2
            clear hsum hcn0
            by_cases hcne : cap = Q
            · obtain rfl : Q = cap := hcne.symm
              refine wp_region_below (by kernel_rfl) (by kernel_rfl) ?_
              repeat (go_big_quiet_step (fail))
              refine wpQuiet_nil ?_
              rintro _ ⟨⟨w7, hb7⟩, rfl⟩
              have hcx7 := hcx ⟨_, hb7⟩
              go_wp2
              go_roundg (n1 - (k + 1))
              case measure => omega
              case rel => exact HNX.out _ hb7
            · refine wp_region_below (by kernel_rfl) (by kernel_rfl) ?_
              repeat (go_big_quiet_step (fail))
              refine wpQuiet_nil ?_
              rintro _ ⟨⟨w7, hb7⟩, rfl⟩
              have hcx7 := hcx ⟨_, hb7⟩
              go_wp2
              go_roundg (n1 - (k + 1))
              case measure => omega
              case rel => exact HNX.out _ hb7
    · obtain rfl : k = n1 := by omega
      have hmem : ∀ z, z ∈ l.take k ↔ z ∈ l.reverse.take k := fun z => by
        have h1 := HLL.out
        rw [List.take_of_length_le (by omega), List.take_of_length_le (by rw [List.length_reverse]; omega), List.mem_reverse]
      have HMEM := Lib.hid hmem
      obtain ⟨m1, hN1, hR1⟩ := ord_read HT.out.s (by omega) f hff hl
      have HN1 := Lib.hid hN1
      have HR1 := Lib.hid hR1
      clear hN1 hR1 hmem HM HSB
      go_wp2_with fail
      refine HR1.out.mono ?_
      rintro e w6 ⟨v6, rfl, hO6, hb6⟩
      obtain ⟨a6, c6, rfl, -, -⟩ := Row.of_owns hO6
      have HT6 := Lib.hid (HT.out.mono hb6)
      have HO6 := Lib.hid hO6
      obtain ⟨m2, hN2, hR2⟩ := ord_read HT6.out.t (by omega) f hff hl
      obtain rfl : m2 = m1 := Nat.le_antisymm (hN2.le HN1.out (fun i => (cvS_perm HMEM.out i).2)) (HN1.out.le hN2 (fun i => (cvS_perm HMEM.out i).1))
      obtain ⟨T1, hT1l, hF1, hc1, hK1⟩ := ord_known HT6.out.s (by omega)
      obtain ⟨T2, hT2l, hF2, hc2, hK2⟩ := ord_known HT6.out.t (by omega)
      obtain rfl : T2 = T1 := form_unique hF2 hF1 (fun j => (hc2 j).trans ((cvS_perm HMEM.out j).symm.trans (hc1 j).symm))
      have HR2 := Lib.hid hR2
      have HK1 := Lib.hid hK1
      have HK2 := Lib.hid hK2
      have hm2 := hN2.1
      clear hO6 hb6 hN2 hR2 hF1 hF2 hc1 hc2 hK1 hK2 HR1 HN1
      go_wp2_with fail
      refine HR2.out.mono ?_
      rintro e w7 ⟨v7, rfl, hO7, hb7⟩
      obtain ⟨a7, c7, rfl, -, -⟩ := Row.of_owns hO7
      have hcl : (chB bs f (f + m2)).length = m2 := by rw [chB_len hm2]; omega
      have hcx : ∀ W, Below w7.heap.size w7 W → (convert 39 9 (.slice a6 m2 c6)).run Try.prog W = .ok (.string (mkB (chB bs f (f + m2)))) W := fun W h => conv_own (by rw [hcl]; exact ownsRow_keep (ownsRow_keep HO6.out hb7) h)
      have hcy : ∀ W, Below w7.heap.size w7 W → (convert 39 9 (.slice a7 m2 c7)).run Try.prog W = .ok (.string (mkB (chB bs f (f + m2)))) W := fun W h => conv_own (by rw [hcl]; exact ownsRow_keep hO7 h)
      have HK1 := Lib.hid (fun W (h : Below w7.heap.size w7 W) => HK1.out W (hb7.trans (h.mono hb7.size)))
      have HK2 := Lib.hid (fun W (h : Below w7.heap.size w7 W) => HK2.out W (hb7.trans (h.mono hb7.size)))
      have HB7 := Lib.hid (HT6.out.below.trans (hb7.mono HT6.out.below.size))
      generalize mkB (chB bs f (f + m2)) = S1 at hcx hcy
      have hcx7 := hcx w7 (Below.refl _ _)
      have hcy7 := hcy w7 (Below.refl _ _)
      clear hO7 hb7 hcl HR2 HO6 hcx hcy
      go_wp2_with fail
      refine (HK1.out w7 (Below.refl _ _)).mono ?_
      rintro e wK ⟨vK, rfl, hOK, hbK⟩
      obtain ⟨aK, cK, rfl, hrK, -⟩ := Row.of_owns hOK
      have HRK := Lib.hid hrK
      have HBK := Lib.hid hbK
      clear hOK hrK hbK
      go_wp2_with fail
      refine (HK2.out wK HBK.out).mono ?_
      rintro e wL ⟨vL, rfl, hOL, hbL⟩
      obtain ⟨aL, cL, rfl, hrL, -⟩ := Row.of_owns hOL
      have HSM := Lib.hid (same_self _ _ _ _ _ _ _ (HRK.out.mono hbL) hrL)
      have HBL := Lib.hid (heldB HBK.out hbL)
      clear hOL hrL hbL
      go_wp2_with fail
      refine HSM.out.mono ?_
      rintro e wQ ⟨rfl, hbQ⟩
      have HBQ := Lib.hid (heldB HBL.out hbQ)
      clear hbQ
      go_wp2_with fail
      refine (HW.out _).mono ?_
      rintro e wZ ⟨rfl, hbZ⟩
      have HE := Lib.hid (HB7.out.trans ((heldB HBQ.out hbZ).mono HB7.out.size))
      clear hbZ
      go_wp2
      go_ret
      exact ⟨rfl, HE.out⟩

theorem law_order (at_ : Int) (n1 cap cap1 : Nat) (a a1 : Option Addr) (bs : List UInt8) (l : List (Int × Int)) (w : World) (h0 : 0 ≤ at_) (h1 : at_ < 65536) (hr : Row w 1 a bs.length cap (bs.map u8C)) (hs : SRow w a1 n1 cap1 l) :
    Calls Try.prog 6 #[.slice a bs.length cap, .slice a1 n1 cap1, .int .u16 at_] w (LawEndO w) := by
  obtain ⟨t, rfl⟩ := Int.eq_ofNat_of_zero_le h0
  by_cases hb : 300 < bs.length ∨ 30 < n1
  · exact order_big t a a1 bs.length cap n1 cap1 w hb
  · exact order_in _ t cap n1 cap1 a a1 bs l w (by omega) (by omega) (by omega) rfl hr hs
end Go.Proofs.Ytimeacigbacadaa
