/-
  Walks of layer 2's reference: spans that lie near are one.
-/
import Derived.Test.YtbmhdacedicbjaaRef02
namespace Go.Proofs.Ytbmhdacedicbjaa
open Go.RowKit Go.Sort

/-- In form: what is joined reaches as far as the last one. -/
theorem form_next {S : List (Int × Int)} (h : Form S) {j k : Nat} (hj : j < k) (hk : k < S.length) : (S.getD j (0, 0)).2 < (S.getD k (0, 0)).1 := by
  rw [show S.getD j (0, 0) = S[j] from by simp [List.getD, show j < S.length by omega], show S.getD k (0, 0) = S[k] from by simp [List.getD, hk]]
  exact List.pairwise_iff_getElem.1 h.apart j k (by omega) hk hj

/-- What the loop keeps: the last one ends where the last one of the list does. -/
def RJoin (gap : Int) (S : List (Int × Int)) (k : Nat) (out : List (Int × Int)) : Prop :=
  JoinAt gap S k out ∧ (0 < k → ∃ front f, out = front ++ [(f, (S.getD (k - 1) (0, 0)).2)])

def RJoinEnd (gap : Int) (L : List (Int × Int)) (w : World) (e : Ending) (w' : World) : Prop :=
  ∃ (S : List (Int × Int)) (v : Value), SpOf 301 (marks L) S ∧ e = .returned v ∧ w'.ownsRow w.heap.size 56 2 v (joinS gap S).length (spV (joinS gap S)) ∧ Below w.heap.size w w'

set_option maxRecDepth 8000 in
set_option maxHeartbeats 2000000 in
theorem rjoin_any (a : Option Addr) (n cap : Nat) (L : List (Int × Int)) (gap : Int) (w : World) (hr : SRow w a n cap L) (hn : n ≤ 1000000) (hg0 : 0 ≤ gap) (hg1 : gap ≤ 9223372036854775807) :
    Calls Try.prog 34 #[.slice a n cap, .int .i64 gap] w (RJoinEnd gap L w) := by
  have HR := Lib.hid hr
  have hl := hr.len
  have HL := Lib.hid hl
  clear hr hl
  go_enter Try.func34, Try.ntmps34
  go_wp2_with (at_make; refine make_full ETBl rfl _ _ rfl .i64 .i64 _ _ 301 rfl rfl rfl rfl (by omega) (by unfold maxLen; omega) ?_; intro w1 hown hb1; have HO := Lib.hid (own_congr hown (made_fl _ 301)); clear hown)
  go_loopw [5, 6] (fun vm vi wr => ∃ k : Nat, vi = .int .i64 k ∧ k ≤ n ∧ Hid (wr.ownsRow w.heap.size 4 1 vm 301 (mkV (marks (L.take k)) 301)) ∧ Hid (Below w.heap.size w wr)) (fun _ vi _ => n - (intOf vi).toNat)
  case atStart => exact ⟨0, rfl, Nat.zero_le _, Lib.hid (own_congr HO.out (fl_congr fun j _ => by simp [marks])), Lib.hid hb1⟩
  case round =>
    obtain ⟨k, rfl, hk, HM, HB⟩ := hrel
    obtain ⟨am, cm, rfl, hrm, _⟩ := Row.of_owns HM.out
    have hsw := HB.out.size
    by_cases hlt : k < n
    · obtain ⟨b, off, rfl, _, hc⟩ := SRow.at (HR.out.mono HB.out) k hlt
      obtain ⟨c0, c1⟩ := hc k hlt
      have hlk : k < L.length := by rw [HL.out]; exact hlt
      obtain ⟨x, y, hxy⟩ : ∃ x y, L.getD k (0, 0) = (x, y) := ⟨_, _, rfl⟩
      have ht := take_succ_getD L k hlk
      rw [hxy] at c0 c1 ht
      simp only at c0 c1
      have HT := Lib.hid ht
      have HP := Lib.hid (rput_any am 301 cm (marks (L.take k)) x y wr hrm (by omega) (by omega))
      clear hc hxy ht hrm
      go_wp2_with fail
      refine HP.out.mono ?_
      rintro e w3 ⟨v3, rfl, hO3, hb3⟩
      have HO3 := Lib.hid hO3
      have HB3 := Lib.hid hb3
      clear hO3 hb3
      go_wp2
      go_roundw
      case rel => exact ⟨k + 1, by go_num, by omega, Lib.hid (own_congr (ownsRow_base HO3.out hsw) (fl_congr fun j _ => by rw [HT.out, marks_snoc])), Lib.hid (HB.out.trans (HB3.out.mono hsw))⟩
      case measure => simp [intOf]; omega
    · obtain rfl : k = n := by omega
      rw [show L.take k = L from by rw [← HL.out]; exact List.take_length] at hrm
      have HP := Lib.hid (rspans_any am 301 cm (marks L) wr hrm (by omega))
      clear hrm
      go_wp2_with fail
      refine HP.out.mono ?_
      rintro e w3 ⟨S, v3, hS, rfl, hO3, hb3⟩
      obtain ⟨a3, c3, rfl, hr3, _⟩ := Row.of_owns hO3
      obtain ⟨q0, hq0⟩ : ∃ q, q = S.length := ⟨_, rfl⟩
      have hSl := hS.len
      have hSb : ∀ j, j < q0 → 0 ≤ (S.getD j (0, 0)).1 ∧ (S.getD j (0, 0)).1 < (S.getD j (0, 0)).2 ∧ (S.getD j (0, 0)).2 ≤ 302 := fun j hj => by
        have hm : S.getD j (0, 0) ∈ S := getD_mem2 (by omega)
        have h1 := hS.form.full _ hm
        have h2 := hS.bd _ hm
        omega
      rw [← hq0] at hr3 hSl ⊢
      have HS := Lib.hid hS
      have HSB := Lib.hid hSb
      have HQ0 := Lib.hid hq0
      have HSR := Lib.hid hr3
      have HB3 := Lib.hid (HB.out.trans (hb3.mono hsw))
      have hs3 : w.heap.size ≤ w3.heap.size := HB3.out.size
      clear hO3 hb3 hr3 hS hSb hq0 HP HM HB HO hb1
      go_wp2
      go_loopw [8, 9] (fun vo vi wr => ∃ (j : Nat) (out : List (Int × Int)), vi = .int .i64 j ∧ j ≤ q0 ∧ out.length ≤ j ∧ Hid (RJoin gap S j out) ∧ Hid (wr.ownsRow w3.heap.size 56 2 vo out.length (spV out)) ∧ Hid (Below w3.heap.size w3 wr)) (fun _ vi _ => q0 - (intOf vi).toNat)
      case atStart => exact ⟨0, [], rfl, Nat.zero_le _, Nat.le_refl _, Lib.hid ⟨.inl ⟨rfl, rfl⟩, fun h => by omega⟩, Lib.hid (World.ownsRow_nil _ _ _ _), Lib.hid (Below.refl _ _)⟩
      case round =>
        obtain ⟨j, out, rfl, hjk, hoj, HJ, HO, HB⟩ := hrel
        have hsw := HB.out.size
        by_cases hlt : j < q0
        · obtain ⟨b9, o9, rfl, _, hc9⟩ := SRow.at (HSR.out.mono HB.out) j hlt
          obtain ⟨hc0, hc1⟩ := hc9 j hlt
          have hjS : j < S.length := by rw [← HQ0.out]; exact hlt
          obtain ⟨x, y, hxy⟩ : ∃ x y, S.getD j (0, 0) = (x, y) := ⟨_, _, rfl⟩
          obtain ⟨m0, m1, m2⟩ := HSB.out j hlt
          rw [hxy] at hc0 hc1 m0 m1 m2
          simp only at hc0 hc1 m0 m1 m2
          have HXY := Lib.hid hxy
          clear hc9 hxy
          by_cases hj0 : j = 0
          · have ho0 : out = [] := List.eq_nil_of_length_eq_zero (by omega)
            subst ho0
            obtain ⟨aO, cO, rfl, _, _⟩ := Row.of_owns HO.out
            have HJ0 := Lib.hid hj0
            clear hj0
            have hd0 : decide ((0 : Int) < 0) = false := rfl
            rw [show ([] : List (Int × Int)).length = 0 from rfl] at HO hoj ⊢
            go_wp2
            go_quiet (fail)
            have hbq : Below wr.heap.size wr (wr.drewN nq) := below_drewN (Below.refl _ _) nq
            have hO2 := ownsRow_keep HO.out hbq
            have k0 := cell?_keep hbq hc0
            have k1 := cell?_keep hbq hc1
            have hBW := HB.out.trans (hbq.mono hsw)
            generalize wr.drewN nq = W at *
            have HO2 := Lib.hid hO2
            have HBW := Lib.hid hBW
            have hszW := hBW.size
            clear hO2 hBW hc0 hc1 hbq
            go_wp2_with (at_builtin; refine append_row ETS rfl (.tmp 62) (.tmp 67) rfl w3.heap.size _ 0 _ rfl (HO2.out.alloc _) _ 1 _ _ rfl (row_new2 _ _ _ _) (spV_one_cell [(x, y)]) (by unfold maxLen; omega) (by omega) (by rw [sizeA]; omega) ?_; intro v' w5 hO5 hg5 hnil5; have HO5 := Lib.hid hO5; have HG5 := Lib.hid hg5; clear hO5 hg5 hnil5)
            go_roundw
            case rel =>
              refine ⟨j + 1, [(x, y)], by go_num, by omega, by simp, ?_, HO5, ?_⟩
              · have h1 := joinAt_first (gap := gap) (S := S) (by omega) (by rw [← HJ0.out]; exact HXY.out) m0 m1 (by omega)
                exact Lib.hid ⟨by rw [HJ0.out]; exact h1, fun _ => ⟨[], x, by rw [Nat.add_sub_cancel, HXY.out]; rfl⟩⟩
              · exact Lib.hid ((HBW.out.alloc hszW _).grown HG5.out (by rw [sizeA]; omega) (fun q hq => (HO2.out.lt q hq).1))
            case measure => simp [intOf]; omega
          · obtain ⟨hJA, hJB⟩ := HJ.out
            obtain ⟨fr0, f0, hout0⟩ := hJB (by omega)
            have hnx := form_next HS.out.form (show j - 1 < j by omega) hjS
            rw [HXY.out] at hnx
            obtain ⟨p0, p1, p2⟩ := HSB.out (j - 1) (by omega)
            rcases hJA with ⟨h0, _⟩ | ⟨front, f, b, n0, n1, n2, rfl, hjoin⟩
            · exact absurd h0 hj0
            obtain ⟨hfr, hfb⟩ := List.append_inj' hout0 rfl
            simp only [List.cons.injEq, Prod.mk.injEq, and_true] at hfb
            obtain ⟨_, hbe⟩ := hfb
            rw [← hbe] at hnx p1 p2
            simp only at hnx
            have hb0 : b ≤ 302 := p2
            obtain ⟨gO, cO, rfl, hgO⟩ := own_shape HO.out (by simp)
            obtain ⟨q, hq⟩ : ∃ q, q = front.length := ⟨_, rfl⟩
            have hql : (front ++ [(f, b)]).length = q + 1 := by rw [hq]; simp
            rw [hql] at hoj HO ⊢
            have hlast : (front ++ [(f, b)]).getD q (0, 0) = (f, b) := by rw [hq]; exact last_get _ _
            have hcell := own_spcell HO.out q (by omega)
            rw [hlast] at hcell
            obtain ⟨_, d1⟩ := hcell
            simp only at d1
            have hgOw : gO < wr.heap.size := (HO.out.lt gO rfl).2
            have HQ := Lib.hid hq
            have HJN := Lib.hid hjoin
            have HLAST := Lib.hid hlast
            have hd0 : decide ((0 : Int) < (q : Int) + 1) = true := by rw [decide_eq_true_iff]; omega
            have hix : (q : Int) + 1 - 1 = (q : Int) := by omega
            have hb1 : 0 ≤ b := by omega
            clear hq hjoin hlast hql hfr hbe hout0 hJB p0 p1 p2 hj0 HJ
            by_cases hc : x - b ≤ gap
            · have hcd : decide (x - b ≤ gap) = true := by simpa using hc
              go_wp2
              go_quiet (fail)
              have hbq : Below wr.heap.size wr (wr.drewN nq) := below_drewN (Below.refl _ _) nq
              have hO2 := ownsRow_keep HO.out hbq
              have k0 := cell?_keep hbq hc0
              have k1 := cell?_keep hbq hc1
              have e1 := cell?_keep hbq d1
              have hBW := HB.out.trans (hbq.mono hsw)
              generalize wr.drewN nq = W at *
              have fr1 := own_freeK hO2 (q * 2 + 1)
              have HO2 := Lib.hid hO2
              have HBW := Lib.hid hBW
              have hszW := hBW.size
              have hql1 : (q : Int) < (q : Int) + 1 := by omega
              clear hO2 hBW hc0 hc1 hbq d1
              go_wp2
              go_roundw
              case rel =>
                refine ⟨j + 1, front ++ [(f, y)], by go_num, by omega, by have := HQ.out; simp; omega, Lib.hid ⟨?_, fun _ => ⟨front, f, by rw [Nat.add_sub_cancel, HXY.out]⟩⟩, Lib.hid ?_, ?_⟩
                · have h1 := joinAt_mrg hjS HXY.out n0 n1 n2 (by omega) hc HJN.out
                  rwa [show max b y = y from by omega] at h1
                · have h5 := own_setK HO2.out (q * 2 + 1) (.int .i64 y)
                  rw [spV_set2 _ q f b y HLAST.out, show (front ++ [(f, b)]).set q (f, y) = front ++ [(f, y)] from by rw [HQ.out, last_set]] at h5
                  rw [show (front ++ [(f, y)]).length = q + 1 from by rw [HQ.out]; simp]
                  exact h5
                · exact Lib.hid (HBW.out.setCell hgO _)
              case measure => simp [intOf]; omega
            · have hcd : decide (x - b ≤ gap) = false := by simpa using hc
              go_wp2
              go_quiet (fail)
              have hbq : Below wr.heap.size wr (wr.drewN nq) := below_drewN (Below.refl _ _) nq
              have hO2 := ownsRow_keep HO.out hbq
              have k0 := cell?_keep hbq hc0
              have k1 := cell?_keep hbq hc1
              have hBW := HB.out.trans (hbq.mono hsw)
              generalize wr.drewN nq = W at *
              have HO2 := Lib.hid hO2
              have HBW := Lib.hid hBW
              have hszW := hBW.size
              clear hO2 hBW hc0 hc1 hbq d1
              go_wp2_with (at_builtin; refine append_row ETS rfl (.tmp 62) (.tmp 67) rfl w3.heap.size _ (q + 1) _ rfl (HO2.out.alloc _) _ 1 _ _ rfl (row_new2 _ _ _ _) (spV_one_cell [(x, y)]) (by unfold maxLen; omega) (by omega) (by rw [sizeA]; omega) ?_; intro v' w5 hO5 hg5 hnil5; have HO5 := Lib.hid hO5; have HG5 := Lib.hid hg5; clear hO5 hg5 hnil5)
              go_roundw
              case rel =>
                refine ⟨j + 1, front ++ [(f, b)] ++ [(x, y)], by go_num, by omega, by have := HQ.out; simp; omega, Lib.hid ⟨joinAt_app hjS HXY.out m0 m1 (by omega) (by omega) HJN.out, fun _ => ⟨front ++ [(f, b)], x, by rw [Nat.add_sub_cancel, HXY.out]⟩⟩, Lib.hid ?_, ?_⟩
                · have h5 := HO5.out
                  rw [show spV (front ++ [(f, b)] ++ [(x, y)]) = spV (front ++ [(f, b)]) ++ spV [(x, y)] from spV_append _ _, show (front ++ [(f, b)] ++ [(x, y)]).length = q + 1 + 1 from by rw [HQ.out]; simp]
                  exact h5
                · exact Lib.hid ((HBW.out.alloc hszW _).grown HG5.out (by rw [sizeA]; omega) (fun q hq => (HO2.out.lt q hq).1))
              case measure => simp [intOf]; omega
        · obtain rfl : j = q0 := by omega
          have HJE := Lib.hid (joinAt_end (by rw [← HQ0.out]; exact HJ.out.1))
          go_wp2
          go_ret
          refine ⟨S, _, HS.out, rfl, ?_, ?_⟩
          · rw [← HJE.out]; exact ownsRow_base HO.out hs3
          · exact HB3.out.trans (HB.out.mono hs3)
end Go.Proofs.Ytbmhdacedicbjaa
