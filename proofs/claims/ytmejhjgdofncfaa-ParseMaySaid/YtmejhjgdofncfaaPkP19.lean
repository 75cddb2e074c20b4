/-
  Our texts PsA to PsB, in one.
-/
import Derived.Test.YtmejhjgdofncfaaPkP18
import Derived.Maps.AppendAt
/-
  Walks of layer 12: the parts of two are sorted by their names.
-/
namespace Go.Proofs.Ytmejhjgdofncfaa
open Go.RowKit Go.Sort

theorem stable_nilQ (fv : Value) (w : World) : Calls Try.prog 40 #[.slice none 0 0, fv] w fun e w' => e = .returned (.tuple #[]) ∧ w = w' := by
  go_enter Try.func40, Try.ntmps40
  go_wp2
  refine wp_loop_once ?_
  go_wp2
  refine wp_loop_once ?_
  go_wp2
  go_end0
  go_wp2
  refine wp_loop_once ?_
  go_wp2
  go_end0
  go_wp2
  go_end0
  exact ⟨rfl, rfl⟩

theorem cmpS_lt {p : List (PV × PV)} {i j : Nat} (h : i < j) : ltOf (fun i j => cmpS p[i]!.1.s p[j]!.1.s) j i = ltI p j i := by
  have hc : ∀ x y : List UInt8, decide (cmpS x y < 0) = sLt x y := fun x y => by
    unfold cmpS
    cases h1 : sLt x y
    · cases h2 : sLt y x <;> simp
    · simp
  show decide (cmpS p[j]!.1.s p[i]!.1.s < 0) = ltI p j i
  rw [hc]
  unfold ltI
  have : decide (j < i) = false := decide_eq_false (by omega)
  rw [this, Bool.and_false, Bool.or_false]

/-- The names stand where the parts say. -/
def Names (w : World) (b off m : Nat) (p : List (PV × PV)) : Prop := ∀ k, k < m → w.cell? ⟨b, off + 2 * k * 4 + 2, none⟩ = some (.string (mkB p[k]!.1.s))
theorem Names.of {w : World} {F : Nat → Prop} {b off cap m : Nat} {l : List PV} {cs : List Value} (hr : Row w 4 (some ⟨b, off, none⟩) (2 * m) cap cs) (h : IsVs w F l cs) (hm : l.length = 2 * m) : Names w b off m (twoV l) := by
  intro k hk
  obtain ⟨x, y, h1, h2, h3⟩ := twoV_at m l hm k hk
  obtain ⟨sl, -, -, -, h4, -⟩ := h.get (2 * k) x h1
  obtain ⟨b', off', e, hb, hc⟩ := hr.2.2.2.2 (by omega)
  cases e
  rw [h3, Nat.add_assoc]
  exact hc _ _ h4
theorem sort_parts {W : World} {B b off m : Nat} {v : Value} {p : List (PV × PV)} (hp : p.length = m) (hO : W.ownsRow B 25 1 v m ((List.range m).map (partC b off))) (hn : Names W b off m p) (hb : b < B) (hm : m ≤ 50000) :
    Calls Try.prog 40 #[v, .func (.func 41) #[] #[]] W fun e w' => e = .returned (.tuple #[]) ∧
      ∃ R : Array Nat, R.size = m ∧ (∀ i, i < m → R[i]! < m) ∧ R.toList.map (fun i => p[i]!) = sortV p ∧ w'.ownsRow B 25 1 v m (R.toList.map (partC b off)) ∧ W.grownBy w' v.ownBlock := by
  rcases hO.2 with ⟨rfl, h0⟩ | ⟨g, cap, cur, rfl, hBg, hg, hnc, hcm, hcs, htk⟩
  · subst h0
    have : p = [] := List.eq_nil_of_length_eq_zero hp
    subst this
    exact (stable_nilQ _ W).mono fun e w' ⟨h1, h2⟩ => ⟨h1, #[], rfl, fun i hi => by omega, rfl, by rw [← h2]; exact hO, by rw [← h2]; exact grownBy_refl W _⟩
  · have hS : SB (partC b off) W g 25 (cur.toList.drop m) (Array.range m) W := by
      refine SB.start hg ?_
      rw [← Nat.mul_one m, htk]
      simp
    have hC : CmpQ Try.prog 41 #[] (partC b off) (fun i j => cmpS p[i]!.1.s p[j]!.1.s) (fun i => i < m) W g := by
      refine ⟨enters_of Try.func41 (by kernel_rfl) rfl, fun W' hgr x y hx hy => ?_⟩
      have hk : ∀ k, k < m → W'.cell? ⟨b, off + 2 * k * 4 + 2, none⟩ = some (.string (mkB p[k]!.1.s)) := fun k hk => by
        have hc := hn k hk
        rw [World.cell?_of_block (w := W) (a := ⟨b, off + 2 * k * 4 + 2, none⟩) (hgr.block b (World.block_lt_of_cell? W _ hc) (fun e => by cases e; omega))]
        exact hc
      exact cmpPair_any (hk x hx) (hk y hy) (by omega) (by omega)
    have hc := stable_anyQ (partC b off) (fun x => ⟨_, _, _, rfl⟩) (fun i j => cmpS p[i]!.1.s p[j]!.1.s) (ltI p) (ltI_swo p) (fun i => i < m) 41 #[] g cap (cur.toList.drop m) (Array.range m) W W hC hS
      (fun i hi => by simp at hi; rw [getElem!_pos _ i (by simpa using hi)]; simpa using hi)
      (fun i j hij hj => by
        simp at hj
        rw [getElem!_pos _ j (by simpa using hj), getElem!_pos _ i (by simp; omega)]
        simp only [Array.getElem_range]
        exact cmpS_lt hij) (by simp; omega)
    rw [show (Array.range m).size = m by simp] at hc
    refine hc.mono fun e w' ⟨he, R, h1, h2, h3⟩ => ⟨he, R, (sorted_perm h2).1, (sorted_perm h2).2, ?_, ?_, h1.grown⟩
    · subst hp
      exact sorted_is p R h2 h3
    · have hz := (sorted_perm h2).1
      refine ⟨by simp [hz], .inr ⟨g, cap, _, rfl, hBg, h1.blk, hnc, hcm, ?_, ?_⟩⟩
      · have : cur.toList.length = cap * 1 := by rw [← hcs]; simp
        simp at this ⊢; omega
      · show List.take (m * 1) _ = _
        have : (R.toList.map (partC b off)).length = m := by simp [hz]
        simp only [List.take_append, this]
        simp only [hz, Nat.mul_one, Nat.sub_self, List.take_zero, List.append_nil]
        exact List.take_of_length_le (by omega)
end Go.Proofs.Ytmejhjgdofncfaa
/-
  Walks of layer 12: names and values in the order of names.
-/
namespace Go.Proofs.Ytmejhjgdofncfaa
open Go.RowKit Go.Shelf Go.Sort
attribute [local go_sem] Oper.semAt_some

theorem EPart : (Try.prog.info? 25).map (fun i => (i.zero, i.size, i.bytes)) = some (some (.slice none 0 0), 1, 24) := by kernel_rfl
/-- What pairs leaves. -/
def PairsEnd (w : World) (F : Nat → Prop) (R : Option (List PV)) (e : Ending) (w' : World) : Prop :=
  Below w.heap.size w w' ∧ match R with
    | none => e = .returned (.tuple #[.slice none 0 0, .int .i64 16])
    | some m => ∃ v cs', e = .returned (.tuple #[v, .int .i64 0]) ∧ w'.ownsRow w.heap.size 27 4 v m.length cs' ∧ IsVs w' F m cs'
theorem put_part {W w1 : World} {base B Bs Bn : Nat} {v v' : Value} {k : Nat} {xs : List Value} {tmp : Obj} (hrow : W.ownsRow base 25 1 v k xs) (hgrow : (W.alloc tmp).grownBy w1 v.ownBlock)
    (h1 : Bs < base) (h2 : Bn < base) (h3 : Bs ≠ B) (h4 : Bn ≠ B) (hb : base ≤ W.heap.size) : Stays (fun c => c = Bs ∨ c = Bn) W (w1.setCell ⟨B, 0, none⟩ v') := by
  have hs := hgrow.size
  rw [sizeA] at hs
  have key : ∀ c, c < base → c ≠ B → (w1.setCell ⟨B, 0, none⟩ v').heap[c]? = W.heap[c]? := fun c hc hcB => by
    rw [heap_setCell_other _ _ _ _ hcB, hgrow.block c (by rw [sizeA]; omega) (fun e => by have := (hrow.lt c e.symm).1; omega)]
    exact Below.heap_alloc W tmp c (by omega)
  refine ⟨by simp [World.setCell]; omega, fun c _ hc => ?_⟩
  rcases hc with rfl | rfl
  · exact key _ h1 h3
  · exact key _ h2 h4

theorem eq_mkB' (a b : List UInt8) : ((mkB a).toList == (mkB b).toList) = decide (a = b) := by
  rw [toList_mkB, toList_mkB]; by_cases h : a = b <;> simp [h]
set_option maxRecDepth 100000 in
set_option maxHeartbeats 8000000 in
theorem pairs_any {w : World} {F : Nat → Prop} {l : List PV} {a : Option Addr} {cap : Nat} {cs : List Value} {m : Nat} (hr : Row w 4 a (2 * m) cap cs) (h : IsVs w F l cs) (hm : 2 * m = l.length) (hl : m ≤ 50000) :
    Calls Try.prog 24 #[.slice a (2 * m) cap] w (PairsEnd w F (pairsV l)) := by
  have hro : Fence.wide.round = none := rfl
  obtain ⟨i0, hi, hz0, hz1, hz2⟩ := info_parts EPart
  have hcap := hr.2.1
  have hcm := hr.2.2.1
  obtain ⟨b, off, hab, hbw⟩ : ∃ b off, (0 < m → a = some ⟨b, off, none⟩) ∧ b < w.heap.size + 1 := by
    rcases Nat.eq_zero_or_pos m with h0 | h0
    · exact ⟨0, 0, fun h => by omega, by omega⟩
    · obtain ⟨b, off, e, hb, _⟩ := hr.2.2.2.2 (by omega)
      exact ⟨b, off, fun _ => e, by omega⟩
  have HR := Lib.hid hr
  have H := Lib.hid h
  have HM := Lib.hid hm
  have HAB := Lib.hid hab
  clear hr h hm hab
  refine (callsIn_wide (n := 5)).1 ?_
  refine callsIn_of_wp_marks Try.func24 rfl trivial ?_ hro
  simp only [Try.ntmps24, List.size_toArray, List.length_cons, List.length_nil, Nat.reduceAdd, Nat.reduceSub, Array.replicate_succ, Array.replicate_zero, List.push_toArray, List.append_toArray, List.nil_append, List.cons_append]
  gi_wp2_with (refine ⟨trivial, ?_⟩; gi_at_call 39; refine (chunk_in trivial _ _ _ _ _).mono ?_; rintro e w' ⟨rfl, rfl⟩)
  have bO := Boxed.new w 74 (.slice none 0 0)
  have bS := Boxed.new (w.alloc (.cells #[.slice none 0 0] 74)) 25 (.slice a (2 * m) cap)
  have bN := Boxed.new ((w.alloc (.cells #[.slice none 0 0] 74)).alloc (.cells #[.slice a (2 * m) cap] 25)) 3 (.int .i64 2)
  simp only [World.size_alloc] at bS bN
  have hB0 := belowA3 w (.cells #[.slice none 0 0] 74) (.cells #[.slice a (2 * m) cap] 25) (.cells #[.int .i64 2] 3)
  have bO' := (bO.alloc (.cells #[.slice a (2 * m) cap] 25)).alloc (.cells #[.int .i64 2] 3)
  have bS' := bS.alloc (.cells #[.int .i64 2] 3)
  obtain ⟨W0, hW0⟩ : ∃ W0 : World, ((w.alloc (.cells #[.slice none 0 0] 74)).alloc (.cells #[.slice a (2 * m) cap] 25)).alloc (.cells #[.int .i64 2] 3) = W0 := ⟨_, rfl⟩
  have hsz : W0.heap.size = w.heap.size + 3 := by rw [← hW0, sizeA, sizeA, sizeA]
  rw [hW0] at bO' bS' bN hB0 ⊢
  clear hW0 bO bS
  refine wpIn_rangeFunc_ownG hro (by omega) (gf := 56) (lb := #[.pointer (some ⟨w.heap.size + 1, 0, none⟩), .pointer (some ⟨w.heap.size + 1 + 1, 0, none⟩)]) rfl trivial (enters_of Try.func56 (by kernel_rfl) rfl)
    (chunk_stops 4 hro (by omega) (w.heap.size + 1) (w.heap.size + 1 + 1) b off m cap a HAB.out hcap hcm W0 (by omega) (by omega) bS'.cell bN.cell) staysK_t (staysK_b (by rintro c (rfl | rfl) <;> omega)) (Below.refl _ _) (fun _ => rfl)
    (fun pre W => (∃ v, Boxed W w.heap.size 74 v ∧ W.ownsRow W0.heap.size 25 1 v pre.length (pre.map (partC b off)) ∧ True) ∧ Below w.heap.size w W ∧ W0.heap.size ≤ W.heap.size)
    (fun _ _ _ => False)
    (OwnFrom.and (Own.from (holdsRow_own W0.heap.size w.heap.size 74 25 1 (fun pre : List Nat => pre.length) (fun pre : List Nat => pre.map (partC b off)) (fun _ _ => True)) _) (OwnFrom.and (ownFrom_below (Nat.le_refl _) (by omega)) (fun s A B row hs hg _ => Nat.le_trans hs hg.size)))
    (fun _ _ _ _ _ hs _ _ => hs)
    ⟨⟨_, bO', World.ownsRow_nil _ _ _ _, trivial⟩, hB0, Nat.le_refl _⟩
    (fun x => { tmps := #[.slice a (2 * m) cap, undef, .slice none 0 0, .int .i64 0, .pointer (some ⟨w.heap.size, 0, none⟩), partC b off x, undef, .slice a (2 * m) cap, .func (.func 56) #[] #[.pointer (some ⟨w.heap.size + 1, 0, none⟩), .pointer (some ⟨w.heap.size + 1 + 1, 0, none⟩)], partC b off x,
      undef, undef, undef, undef, undef, undef, undef, undef, undef, undef, undef, undef, undef, undef, undef, undef, undef, undef, undef, undef, undef, undef, undef, undef, undef, undef, undef, undef, undef, undef], defers := [] }) ?assign ?body ?done ?stop
  case assign =>
    intro l x W K hK
    gi_wp2
    exact hK
  case body =>
    rintro l pre x W ⟨⟨v, hv, hrow, -⟩, hB, hs⟩ hlt
    have hc := hv.cell
    have hle : w.heap.size ≤ W0.heap.size := by omega
    unfold partC
    gi_wp2_with (gi_at_builtin; refine wpListIn_append_own _ rfl _ _ 74 rfl W0.heap.size 25 i0 (.slice none 0 0) 1 24 Try.underlying74 hi hz0 hz1 hz2 rfl (by decide) _ _ _ rfl (hrow.alloc _) ⟨W.heap.size, 0, none⟩ 1 1 [partC b off x] rfl rfl (cell_one_new _ _ _) (by simp [Value.oneCell', partC]) (by unfold maxLen; omega) (by omega) (by simp; omega) ?_; intro v' w1 hown' hgrow _; obtain ⟨g', cap', rfl⟩ := ownsRow_succ hown'; obtain ⟨hv1, hv2, hr2, hk2, hb2⟩ := hv.appended (by decide) (ownsRow_base hrow hle) hB.size (Nat.le_refl _) (ownsRow_base hown' hle) hgrow; have hc1 := hv1.cell; have hf1 := hv1.frozen)
    refine ⟨hk2.from _, put_part hrow hgrow (by omega) (by omega) (by omega) (by omega) hs, ⟨_, hv2, ?_, trivial⟩, hB.trans hb2, ?_⟩
    · rw [List.length_append, List.map_append]
      exact owns_heap hown' fun c hc => heap_setCell_other _ _ _ _ (by have := (hown'.lt c hc).1; intro e; subst e; simp at this; omega)
    · have := hgrow.size
      rw [sizeA] at this
      simp [World.setCell]; omega
  case done =>
    rintro D ys W hD rfl ⟨⟨v, hv, hrow, -⟩, hB, hs⟩ hK
    rw [List.length_range] at hrow
    have hc := hv.cell
    have hp : (twoV l).length = m := twoV_len m l HM.out.symm
    have hnm : Names W b off m (twoV l) := fun k hk => cell?_keep hB (Names.of (cap := cap) (by have := HR.out; rwa [HAB.out (by omega)] at this) H.out HM.out.symm k hk)
    have HNM := Lib.hid hnm
    have HSP := Lib.hid (sort_parts hp hrow hnm (show b < W0.heap.size by omega) hl)
    have hDo : v.ownBlock ≠ some D := fun e => by
      obtain ⟨cs, hc⟩ := owns_type hrow e
      rw [hK] at hc; cases hc
    have hBo : v.ownBlock ≠ some w.heap.size := fun e => by have := (hrow.lt _ e).1; omega
    have HV := Lib.hid hv
    have HDO := Lib.hid hDo
    have HBO := Lib.hid hBo
    have HOW := Lib.hid (fun b h => (hrow.lt b h))
    have HWB := Lib.hid hB
    have HDL := Lib.hid (show D < W.heap.size from (Array.getElem?_eq_some_iff.1 hK).1)
    clear hp hrow hnm hDo hBo hi hz0 hz1 hz2 hbw bN bS' bO' hB0
    gi_wp2_with (refine ⟨trivial, ?_⟩; gi_at_call 40; refine (callsIn_wide.2 HSP.out).mono ?_; rintro e w1 ⟨rfl, R, hR1, hR2, hR3, hO1, hg1⟩)
    refine wpIn_wide.2 ?_
    have HK1 := Lib.hid (show w1.heap[D]? = some (.deferred (some [])) from (hg1.block D HDL.out (fun e => HDO.out e.symm)).trans hK)
    have hc1 : w1.cell? ⟨w.heap.size, 0, none⟩ = some v := (show Boxed w1 w.heap.size 74 v from (hg1.block _ (Boxed.lt HV.out) (fun e => HBO.out e.symm)).trans HV.out).cell
    have HB1 := Lib.hid (HWB.out.grown hg1 HWB.out.size (fun k e => by have := (HOW.out k e).1; omega))
    have HN1 := Lib.hid (show Names w1 b off m (twoV l) from fun k hk => by
      have hc := HNM.out k hk
      rw [World.cell?_of_block (w := W) (a := ⟨b, off + 2 * k * 4 + 2, none⟩) (hg1.block b (World.block_lt_of_cell? W _ hc) (fun e => by have := (HOW.out b e.symm).1; have := World.block_lt_of_cell? w _ (Names.of (cap := cap) (by have := HR.out; rwa [HAB.out (by omega)] at this) H.out HM.out.symm k hk); simp at this; omega))]
      exact hc)
    have HO1 := Lib.hid hO1
    have HR1 := Lib.hid hR1
    have HR2 := Lib.hid hR2
    have HR3 := Lib.hid hR3
    obtain ⟨av, cv, rfl, hv1, hv2⟩ := owns_slice hO1
    clear hv hc hK hR1 hR2 hR3 hO1 hg1 hB hs
    go_wp2
    go_loopw [6] (fun v6 wr => ∃ k : Nat, v6 = .int .i64 k ∧ 1 ≤ k ∧ k ≤ 60000 ∧ (∃ q, w1.drewN q = wr) ∧ Hid (k ≤ m ∨ k = 1) ∧ Hid (∀ i, i + 1 < k → (twoV l)[R[i]!]!.1.s ≠ (twoV l)[R[i + 1]!]!.1.s)) (fun v6 _ => m - (intOf v6).toNat)
    case atStart => exact ⟨1, rfl, Nat.le_refl _, by omega, ⟨0, rfl⟩, .inr rfl, Lib.hid (fun i hi => by omega)⟩
    case round =>
      obtain ⟨k, rfl, hk1, hk2, ⟨q, rfl⟩, HKM, HNE⟩ := hrel
      by_cases hlt : k < m
      · obtain ⟨gb, go, rfl, hgb, hgc⟩ := (Row.of_own HO1.out).2.2.2.2.2 (by omega)
        have hRz : R.size = m := HR1.out
        have hx1 : w1.cell? ⟨gb, go + k, none⟩ = some (partC b off R[k]!) := hgc k _ (by rw [List.getElem?_map, getElem!_pos R k (by omega)]; simp [show k < R.size by omega])
        have hx2 : w1.cell? ⟨gb, go + (k - 1), none⟩ = some (partC b off R[k - 1]!) := hgc (k - 1) _ (by rw [List.getElem?_map, getElem!_pos R (k - 1) (by omega)]; simp [show k - 1 < R.size by omega])
        have hn1 := HN1.out _ (HR2.out k hlt)
        have hn2 := HN1.out _ (HR2.out (k - 1) (by omega))
        have hse := eq_mkB' (twoV l)[R[k]!]!.1.s (twoV l)[R[k - 1]!]!.1.s
        have hkk : k - 1 + 1 = k := by omega
        have HKK := Lib.hid hkk
        have HS1 := Lib.hid (show ∀ j, j + 1 < k + 1 → (twoV l)[R[k]!]!.1.s ≠ (twoV l)[R[k - 1]!]!.1.s → (twoV l)[R[j]!]!.1.s ≠ (twoV l)[R[j + 1]!]!.1.s from fun j hj hne => by
          by_cases e : j + 1 = k
          · have : j = k - 1 := by omega
            subst this
            rw [hkk]; exact Ne.symm hne
          · exact HNE.out j (by omega))
        have HS2 := Lib.hid (show (twoV l)[R[k]!]!.1.s = (twoV l)[R[k - 1]!]!.1.s → pairsV l = none from fun e => by
          unfold pairsV
          rw [if_pos]
          rw [← HR3.out]
          refine (twice_iff _).2 ⟨k - 1, by simp; omega, ?_⟩
          have g : ∀ j, j < m → (R.toList.map fun i => (twoV l)[i]!)[j]! = (twoV l)[R[j]!]! := fun j hj => by
            rw [getElem!_pos _ j (by simp; omega), getElem!_pos R j (by omega)]; simp
          rw [g (k - 1) (by omega), hkk, g k hlt]; exact e.symm)
        unfold partC at hx1 hx2
        generalize (twoV l)[R[k]!]!.1.s = s1 at *
        generalize (twoV l)[R[k - 1]!]!.1.s = s2 at *
        generalize R[k]! = q1 at *
        generalize R[k - 1]! = q2 at *
        have i1 : (0 : Int) ≤ (k : Int) - 1 := by omega
        have i2 : ((k : Int) - 1).toNat = k - 1 := by omega
        have i3 : IntKind.i64.wrap ((k : Int) - 1) = (k : Int) - 1 := IntWalk.i64_in _ (by omega)
        have i4 : (k : Int) < (m : Int) := by omega
        have i5 : (k : Int) - 1 < (m : Int) := by omega
        clear hgc hkk hRz
        by_cases hs : s1 = s2
        · rw [decide_eq_true hs] at hse
          have hnone := HS2.out hs
          have HNONE := Lib.hid hnone
          clear hnone hs HS1 HS2
          go_wp2
          go_quiet (fail)
          go_wp2
          refine ⟨by simp, .inl ⟨_, _, rfl, run_takeDeferred (show (w1.drewN (q + nq)).heap[D]? = _ from HK1.out), ?_⟩⟩
          refine ⟨_, results_tmp2 rfl _ _ _, ?_⟩
          rw [HNONE.out]
          exact ⟨(below_drewN (below_drewN HB1.out q) nq).trans (belowK_b (w := w) (Nat.le_refl _) _ D _ _ (by omega) (show ((w1.drewN q).drewN nq).heap[D]? = _ from HK1.out) rfl rfl), rfl⟩
        · rw [decide_eq_false hs] at hse
          have HS3 := Lib.hid (fun j hj => HS1.out j hj hs)
          clear hs HS1 HS2 HNE
          go_wp2
          go_quiet (fail)
          go_wp2
          go_roundw
          case rel => exact ⟨k + 1, by go_num, by omega, by omega, ⟨q + nq, rfl⟩, .inl (by omega), HS3⟩
          case measure => simp [intOf]; omega
      · have hRz : R.toList.length = m := HR1.out
        have hrow : Row w 4 (some ⟨b, off, none⟩) (2 * m) cap cs := ⟨HR.out.1, hcap, hcm, fun h => (by cases h), fun hn => by
          have h := HR.out.2.2.2.2 hn
          rwa [HAB.out (by omega)] at h⟩
        have hcc := concat_any (w := w1.drewN q) (a := av) (cap := cv) (b := b) (off := off) (n := 2 * m) (c := cap) (qs := R.toList) (cs := cs) (by rw [hRz]; exact (Row.of_own HO1.out).2.mono (below_drewN (Below.refl _ _) q))
          ((hrow.mono HB1.out).mono (below_drewN (Below.refl _ _) q)) H.out.one1 (fun k hk => by
            obtain ⟨i, hi, rfl⟩ := List.getElem_of_mem hk
            have := HR2.out i (by omega)
            rw [getElem!_pos R i (by rw [hRz] at hi; have := HR1.out; omega)] at this
            simp only [Array.getElem_toList]; omega) (by omega)
        rw [hRz] at hcc
        have HCC := Lib.hid hcc
        have HP := Lib.hid (show pairsV l = some (flatV (sortV (twoV l))) by
          unfold pairsV
          rw [if_neg]
          rw [← HR3.out, twice_iff]
          rintro ⟨i, h1, h2⟩
          have h3 : i + 1 < m := by simpa [HR1.out] using h1
          have g : ∀ j, j < m → (R.toList.map fun i => (twoV l)[i]!)[j]! = (twoV l)[R[j]!]! := fun j hj => by
            rw [getElem!_pos _ j (by simp [HR1.out]; omega), getElem!_pos R j (by rw [HR1.out]; omega)]; simp
          rw [g i (by omega), g (i + 1) h3] at h2
          refine HNE.out i ?_ h2
          rcases HKM.out with h | h <;> omega)
        have hkd : decide (k < m) = false := decide_eq_false hlt
        clear hcc hrow hRz hlt
        go_wp2
        refine wpIn_wide.2 ?_
        go_wp2_with (go_at_call 43; refine HCC.out.mono ?_; rintro e w2 ⟨v2, rfl, hO2, hb2⟩)
        have hK2 : w2.heap[D]? = some (.deferred (some [])) := (hb2.block D (lt_of_heap HK1.out)).trans HK1.out
        refine ⟨by simp, .inl ⟨_, _, rfl, run_takeDeferred hK2, ?_⟩⟩
        refine ⟨_, results_tmp2 rfl _ _ _, ?_⟩
        have hbf : RowKit.Below w.heap.size w (w2.putObj D (.deferred none)) := ((below_drewN HB1.out q).trans (hb2.mono (below_drewN HB1.out q).size)).trans (belowK_b (w := w) (Nat.le_refl _) _ D _ _ (by omega) hK2 rfl rfl)
        rw [HP.out]
        refine ⟨hbf, v2, R.toList.flatMap (partX cs), rfl, ?_, ?_⟩
        · rw [flatV_len, ← HR3.out, List.length_map, show R.toList.length = m from HR1.out]
          exact ownsRow_putObj (ownsRow_base hO2 (below_drewN HB1.out q).size) _ hK2 rfl
        · rw [← HR3.out]
          exact parts_all HM.out.symm (H.out.below hbf) R.toList fun k hk => by
            obtain ⟨i, hi, rfl⟩ := List.getElem_of_mem hk
            have := HR2.out i (by have := HR1.out; simp at hi; omega)
            rw [getElem!_pos R i (by simpa using hi)] at this
            simpa using this
  case stop =>
    rintro D c pre W _ _ h _
    exact h.elim
end Go.Proofs.Ytmejhjgdofncfaa
/-
  Walks of layer 12: what was opened last is closed.
-/
namespace Go.Proofs.Ytmejhjgdofncfaa
open Go.RowKit

section
variable {w0 w w' : World} {F F' G : Nat → Prop} {p : Nat} {a : Option Addr} {cap : Nat} {bs : List UInt8} {last : Bool} {st : List Lv} {at_ : Int} {gs : List Nat} {osl : Value}
theorem set4_heap {w : World} {r b : Nat} (h : b ≠ r) (y0 y1 y2 y3 : Value) : ((((w.setCell ⟨r, 0, none⟩ y0).setCell ⟨r, 1, none⟩ y1).setCell ⟨r, 2, none⟩ y2).setCell ⟨r, 3, none⟩ y3).heap[b]? = w.heap[b]? := set4_other h _ _ _ _
theorem set4_size (w : World) (r : Nat) (y0 y1 y2 y3 : Value) : ((((w.setCell ⟨r, 0, none⟩ y0).setCell ⟨r, 1, none⟩ y1).setCell ⟨r, 2, none⟩ y2).setCell ⟨r, 3, none⟩ y3).heap.size = w.heap.size := by simp [World.setCell]
/-- The result is written, in a block of the call's own. -/
theorem Nxt.fin4 {W1 W2 : World} {r : Nat} (h : IsStk w0 w F G p a cap bs last st at_ gs osl) (hb : Below w.heap.size w W1) {st2 : List Lv} {at2 : Int} (N : Nxt w0 W1 F (fun b => G b ∨ b = r) p a cap bs last st2 at2 F' W2) (hr : w.heap.size ≤ r) (y0 y1 y2 y3 : Value) :
    Nxt w0 w F G p a cap bs last st2 at2 F' ((((W2.setCell ⟨r, 0, none⟩ y0).setCell ⟨r, 1, none⟩ y1).setCell ⟨r, 2, none⟩ y2).setCell ⟨r, 3, none⟩ y3) := by
  obtain ⟨gs2, osl2, hs⟩ := N.stk
  have hGl : ∀ b, G b → b < w.heap.size := fun b hb => (h.gb b hb).2
  have hFl : ∀ b, F b → b < w.heap.size := fun b hb => h.Flt hb
  have h1 := hb.size
  have h2 := N.sg.1
  refine ⟨⟨gs2, osl2, (hs.set4 (.inr rfl) _ _ _ _).give fun b hb => .inl hb⟩, ⟨by rw [set4_size]; omega, fun b hb1 hG => ?_⟩, ⟨by rw [set4_size]; omega, fun b hb1 hf => ?_⟩, N.ff⟩
  · rw [set4_heap (by have := hGl b hG; omega), N.sg.2 b (by omega) (.inl hG), hb.block b hb1]
  · rw [set4_heap (by have := hFl b hf; omega), N.sf.2 b (by omega) hf, hb.block b hb1]
theorem IsV.fin4 {W2 : World} {r : Nat} {st2 : List Lv} {at2 : Int} {v : PV} {sl : Value} (h : IsV W2 F' v sl) (N : Stk w0 W2 F' (fun b => G b ∨ b = r) p a cap bs last st2 at2) (y0 y1 y2 y3 : Value) :
    IsV ((((W2.setCell ⟨r, 0, none⟩ y0).setCell ⟨r, 1, none⟩ y1).setCell ⟨r, 2, none⟩ y2).setCell ⟨r, 3, none⟩ y3) F' v sl := by
  obtain ⟨gs2, osl2, hs⟩ := N
  exact IsV.keep ⟨by rw [set4_size]; exact Nat.le_refl _, fun b _ hf => set4_heap (fun e => (hs.fb b hf).2.1 (.inr e)) _ _ _ _⟩ (fun _ h => h) v h
theorem Nxt.drew {W : World} (N : Nxt w0 w F G p a cap bs last st at_ F' W) : Nxt w0 w F G p a cap bs last st at_ F' W.drew := by
  obtain ⟨gs2, osl2, hs⟩ := N.stk
  exact ⟨⟨gs2, osl2, hs.drewN 1⟩, N.sg, N.sf, N.ff⟩
theorem Nxt.weak {W : World} {F1 : Nat → Prop} (N : Nxt w0 w F1 G p a cap bs last st at_ F' W) (hF : ∀ b, F b → F1 b) : Nxt w0 w F G p a cap bs last st at_ F' W :=
  ⟨N.stk, N.sg, ⟨N.sf.1, fun b hb hf => N.sf.2 b hb (hF b hf)⟩, fun b hb => N.ff b (hF b hb)⟩
/-- A whole array, or dictionary. -/
theorem IsV.of_owns {W : World} {base : Nat} {v : PV} {sl : Value} {cs : List Value} (hO : W.ownsRow base 27 4 sl v.l.length cs) (h : IsVs W F v.l cs) (hF : ∀ b, sl.ownBlock = some b → F b) : IsV W F v sl := by
  obtain ⟨a, c, rfl, hr, -⟩ := Row.of_owns hO
  refine IsV.mk hr (fun hn x hx => ?_) h
  subst hx
  rcases hO.2 with ⟨e, -⟩ | ⟨g, cap, cur, e, -⟩
  · cases e
  · cases e; exact hF g rfl
theorem IsStk.popA {v : Lv} {g : Nat} {t : List Nat} {ao : Option Addr} {oc : Nat} {sl : Value} (h : IsStk w0 w F G p a cap bs last (v :: st) at_ (g :: t) (.slice ao (st.length + 1) oc)) (hg : w.heap[g]? = some (.cells #[.bool v.dict, sl] 48 (0, 0))) :
    ∃ F', Nxt w0 w F G p a cap bs last st at_ F' (w.setCell ⟨p, 3, none⟩ (.slice ao st.length oc)) ∧ IsV (w.setCell ⟨p, 3, none⟩ (.slice ao st.length oc)) F' (.mk 6 0 [] v.l) sl := by
  obtain ⟨F', sl', hF, ⟨g', t', cs, h1, h2, h3, h4, h5⟩, N⟩ := h.pop rfl
  simp only [List.cons.injEq] at h1
  obtain ⟨rfl, rfl⟩ := h1
  rw [hg] at h2
  obtain rfl : sl = sl' := by simpa using h2
  refine ⟨F', N, IsV.of_owns (v := .mk 6 0 [] v.l) (base := w0.heap.size) (cs := cs) (owns_heap h3 fun b hb => ?_) (IsVs.keep ⟨by simp [World.setCell], fun b _ hf => ?_⟩ (fun _ h => h) _ h4) h5⟩
  · exact heap_setCell_other _ _ _ _ (by obtain ⟨ds, hc⟩ := owns_type h3 hb; exact type_ne hc h.blk (by decide))
  · obtain ⟨gs2, osl2, hs⟩ := N.stk
    exact heap_setCell_other _ _ _ _ (hs.notF hf)
theorem IsV.drew {W : World} {v : PV} {sl : Value} (h : IsV W F v sl) : IsV W.drew F v sl := IsV.below h (below_drewN (Below.refl _ _) 1)
theorem IsStk.popD {v : Lv} {ao : Option Addr} {oc : Nat} {v' : PV} {sl : Value} (h : IsStk w0 w F G p a cap bs last (v :: st) at_ gs (.slice ao (st.length + 1) oc)) (hv : IsV w F v' sl) :
    ∃ F', Nxt w0 w F G p a cap bs last st at_ F' (w.setCell ⟨p, 3, none⟩ (.slice ao st.length oc)) ∧ IsV (w.setCell ⟨p, 3, none⟩ (.slice ao st.length oc)) F' v' sl := by
  obtain ⟨F', sl', hF, -, N⟩ := h.pop rfl
  exact ⟨F', N, IsV.keep N.sf hF _ hv⟩
theorem IsStk.lastV {v : Lv} {g : Nat} {t : List Nat} {sl : Value} (h : IsStk w0 w F G p a cap bs last (v :: st) at_ (g :: t) osl) (hg : w.heap[g]? = some (.cells #[.bool v.dict, sl] 48 (0, 0))) :
    ∃ cs, w.ownsRow w0.heap.size 27 4 sl v.l.length cs ∧ IsVs w F v.l cs := by
  obtain ⟨g', t', sl', cs, h1, h2, h3, h4, h5, h6, -⟩ := h.lvs
  simp only [List.cons.injEq] at h1
  obtain ⟨rfl, rfl⟩ := h1
  rw [hg] at h4
  obtain rfl : sl = sl' := by simpa using h4
  exact ⟨cs, h5, h6⟩
/-- A new row of values that is whole. -/
theorem IsStk.gain {W3 : World} {m : List PV} {v3 : Value} {cs : List Value} (h : IsStk w0 w F G p a cap bs last st at_ gs osl) (hb : Below w.heap.size w W3) (hO : W3.ownsRow w.heap.size 27 4 v3 m.length cs) (hV : IsVs W3 F m cs) :
    IsStk w0 W3 (fun b => F b ∨ v3.ownBlock = some b) G p a cap bs last st at_ gs osl ∧ IsV W3 (fun b => F b ∨ v3.ownBlock = some b) (.mk 7 0 [] m) v3 := by
  refine ⟨h.frame' (keeps_below hb) (fun b hb => .inl hb) (fun b hb => .inl hb) (fun b hb' => ?_), IsV.of_owns (v := .mk 7 0 [] m) hO (hV.weaken fun b hb => .inl hb) fun b hb => .inr hb⟩
  rcases hb' with h1 | h1
  · exact .inl h1
  · refine .inr ⟨(hO.lt b h1).1, fun hG => ?_, owns_type hO h1⟩
    have h2 := (h.gb b hG).2
    have h3 := (hO.lt b h1).1
    omega
def EndEnd (w0 w : World) (F G : Nat → Prop) (p : Nat) (a : Option Addr) (cap : Nat) (bs : List UInt8) (last : Bool) (at_ : Int) (R : PV × List Lv × Int) (e : Ending) (w' : World) : Prop :=
  ∃ F' sl, e = .returned (.tuple #[pvA R.1 sl, .int .i64 R.2.2]) ∧ IsV w' F' R.1 sl ∧ Nxt w0 w F G p a cap bs last R.2.1 at_ F' w'

set_option maxRecDepth 8000 in
set_option maxHeartbeats 8000000 in
theorem end_any (h : IsStk w0 w F G p a cap bs last st at_ gs osl) (d : Bool) (hlen : ∀ v ∈ st, v.l.length ≤ 100000) : Calls Try.prog 17 #[.pointer (some ⟨p, 0, none⟩), .bool d] w (EndEnd w0 w F G p a cap bs last at_ (endV12 st d)) := by
  obtain ⟨R, hR⟩ : ∃ R, R = endV12 st d := ⟨_, rfl⟩
  rw [← hR]
  have HR := Lib.hid hR
  have HS := Lib.hid h
  obtain ⟨r, hr⟩ : ∃ r, r = w.heap.size := ⟨_, rfl⟩
  have HRR := Lib.hid hr
  have hrl : r < (w.alloc (.cells #[.int .i64 0, .int .i64 0, .string ⟨#[]⟩, .slice none 0 0] 27)).heap.size := by rw [sizeA]; omega
  have h1 := h.res (G' := fun b => G b ∨ b = r) (belowA w (.cells #[.int .i64 0, .int .i64 0, .string ⟨#[]⟩, .slice none 0 0] 27)) (fun b hb => hb.imp id fun e => by rw [e]; exact ⟨Nat.le_of_eq hr.symm, hrl⟩)
  have hr4 := heapA_new (w := w) (b := r) (.cells #[.int .i64 0, .int .i64 0, .string ⟨#[]⟩, .slice none 0 0] 27) hr
  have HW := Lib.hid (belowA w (.cells #[.int .i64 0, .int .i64 0, .string ⟨#[]⟩, .slice none 0 0] 27))
  have hpr : p ≠ r := by have := h.lt; omega
  clear h hR hrl
  go_enter Try.func17, Try.ntmps17
  go_wp2_with fail
  rw [← hr]
  generalize w.alloc _ = W1 at *
  have HTOP := Lib.hid (top_any h1)
  have HS1 := Lib.hid h1
  have HR4 := Lib.hid hr4
  clear hr h1 hr4
  refine HTOP.out.mono ?_
  rintro e w1 ⟨rfl, q, rfl⟩
  have HS2 := Lib.hid (HS1.out.drewN q)
  have HW2 := Lib.hid (below_drewN HW.out q)
  have HR2 := Lib.hid (show (W1.drewN q).heap[r]? = _ from HR4.out)
  clear HS1 HW HR4 HTOP
  generalize W1.drewN q = W2 at *
  have hbad : R = (PV.none, st, 11) → ∀ y0 y1 y2 y3 : Value, (y0 = .int .i64 0 ∧ y1 = .int .i64 0 ∧ y2 = .string ⟨#[]⟩ ∧ y3 = .slice none 0 0) → EndEnd w0 w F G p a cap bs last at_ R (.returned (.tuple #[.agg #[y0, y1, y2, y3], .int .i64 11])) ((((W2.setCell ⟨r, 0, none⟩ y0).setCell ⟨r, 1, none⟩ y1).setCell ⟨r, 2, none⟩ y2).setCell ⟨r, 3, none⟩ y3) := by
    rintro e y0 y1 y2 y3 ⟨rfl, rfl, rfl, rfl⟩
    rw [e]
    exact ⟨F, .slice none 0 0, rfl, IsV.leaf _ _ _ rfl, Nxt.fin4 HS.out HW2.out (Nxt.refl HS2.out (Below.refl _ _)) (Nat.le_of_eq HRR.out.symm) _ _ _ _⟩
  have HBAD := Lib.hid hbad
  obtain ⟨⟨q0, q1, q2, q3⟩, n0, n1, n2, n3⟩ := cells4 HR2.out
  clear hbad
  rcases HS2.out.top with ⟨rfl, rfl⟩ | ⟨v, st', g, t', sa, sc, rfl, rfl, h1, h2, h3⟩
  · unfold topP
    go_wp2
    refine bodyPost_ret (results_val rfl _ _ r 27 _ (0, 0) _ rfl (by exact set4 HR2.out _ _ _ _) Try.underlying27 rfl (by exact infoPV) _ rfl) rfl ?_
    exact HBAD.out HR.out _ _ _ _ ⟨rfl, rfl, rfl, rfl⟩
  · obtain ⟨k0, k1⟩ : W2.cell? ⟨g, 0, none⟩ = some (.bool v.dict) ∧ W2.cell? ⟨g, 1, none⟩ = some (.slice sa v.l.length sc) := ⟨by rw [cell_of_row W2 g 0 _ _ _ h3]; rfl, by rw [cell_of_row W2 g 1 _ _ _ h3]; rfl⟩
    have HWT := Lib.hid (wants_any h3 (by omega))
    have hR := HR.out
    unfold endV12 at hR
    simp only at hR
    have HG := Lib.hid h3
    unfold topP
    have HWV := Lib.hid (show wantsV v = (v.dict && v.l.length % 2 == 0) from rfl)
    have HLE := Lib.hid (hlen v List.mem_cons_self)
    have hgp : g ≠ p := fun e => by subst e; have := HS2.out.blk; rw [h3] at this; simp at this
    by_cases hdd : v.dict = d
    case neg =>
      have HB2 := Lib.hid (HBAD.out (hR.trans (if_pos (.inl hdd))))
      have e1 : (v.dict == d) = false := by rw [beq_eq_false_iff_ne]; exact hdd
      have e2 : (v.dict != d) = true := by simp only [bne, e1, Bool.not_false]
      generalize v.dict = vd at *
      clear hR hdd h1 h2 h3 hlen HBAD
      go_wp2
      refine bodyPost_ret (results_val rfl _ _ r 27 _ (0, 0) _ rfl (by exact set4 HR2.out _ _ _ _) Try.underlying27 rfl (by exact infoPV) _ rfl) rfl ?_
      exact HB2.out _ _ _ _ ⟨rfl, rfl, rfl, rfl⟩
    subst hdd
    obtain ⟨ao, oc, rfl, ho1, ho2⟩ := owns_slice HS2.out.own
    obtain ⟨⟨c0, c1, c2, c3⟩, f0, f1, f2, f3⟩ := HS2.out.cells
    simp only [List.length_cons] at c3 ho1
    have hdp : st'.length ≤ 63 := by have := HS2.out.deep; simp at this; omega
    have HPG := Lib.hid hgp
    obtain ⟨vd, hvd⟩ : ∃ vd, vd = v.dict := ⟨_, rfl⟩
    rw [← hvd] at k0 HWT HWV hR
    rw [← hvd] at HG
    rw [← hvd]
    have HVD := Lib.hid hvd
    clear hvd h3 hlen
    cases vd with
    | false =>
      have HR5 := Lib.hid ((hR.trans (if_neg (by rintro (h | ⟨h, -⟩); exact h rfl; cases h))).trans (if_pos rfl))
      have i1 : (0 : Int) ≤ (st'.length : Int) + 1 - 1 := by omega
      have i2 : ((st'.length : Int) + 1 - 1).toNat = st'.length := by omega
      have i3 : IntKind.i64.wrap ((st'.length : Int) + 1 - 1) = (st'.length : Int) := by rw [IntWalk.i64_in _ (by omega)]; omega
      have i4 : (st'.length : Int) ≤ (oc : Int) := by omega
      have i5 : (0 : Int) ≤ (st'.length : Int) := by omega
      have i6 : (st'.length : Int).toNat = st'.length := by omega
      clear hR HBAD HWT
      obtain ⟨F', hN, hV⟩ := HS2.out.popA (by rw [← HVD.out]; exact HG.out)
      have hpg : p ≠ g := Ne.symm hgp
      have HRX := Lib.hid (show (W2.setCell ⟨p, 3, none⟩ (.slice ao st'.length oc)).heap[r]? = _ from (heap_setCell_other W2 ⟨p, 3, none⟩ r _ (Ne.symm hpr)).trans HR2.out)
      have HND := Lib.hid hN
      have HVD2 := Lib.hid hV
      clear hN hV
      go_wp2
      go_region
      all_goals
        go_wp2
        refine bodyPost_ret (results_val rfl _ _ r 27 _ (0, 0) _ rfl (by exact set4 HRX.out _ _ _ _) Try.underlying27 rfl (by exact infoPV) _ rfl) rfl ?_
        rw [HR5.out]
        exact ⟨F', _, rfl, (IsV.fin4 HVD2.out HND.out.stk _ _ _ _).drew, (Nxt.fin4 HS.out HW2.out HND.out (Nat.le_of_eq HRR.out.symm) _ _ _ _).drew⟩
    | true =>
      cases hev : (v.l.length % 2 == 0)
      · rw [hev, Bool.and_false] at HWT HWV
        have HB2 := Lib.hid (HBAD.out (hR.trans (if_pos (.inr ⟨rfl, HWV.out⟩))))
        clear hR HBAD h1 h2 hev
        go_wp2_with (go_at_call 23; refine HWT.out.mono ?_; rintro e w' ⟨rfl, rfl⟩)
        refine bodyPost_ret (results_val rfl _ _ r 27 _ (0, 0) _ rfl (by exact set4 HR2.out _ _ _ _) Try.underlying27 rfl (by exact infoPV) _ rfl) rfl ?_
        exact HB2.out _ _ _ _ ⟨rfl, rfl, rfl, rfl⟩
      · rw [hev, Bool.and_true] at HWT HWV
        have hR6 := (hR.trans (if_neg (by rintro (h | ⟨-, h⟩); exact h rfl; rw [HWV.out] at h; cases h))).trans (if_neg (by decide))
        have HR6 := Lib.hid hR6
        obtain ⟨m, hm⟩ : ∃ m, 2 * m = v.l.length := ⟨v.l.length / 2, by simp at hev; omega⟩
        obtain ⟨cs, hO, hVs⟩ := HS2.out.lastV (by rw [← HVD.out]; exact HG.out)
        have HP := Lib.hid (pairs_any (m := m) (by rw [hm]; exact (Row.of_own hO).2) hVs hm (by have := HLE.out; omega))
        rw [← hm] at k1
        have i1 : (0 : Int) ≤ (st'.length : Int) + 1 - 1 := by omega
        have i2 : ((st'.length : Int) + 1 - 1).toNat = st'.length := by omega
        have i3 : IntKind.i64.wrap ((st'.length : Int) + 1 - 1) = (st'.length : Int) := by rw [IntWalk.i64_in _ (by omega)]; omega
        have i4 : (st'.length : Int) ≤ (oc : Int) := by omega
        have i5 : (0 : Int) ≤ (st'.length : Int) := by omega
        have i6 : (st'.length : Int).toNat = st'.length := by omega
        have HRP := Lib.hid (show r ≠ p from Ne.symm hpr)
        clear hR HBAD h1 h2 hev hm hO hVs
        cases hpv : pairsV v.l with
        | none =>
          rw [hpv] at hR6 HP
          have HR7 := Lib.hid hR6
          clear hR6 hpv HR6
          go_wp2_with (first
            | (go_at_call 23; refine HWT.out.mono ?_; rintro e w' ⟨rfl, rfl⟩)
            | (go_at_call 24; refine HP.out.mono ?_; rintro e w3 ⟨hb3, rfl⟩; have HB3 := Lib.hid hb3; have HR23 := Lib.hid (block_keep hb3 HR2.out); clear hb3 q0 q1 q2 q3 n0 n1 n2 n3 k0 k1 c0 c1 c2 c3 f0 f1 f2 f3; obtain ⟨⟨q0, q1, q2, q3⟩, n0, n1, n2, n3⟩ := cells4 HR23.out))
          refine bodyPost_ret (results_val rfl _ _ r 27 _ (0, 0) _ rfl (by exact set4 HR23.out _ _ _ _) Try.underlying27 rfl (by exact infoPV) _ rfl) rfl ?_
          rw [HR7.out]
          exact ⟨F, .slice none 0 0, rfl, IsV.leaf _ _ _ rfl, Nxt.fin4 HS.out HW2.out (Nxt.refl HS2.out HB3.out) (Nat.le_of_eq HRR.out.symm) _ _ _ _⟩
        | some m2 =>
          rw [hpv] at hR6 HP
          have HR7 := Lib.hid hR6
          clear hR6 hpv HR6
          go_wp2_with (first
            | (go_at_call 23; refine HWT.out.mono ?_; rintro e w' ⟨rfl, rfl⟩)
            | (go_at_call 24; refine HP.out.mono ?_; rintro e w3 ⟨hb3, v3, cs3, rfl, hO3, hV3⟩; obtain ⟨a3, cap3, rfl, -, -⟩ := owns_slice hO3; obtain ⟨hS3, hD3⟩ := HS2.out.gain hb3 hO3 hV3; obtain ⟨F', hN4, hV4⟩ := hS3.popD hD3; have HB3 := Lib.hid hb3; have HND := Lib.hid hN4; have HVD2 := Lib.hid hV4; have HRX := Lib.hid (show (w3.setCell ⟨p, 3, none⟩ (.slice ao st'.length oc)).heap[r]? = _ from (heap_setCell_other w3 ⟨p, 3, none⟩ r _ (Ne.symm hpr)).trans (block_keep hb3 HR2.out)); have HS3 := Lib.hid hS3; have HR23 := Lib.hid (block_keep hb3 HR2.out); clear hb3 hO3 hV3 hS3 hD3 hN4 hV4 q0 q1 q2 q3 n0 n1 n2 n3 k0 k1 c0 c1 c2 c3 f0 f1 f2 f3; obtain ⟨⟨q0, q1, q2, q3⟩, n0, n1, n2, n3⟩ := cells4 HR23.out; obtain ⟨⟨c0, c1, c2, c3⟩, f0, f1, f2, f3⟩ := HS3.out.cells; simp only [List.length_cons] at c3))
          go_region
          all_goals
            go_wp2
            refine bodyPost_ret (results_val rfl _ _ r 27 _ (0, 0) _ rfl (by exact set4 HRX.out _ _ _ _) Try.underlying27 rfl (by exact infoPV) _ rfl) rfl ?_
            rw [HR7.out]
            exact ⟨F', _, rfl, (IsV.fin4 HVD2.out HND.out.stk _ _ _ _).drew, (Nxt.fin4 HS.out (HW2.out.trans (HB3.out.mono HW2.out.size)) (HND.out.weak fun b hb => .inl hb) (Nat.le_of_eq HRR.out.symm) _ _ _ _).drew⟩
end
end Go.Proofs.Ytmejhjgdofncfaa
