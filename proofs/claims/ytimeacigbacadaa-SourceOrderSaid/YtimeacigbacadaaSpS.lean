/-
  Walks of layer 2: how two spans stand; a row of spans, sorted.
-/
import Derived.Test.YtimeacigbacadaaSpV
import Derived.Test.YtimeacigbacadaaCmp
import Derived.StillTailTactics
namespace Go.Proofs.Ytimeacigbacadaa
open Go.RowKit Go.Sort

set_option maxHeartbeats 400000 in
theorem or2_any (b : Nat) (x y : Int) (w : World) (h0 : w.cell? ⟨b, 0, none⟩ = some (.int .i64 x)) (h1 : w.cell? ⟨b, 1, none⟩ = some (.int .i64 y)) :
    Calls Try.prog 43 #[.slice (some ⟨b, 0, none⟩) 2 2] w fun e w' => e = .returned (.int .i64 (if x ≠ 0 then x else y)) ∧ w = w' := by
  by_cases hx : x = 0
  · have hx2 : (x == 0) = true := by rw [beq_iff_eq]; exact hx
    have HX := Lib.hid hx
    by_cases hy : y = 0
    · have HY := Lib.hid hy
      subst hx hy
      go_enter Try.func43, Try.ntmps43
      go_wp2
      refine wp_loop_rounds 3 ?_
      rw [rounds_succ]
      go_wp2
      rw [rounds_succ]
      go_wp2
      rw [rounds_succ]
      go_wp2
      go_ret
      exact ⟨rfl, rfl⟩
    · have hy2 : (y == 0) = false := by rw [beq_eq_false_iff_ne]; exact hy
      subst hx
      go_enter Try.func43, Try.ntmps43
      go_wp2
      refine wp_loop_rounds 3 ?_
      rw [rounds_succ]
      go_wp2
      rw [rounds_succ]
      go_wp2
      go_ret
      exact ⟨rfl, rfl⟩
  · have hx2 : (x == 0) = false := by rw [beq_eq_false_iff_ne]; exact hx
    go_enter Try.func43, Try.ntmps43
    go_wp2
    refine wp_loop_rounds 3 ?_
    rw [rounds_succ]
    go_wp2
    go_ret
    exact ⟨rfl, rfl⟩

theorem cmpI_eq (x y : Int) : cmpI x y = cmpI2 x y := rfl

set_option maxRecDepth 4000 in
set_option maxHeartbeats 1000000 in
theorem before_any (x y : Int × Int) (w : World) :
    Calls Try.prog 39 #[.agg #[.int .i64 x.1, .int .i64 x.2], .agg #[.int .i64 y.1, .int .i64 y.2]] w fun e w' => e = .returned (.int .i64 (cmpS x y)) ∧ ∃ q os', w' = grow (w.drewN q) os' := by
  have hv : cmpS x y = if cmpI x.1 y.1 ≠ 0 then cmpI x.1 y.1 else cmpI x.2 y.2 := rfl
  have h1 := fun W => compare_any x.1 y.1 W
  have h2 := fun W => compare_any x.2 y.2 W
  have HV := Lib.hid hv
  have H1 := Lib.hid h1
  have H2 := Lib.hid h2
  clear hv h1 h2
  generalize cmpI x.1 y.1 = c at *
  generalize cmpI x.2 y.2 = d at *
  generalize x.1 = x1 at *
  generalize x.2 = x2 at *
  generalize y.1 = y1 at *
  generalize y.2 = y2 at *
  have hA : ((w.alloc (.cells #[.int .i64 x1, .int .i64 x2] 23)).alloc (.cells #[.int .i64 y1, .int .i64 y2] 23)).heap[w.heap.size]? = some (.cells #[.int .i64 x1, .int .i64 x2] 23 (0, 0)) := heapA_old _ (heapA_new _ rfl)
  have hB : ((w.alloc (.cells #[.int .i64 x1, .int .i64 x2] 23)).alloc (.cells #[.int .i64 y1, .int .i64 y2] 23)).heap[w.heap.size + 1]? = some (.cells #[.int .i64 y1, .int .i64 y2] 23 (0, 0)) := heapA_new _ (by rw [sizeA])
  go_enter Try.func39, Try.ntmps39
  go_wp2
  generalize hW : ((w.alloc (.cells #[.int .i64 x1, .int .i64 x2] 23)).alloc (.cells #[.int .i64 y1, .int .i64 y2] 23)) = W at *
  have HW := Lib.hid hW
  have a0 : W.cell? ⟨w.heap.size, 0, none⟩ = some (.int .i64 x1) := by rw [cell_of_row W _ 0 _ _ _ hA]; rfl
  have a1 : W.cell? ⟨w.heap.size, 1, none⟩ = some (.int .i64 x2) := by rw [cell_of_row W _ 1 _ _ _ hA]; rfl
  have b0 : W.cell? ⟨w.heap.size + 1, 0, none⟩ = some (.int .i64 y1) := by rw [cell_of_row W _ 0 _ _ _ hB]; rfl
  have b1 : W.cell? ⟨w.heap.size + 1, 1, none⟩ = some (.int .i64 y2) := by rw [cell_of_row W _ 1 _ _ _ hB]; rfl
  clear hW hA hB
  refine wp_region_still_tail 10 (by kernel_rfl) (by kernel_rfl) ?_
  simp only [List.take_succ_cons, List.take_zero, List.drop_succ_cons, List.drop_zero]
  repeat still_step
  still_call ((H1.out _).mono fun e w' ⟨he, hw⟩ => ⟨he, hw.symm⟩)
  repeat still_step
  still_call ((H2.out _).mono fun e w' ⟨he, hw⟩ => ⟨he, hw.symm⟩)
  repeat still_step
  refine wpStill_nil ?_
  change wpList _ _ _ _ _ (W.drewN 1)
  clear a0 a1 b0 b1
  go_wp2_with fail
  have k0 : ((W.drewN 1).alloc (.cells #[.int .i64 c, .int .i64 d] 3)).cell? ⟨W.heap.size, 0, none⟩ = some (.int .i64 c) := (cell_of_row ((W.drewN 1).alloc _) W.heap.size 0 _ _ _ (heapA_new (w := W.drewN 1) _ rfl)).trans rfl
  have k1 : ((W.drewN 1).alloc (.cells #[.int .i64 c, .int .i64 d] 3)).cell? ⟨W.heap.size, 1, none⟩ = some (.int .i64 d) := (cell_of_row ((W.drewN 1).alloc _) W.heap.size 1 _ _ _ (heapA_new (w := W.drewN 1) _ rfl)).trans rfl
  refine (or2_any _ c d _ k0 k1).mono ?_
  rintro e w' ⟨rfl, rfl⟩
  clear k0 k1
  generalize hr : (if c ≠ 0 then c else d) = r at *
  have HR := Lib.hid hr
  clear hr
  go_wp2
  go_ret
  refine ⟨congrArg (fun x => Ending.returned (.int .i64 x)) HV.out.symm, 1, #[.cells #[.int .i64 x1, .int .i64 x2] 23, .cells #[.int .i64 y1, .int .i64 y2] 23, .cells #[.int .i64 c, .int .i64 d] 3], ?_⟩
  rw [← HW.out]
  show (((w.drewN 1).alloc _).alloc _).alloc _ = _
  rw [alloc_eq_grow, alloc_eq_grow, alloc_eq_grow, grow_grow, grow_grow]
  rfl

theorem putCells_take (F cur : Array Value) (h : F.size ≤ cur.size) : (putCells id 0 F cur).toList.take F.size = F.toList := by
  apply List.ext_getElem?
  intro i
  rw [List.getElem?_take]
  by_cases hi : i < F.size
  · have h2 : i < cur.size := by omega
    rw [if_pos hi]
    simp [putCells, hi, h2]
  · rw [if_neg hi, List.getElem?_eq_none (by simpa using Nat.not_lt.1 hi)]

/-- The library's sort of a row of spans of the call's own. -/
theorem sort_any (base g n cap : Nat) (L : List (Int × Int)) (w : World) (h : w.ownsRow base 23 2 (.slice (some ⟨g, 0, none⟩) n cap) n (spV L)) (hn : n < 4611686018427387904) :
    Calls Try.prog 38 #[.slice (some ⟨g, 0, none⟩) n cap, .func (.func 39) #[] #[]] w fun e w' =>
      e = .returned (.tuple #[]) ∧ ∃ L' : List (Int × Int), L'.Perm L ∧ L'.Pairwise (fun x y => x.1 ≤ y.1) ∧ w'.ownsRow base 23 2 (.slice (some ⟨g, 0, none⟩) n cap) n (spV L') ∧ w.grownBy w' (some g) := by
  obtain ⟨h1, h2⟩ := h
  rcases h2 with ⟨h3, _⟩ | ⟨g', cap', cur, hv, hbg, hg, hle, hcm, hcs, htk⟩
  · cases h3
  simp only [Value.slice.injEq, Option.some.injEq, Addr.mk.injEq] at hv
  obtain ⟨⟨rfl, _, _⟩, -, rfl⟩ := hv
  have hl : L.length = n := by rw [spV_len] at h1; omega
  have hblk : g < w.heap.size := (Array.getElem?_eq_some_iff.1 hg).1
  have hH : HoldsK encSp 2 w g 0 L.toArray := by
    intro j hj
    have hj2 : j < L.length * 2 := by simpa using hj
    have hf : (flatK encSp 2 L.toArray)[j]! = (spV L)[j]'(by rw [spV_len]; exact hj2) := by
      rw [getElem!_pos _ j hj]
      have := flat_spV L
      rw [← Array.getElem_toList]
      simp only [this]
    refine ⟨?_, frozen_of_row w g _ _ _ hg⟩
    rw [Nat.zero_add, cell_of_row w g j cur _ (0, 0) hg, id, hf]
    have h5 : cur.toList[j]? = some ((spV L)[j]'(by rw [spV_len]; exact hj2)) := by
      have : (cur.toList.take (n * 2))[j]? = (spV L)[j]? := by rw [htk]
      rw [List.getElem?_take, if_pos (by omega)] at this
      rw [this, List.getElem?_eq_getElem]
    simpa using h5
  have eg : ∀ args w, (callFunc 39 args).run Try.prog w = .ok (.enter 39 args) w := enters_of Try.func39 (by kernel_rfl) rfl
  have hcmp : CmpLays Try.prog 39 #[] encSp 2 cmpS g 0 L.toArray.size w := fun _ _ _ _ x y => before_any x y _
  have hcon := AnyQ.slices_SortFunc Try.sortSpan 2 Try.isAgg23 Try.sizeOf23 encSp (fun _ => rfl) (fun x v hv => by simp [encSp] at hv; rcases hv with rfl | rfl <;> rfl) cmpS swoS 39 #[] g 0 cap L.toArray w eg hcmp hH hblk (by simpa [hl] using hn)
  change Calls Try.prog 38 _ _ _ at hcon
  have es : L.toArray.size = n := by simpa using hl
  rw [es] at hcon
  refine hcon.mono ?_
  rintro e w' ⟨rfl, d', m, os, hp, hs, rfl⟩
  obtain ⟨L', rfl⟩ : ∃ L' : List (Int × Int), L'.toArray = d' := ⟨d'.toList, by simp⟩
  have hl' : L'.length = n := by have := hp.1; simp at this; omega
  refine ⟨rfl, L', ?_, ?_, ?_, ?_⟩
  · have h6 := hp.2.2
    have e1 : (L'.toArray.extract 0 n).toList = L' := by rw [← hl']; simp
    have e2 : (L.toArray.extract 0 n).toList = L := by rw [← hl]; simp
    rwa [e1, e2] at h6
  · rw [List.pairwise_iff_getElem]
    intro i j hi hj hij
    have h7 := hs i j (Nat.zero_le _) hij (by omega)
    change Go.Proofs.ltOf cmpS L'.toArray[j]! L'.toArray[i]! = false at h7
    rw [ltS_eq, getElem!_pos L'.toArray i (by simpa using hi), getElem!_pos L'.toArray j (by simpa using hj)] at h7
    simp at h7
    omega
  · have hF : (flatK encSp 2 L'.toArray).size = n * 2 := by simp [hl']
    have hfs : n * 2 ≤ cur.size := by rw [hcs]; exact Nat.mul_le_mul_right _ hle
    refine ⟨by rw [spV_len, hl'], .inr ⟨g, cap, putCells id 0 (flatK encSp 2 L'.toArray) cur, rfl, hbg, ?_, hle, hcm, ?_, ?_⟩⟩
    · unfold sortWorldK
      rw [heap_grow_old _ _ (by unfold putRowK; rw [size_putRow]; exact hblk)]
      unfold putRowK putRow mapBlock
      show (w.heap.modify g _)[g]? = _
      rw [Array.getElem?_modify, if_pos rfl, hg]
      rfl
    · simp [putCells, hcs]
    · rw [← hF, putCells_take _ _ (by rw [hF]; exact hfs), flat_spV]
  · refine ⟨rfl, rfl, rfl, ?_, fun k hk hne => ?_⟩
    · exact size_sortWorldK_c encSp 2 w g 0 m L'.toArray os
    · unfold sortWorldK
      rw [heap_grow_old _ _ (by unfold putRowK; rw [size_putRow]; exact hk)]
      unfold putRowK putRow mapBlock
      show (w.heap.modify g _)[k]? = _
      rw [Array.getElem?_modify, if_neg (fun e => hne (by rw [e]))]
end Go.Proofs.Ytimeacigbacadaa
