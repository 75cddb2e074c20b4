/-
  The walk of the law SpanNone: for every span it returns true and leaves all that was there as it was.
-/
import Derived.Test.YtimeacigbacadaaWorks2G
import Derived.Laws.StructEq
import Derived.BigQuiet
namespace Go.Proofs.Ytimeacigbacadaa
open Go.RowKit Go.Sort

def NoneEnd (w : World) (e : Ending) (w' : World) : Prop := e = .returned (.bool true) ∧ Below w.heap.size w w'

theorem all_nil (w : World) : Calls Try.prog 10 #[.pointer none] w fun e w' => e = .returned (.slice none 0 0) ∧ Below w.heap.size w w' := by
  go_enter Try.func10, Try.ntmps10
  go_wp2
  go_ret
  exact ⟨rfl, Below.refl _ _⟩

theorem eqIn_span (x y : Int) (w : World) : (Op.equalIn 10000 23 (.agg #[.int .i64 x, .int .i64 y]) (.agg #[.int .i64 x, .int .i64 y])).run Try.prog w = .ok true w := by
  have u3 := Try.underlying3
  have a3 := Try.isAgg3
  have z3 := Try.sizeOf3
  have hS : Try.prog.underlying 23 = some (.struct (Try.prog.fieldsOf 23)) := by kernel_rfl
  have hp : Try.prog.stoodInHeld 23 = false := by kernel_rfl
  rw [show (10000 : Nat) = 9999 + 1 from rfl, run_equalIn_agg w 9999 23 _ _ hS hp]
  simp only [Program.fieldsOf, Try.underlying23]
  go_simp

theorem exec_eqS {ev : Operand → Value} {o : Oper} {s t : Operand} {ty : TypeId} (hop : o.op = .binOp .eql 23 s t ty) (x y : Int) (hs : ev s = .agg #[.int .i64 x, .int .i64 y]) (ht : ev t = .agg #[.int .i64 x, .int .i64 y]) (w : World) :
    (execOp ev o).run Try.prog w = .ok (.value (.bool true)) w := by
  have hGt : Try.prog.eqGuardType Try.prog.depth 23 = false := by kernel_rfl
  have h1 := run_eqGuard_agg (P := Try.prog) w .eql 23 s t #[.int .i64 x, .int .i64 y] #[.int .i64 x, .int .i64 y] hGt
  have h2 := run_eql_struct (P := Try.prog) w 23 #[.int .i64 x, .int .i64 y] #[.int .i64 x, .int .i64 y]
  rw [eqIn_span] at h2
  generalize hA : (Value.agg #[.int .i64 x, .int .i64 y]) = A at *
  unfold execOp
  simp only [hop, hs, ht]
  simp [h1, h2, Result.andThen]
theorem quiet_skip {P : Program} {ops : Array Oper} {C : World → Prop} {Q : Act → Prop} {o : Oper} {rest : List Oper} {a : Act} (hw : Region.wanted o (yielded ops a.tmps) = false) (h : wpQuiet P ops C Q rest (a.put o.dst undef)) :
    wpQuiet P ops C Q (o :: rest) a := by
  rw [wpQuiet, if_neg (by rw [hw]; simp)]; exact h
theorem quiet_put {P : Program} {ops : Array Oper} {C : World → Prop} {Q : Act → Prop} {o : Oper} {rest : List Oper} {a : Act} (v : Value) (hw : Region.wanted o (yielded ops a.tmps) = true) (hr : ∀ w, (execOp a.eval o).run P w = .ok (.value v) w) (h : wpQuiet P ops C Q rest (a.put o.dst v)) :
    wpQuiet P ops C Q (o :: rest) a := by
  rw [wpQuiet, if_pos hw]
  exact ⟨v, fun w _ => by unfold Oper.quietAt; rw [hr w]; exact ⟨rfl, rfl⟩, h⟩

set_option maxRecDepth 100000 in
set_option maxHeartbeats 16000000 in
theorem law_none (x y : Int) (w : World) : Calls Try.prog 3 #[.agg #[.int .i64 x, .int .i64 y]] w (NoneEnd w) := by
  have hAll := fun W => all_nil W
  have hSize := fun W => size_any none [] W (SetV.none W) (by simp) (fun x h => by cases h)
  have hUp := fun W => upto_any none [] x W (SetV.none W) (by simp)
  have hHas := fun W => has_any none [] x y W (SetV.none W) (by simp)
  have hMiss := fun W => missing_any none [] x y W (SetV.none W) (by simp)
  have hPut := fun W => put_nil x y W
  have hW := fun W => works2 W
  rw [show sumS [] = 0 from rfl] at hSize
  rw [show uptoS [] x = x from rfl] at hUp
  have hbx : (w.alloc (.cells #[.int .i64 x, .int .i64 y] 23)).heap[w.heap.size]? = some (.cells #[.int .i64 x, .int .i64 y] 23 (0, 0)) := heapA_new _ rfl
  have hB0 := belowA w (.cells #[.int .i64 x, .int .i64 y] 23)
  by_cases hf : 0 ≤ x ∧ x < y
  · obtain ⟨f0, f1⟩ := hf
    have he : emp (x, y) = false := emp_false.2 ⟨f0, f1⟩
    rw [show hasS [] (x, y) = false from by unfold hasS; rw [he, Bool.false_or]; exact decide_eq_false (by show ¬ y ≤ x; omega)] at hHas
    rw [show missS [] (x, y) = [(x, y)] from by unfold missS; rw [he]; simp [missGo, f1]] at hMiss
    have HAll := Lib.hid hAll
    have HSize := Lib.hid hSize
    have HUp := Lib.hid hUp
    have HHas := Lib.hid hHas
    have HMiss := Lib.hid hMiss
    have HPut := Lib.hid hPut
    have HW := Lib.hid hW
    clear hAll hSize hUp hHas hMiss hPut hW he
    go_enter Try.func3, Try.ntmps3
    go_wp2_with fail
    generalize w.alloc (.cells #[.int .i64 x, .int .i64 y] 23) = W at *
    refine (HPut.out _).mono ?_
    rintro e w1 ⟨rfl, hb1⟩
    have k1 := block_keep hb1 hbx
    have k10 : w1.cell? ⟨w.heap.size, 0, none⟩ = some (.int .i64 x) := by rw [cell_of_row w1 _ 0 _ _ _ k1]; rfl
    have k11 : w1.cell? ⟨w.heap.size, 1, none⟩ = some (.int .i64 y) := by rw [cell_of_row w1 _ 1 _ _ _ k1]; rfl
    go_wp2_with fail
    refine (HMiss.out _).mono ?_
    rintro e w2 ⟨v2, rfl, hO2, hb2⟩
    obtain ⟨a2, c2, rfl, hr2, _⟩ := Row.of_owns hO2
    have k2 := block_keep hb2 k1
    have HB2 := Lib.hid ((hB0.trans (hb1.mono hB0.size)).trans (hb2.mono (Nat.le_trans hB0.size hb1.size)))
    have k20 : w2.cell? ⟨w.heap.size, 0, none⟩ = some (.int .i64 x) := by rw [cell_of_row w2 _ 0 _ _ _ k2]; rfl
    have k21 : w2.cell? ⟨w.heap.size, 1, none⟩ = some (.int .i64 y) := by rw [cell_of_row w2 _ 1 _ _ _ k2]; rfl
    obtain ⟨b2, o2, rfl, _, hc2⟩ := SRow.at hr2 0 (by simp)
    obtain ⟨m0, m1⟩ := hc2 0 (by simp)
    simp only [List.length_singleton, Nat.zero_mul, Nat.add_zero, List.getD_cons_zero] at m0 m1
    simp only [List.length_singleton]
    have q0 := BelowW.cell k20
    have q1 := BelowW.cell k21
    have q2 := BelowW.cell m0
    have q3 := BelowW.cell m1
    clear k1 k10 k11 hb1 hb2 hO2 hr2 hc2 k2 hbx hB0
    go_wp2
    have hGt : Try.prog.eqGuardType Try.prog.depth 23 = false := by kernel_rfl
    have hEq := fun W => eqIn_span x y W
    refine wp_region_below (by kernel_rfl) (by kernel_rfl) ?_
    repeat (go_big_quiet_step ((first
      | (go_at_call 10; with_reducible exact Calls.below_of (HAll.out _))
      | (go_at_call 11; with_reducible exact Calls.below_of (HSize.out _))
      | (go_at_call 12; with_reducible exact Calls.below_of (HUp.out _))
      | (go_at_call 13; with_reducible exact Calls.below_of (HHas.out _))
      | (go_at_call 14; with_reducible exact Calls.below_of (HW.out _)))))
    refine wpQuiet_nil ?_
    rintro _ ⟨⟨w3, hb3⟩, rfl⟩
    go_wp2
    go_ret
    exact ⟨rfl, HB2.out.trans (hb3.mono HB2.out.size)⟩
  · have he : emp (x, y) = true := emp_true.2 (by omega)
    rw [show hasS [] (x, y) = true from by unfold hasS; rw [he]; rfl] at hHas
    rw [show missS [] (x, y) = [] from by unfold missS; rw [if_pos he]] at hMiss
    have HAll := Lib.hid hAll
    have HSize := Lib.hid hSize
    have HUp := Lib.hid hUp
    have HHas := Lib.hid hHas
    have HMiss := Lib.hid hMiss
    have HPut := Lib.hid hPut
    have HW := Lib.hid hW
    have hcase : x < 0 ∨ (0 ≤ x ∧ y ≤ x) := by omega
    clear hAll hSize hUp hHas hMiss hPut hW he hf
    rcases hcase with h0 | ⟨h0, h1⟩
    · have d0 : decide (0 ≤ x) = false := decide_eq_false (by omega)
      clear h0
      go_enter Try.func3, Try.ntmps3
      go_wp2_with fail
      generalize w.alloc (.cells #[.int .i64 x, .int .i64 y] 23) = W at *
      refine (HPut.out _).mono ?_
      rintro e w1 ⟨rfl, hb1⟩
      have k1 := block_keep hb1 hbx
      have k10 : w1.cell? ⟨w.heap.size, 0, none⟩ = some (.int .i64 x) := by rw [cell_of_row w1 _ 0 _ _ _ k1]; rfl
      have k11 : w1.cell? ⟨w.heap.size, 1, none⟩ = some (.int .i64 y) := by rw [cell_of_row w1 _ 1 _ _ _ k1]; rfl
      go_wp2_with fail
      refine (HMiss.out _).mono ?_
      rintro e w2 ⟨v2, rfl, hO2, hb2⟩
      obtain ⟨a2, c2, rfl, hr2, _⟩ := Row.of_owns hO2
      have k2 := block_keep hb2 k1
      have HB2 := Lib.hid ((hB0.trans (hb1.mono hB0.size)).trans (hb2.mono (Nat.le_trans hB0.size hb1.size)))
      have k20 : w2.cell? ⟨w.heap.size, 0, none⟩ = some (.int .i64 x) := by rw [cell_of_row w2 _ 0 _ _ _ k2]; rfl
      have k21 : w2.cell? ⟨w.heap.size, 1, none⟩ = some (.int .i64 y) := by rw [cell_of_row w2 _ 1 _ _ _ k2]; rfl
      simp only [List.length_nil]
      have q0 := BelowW.cell k20
      have q1 := BelowW.cell k21
      clear k1 k10 k11 hb1 hb2 hO2 hr2 k2 hbx hB0
      go_wp2
      refine wp_region_below (by kernel_rfl) (by kernel_rfl) ?_
      repeat (go_big_quiet_step ((first
        | (go_at_call 10; with_reducible exact Calls.below_of (HAll.out _))
        | (go_at_call 11; with_reducible exact Calls.below_of (HSize.out _))
        | (go_at_call 12; with_reducible exact Calls.below_of (HUp.out _))
        | (go_at_call 13; with_reducible exact Calls.below_of (HHas.out _))
        | (go_at_call 14; with_reducible exact Calls.below_of (HW.out _)))))
      refine wpQuiet_nil ?_
      rintro _ ⟨⟨w3, hb3⟩, rfl⟩
      go_wp2
      go_ret
      exact ⟨rfl, HB2.out.trans (hb3.mono HB2.out.size)⟩
    · have d1 : decide (x < y) = false := decide_eq_false (by omega)
      clear h1
      go_enter Try.func3, Try.ntmps3
      go_wp2_with fail
      generalize w.alloc (.cells #[.int .i64 x, .int .i64 y] 23) = W at *
      refine (HPut.out _).mono ?_
      rintro e w1 ⟨rfl, hb1⟩
      have k1 := block_keep hb1 hbx
      have k10 : w1.cell? ⟨w.heap.size, 0, none⟩ = some (.int .i64 x) := by rw [cell_of_row w1 _ 0 _ _ _ k1]; rfl
      have k11 : w1.cell? ⟨w.heap.size, 1, none⟩ = some (.int .i64 y) := by rw [cell_of_row w1 _ 1 _ _ _ k1]; rfl
      go_wp2_with fail
      refine (HMiss.out _).mono ?_
      rintro e w2 ⟨v2, rfl, hO2, hb2⟩
      obtain ⟨a2, c2, rfl, hr2, _⟩ := Row.of_owns hO2
      have k2 := block_keep hb2 k1
      have HB2 := Lib.hid ((hB0.trans (hb1.mono hB0.size)).trans (hb2.mono (Nat.le_trans hB0.size hb1.size)))
      have k20 : w2.cell? ⟨w.heap.size, 0, none⟩ = some (.int .i64 x) := by rw [cell_of_row w2 _ 0 _ _ _ k2]; rfl
      have k21 : w2.cell? ⟨w.heap.size, 1, none⟩ = some (.int .i64 y) := by rw [cell_of_row w2 _ 1 _ _ _ k2]; rfl
      simp only [List.length_nil]
      have q0 := BelowW.cell k20
      have q1 := BelowW.cell k21
      clear k1 k10 k11 hb1 hb2 hO2 hr2 k2 hbx hB0
      go_wp2
      refine wp_region_below (by kernel_rfl) (by kernel_rfl) ?_
      repeat (go_big_quiet_step ((first
        | (go_at_call 10; with_reducible exact Calls.below_of (HAll.out _))
        | (go_at_call 11; with_reducible exact Calls.below_of (HSize.out _))
        | (go_at_call 12; with_reducible exact Calls.below_of (HUp.out _))
        | (go_at_call 13; with_reducible exact Calls.below_of (HHas.out _))
        | (go_at_call 14; with_reducible exact Calls.below_of (HW.out _)))))
      refine wpQuiet_nil ?_
      rintro _ ⟨⟨w3, hb3⟩, rfl⟩
      go_wp2
      go_ret
      exact ⟨rfl, HB2.out.trans (hb3.mono HB2.out.size)⟩
end Go.Proofs.Ytimeacigbacadaa
