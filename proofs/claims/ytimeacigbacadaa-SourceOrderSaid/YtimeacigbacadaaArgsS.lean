/-
  What the given frame tells of an argument, in our words: a slice of spans, a span.
-/
import Derived.Test.YtimeacigbacadaaSpJP
import Derived.Deep.SlicePairs
import Derived.Lib.SmallJoins
namespace Go.Proofs.Ytimeacigbacadaa
open Go.RowKit Go.Sort Go.ChangeShapes Go.WideShapes Go.Joins Go.Deep

theorem bd_i64 {n : Int} (h : (Lit.int .i64 n).wf = true) : -9223372036854775808 ≤ n ∧ n ≤ 9223372036854775807 := by
  simp [Lit.wf, IntKind.min, IntKind.max, IntKind.signed, IntKind.bits] at h; omega

section
variable {H : Type} {enc : TypeId × Value → H} {w : World} {base : Nat} {spare : Nat → Bool} {held : Bool}

theorem span_slice {a : Option Addr} {n cap : Nat} {d : DataW H} {p : List MemPlace} (h : DataW.Trod enc Try.prog w base spare held 26 (.slice a n cap) d p) : ∃ l : List (Int × Int), SRow w a n cap l ∧ Fit l := by
  obtain ⟨fuel, hf⟩ := h
  rcases open_slice_pairs Try.underlying26 Try.underlying23 (by kernel_rfl) rfl rfl (by kernel_rfl) (by kernel_rfl) hf with ⟨hcs, _⟩ | ⟨x, l, c, m, k, V0, V1, D0, D1, P0, P1, hcs, _, hl, hm, hmm, _, hc⟩
  · simp [Value.cells] at hcs
    obtain ⟨rfl, rfl, rfl⟩ := hcs
    exact ⟨[], Row.nil w 2, fun x hx => (by cases hx)⟩
  · simp [Value.cells] at hcs
    obtain ⟨rfl, rfl, rfl⟩ := hcs
    have hnm : n ≤ m := by rw [hmm]; split <;> omega
    have each : ∀ i, i < n → ∃ q : Int × Int, w.cell? (x.add (i * 2)) = some (.int .i64 q.1) ∧ w.cell? (x.add (i * 2 + 1)) = some (.int .i64 q.2) ∧ (-9223372036854775808 ≤ q.1 ∧ q.1 ≤ 9223372036854775807) ∧ (-9223372036854775808 ≤ q.2 ∧ q.2 ≤ 9223372036854775807) := fun i hi => by
      obtain ⟨e0, e1, t0, t1⟩ := hc i (by omega)
      obtain ⟨z0, h0, _, w0⟩ := DataW.trod_int Try.underlying3 t0
      obtain ⟨z1, h1, _, w1⟩ := DataW.trod_int Try.underlying3 t1
      simp at h0 h1
      exact ⟨(z0, z1), by rw [e0, h0], by rw [e1, h1], bd_i64 w0, bd_i64 w1⟩
    obtain ⟨f, hf⟩ := choose_lt each
    refine ⟨(List.range n).map f, ⟨by rw [spV_len]; simp, hl, hm, fun h => (by cases h), fun hn => ?_⟩, fun z hz => ?_⟩
    · have h0 := (hf 0 (by omega)).1
      have hb := World.block_lt_of_cell? w _ h0
      obtain ⟨b, off, spot⟩ := x
      have hspot : spot = none := by simpa [Addr.add] using World.cell?_spot h0
      subst hspot
      refine ⟨b, off, rfl, by simpa [Addr.add] using hb, fun j u hj => ?_⟩
      have hj2 : j < ((List.range n).map f).length * 2 := by
        have := (List.getElem?_eq_some_iff.1 hj).1
        rwa [spV_len] at this
      simp at hj2
      have hi : j / 2 < n := by omega
      obtain ⟨g0, g1⟩ := spV_get ((List.range n).map f) (j / 2) (by simpa using hi)
      have hg : ((List.range n).map f).getD (j / 2) (0, 0) = f (j / 2) := by simp [List.getD, hi]
      rw [hg] at g0 g1
      obtain ⟨e0, e1, _⟩ := hf (j / 2) hi
      by_cases hp : j % 2 = 0
      · have hj3 : 2 * (j / 2) = j := by omega
        rw [hj3] at g0
        rw [show j / 2 * 2 = j from by omega, Addr.add_lit] at e0
        rw [e0, ← hj, g0]
      · have hj3 : 2 * (j / 2) + 1 = j := by omega
        rw [hj3] at g1
        rw [show j / 2 * 2 + 1 = j from by omega, Addr.add_lit] at e1
        rw [e1, ← hj, g1]
    · obtain ⟨i, hi, rfl⟩ := List.mem_map.1 hz
      obtain ⟨_, _, b0, b1⟩ := hf i (List.mem_range.1 hi)
      exact ⟨b0.1, b0.2, b1.1, b1.2⟩

set_option maxRecDepth 100000 in
theorem span_val {r : Reach} {b0 : Nat} {v : Value} {d : DataW H} {p : List MemPlace} (hv : Value.okWide Try.prog w r b0 23 v) (h : DataW.Trod enc Try.prog w base spare held 23 v d p) : ∃ x y, v = .agg #[.int .i64 x, .int .i64 y] ∧ Fit [(x, y)] := by
  obtain ⟨c0, c1, y0, y1, m, rfl, _, _, h0, h1⟩ := open_agg2 Try.underlying23 (by kernel_rfl) (by kernel_rfl) hv h
  obtain ⟨z0, e0, _, w0⟩ := DataW.trod_int Try.underlying3 h0
  obtain ⟨z1, e1, _, w1⟩ := DataW.trod_int Try.underlying3 h1
  simp at e0 e1
  subst e0 e1
  have a0 := bd_i64 w0
  have a1 := bd_i64 w1
  exact ⟨z0, z1, rfl, fun x hx => by simp at hx; subst hx; exact ⟨a0.1, a0.2, a1.1, a1.2⟩⟩
end
end Go.Proofs.Ytimeacigbacadaa
