/-
  What the given frame tells of an argument, in our words: a slice of steps.
-/
import Derived.Test.YtimeacigbacadaaStP
import Derived.Test.YtimeacigbacadaaArgsS
import Derived.Deep.Fields
import Derived.ChangeSame
import Derived.ChangeSlices
namespace Go.Proofs.Ytimeacigbacadaa
open Go.RowKit Go.Sort Go.ChangeShapes Go.WideShapes Go.Joins Go.Deep

section
variable {H : Type} {enc : TypeId × Value → H} {w : World}

theorem byte_field {n : Nat} {v : Value} {y : DataW H × List MemPlace} (h : DataW.trod enc Try.prog w 0 (fun _ => true) true n 39 [v] = some y) :
    ∃ (a : Option Addr) (cap : Nat) (bs : List UInt8), v = .slice a bs.length cap ∧ Row w 1 a bs.length cap (bs.map u8C) := by
  rcases open_ints Try.underlying39 Try.underlying5 (by kernel_rfl) h with ⟨hcs, _⟩ | ⟨x, l, c, zs, hcs, _, hl, hm, hz, _, hcell, hwz⟩
  · simp only [List.cons.injEq, and_true] at hcs
    exact ⟨none, 0, [], hcs, Row.nil w 1⟩
  · simp only [List.cons.injEq, and_true] at hcs
    subst hcs
    obtain ⟨bs, h1, h2⟩ := row_bytes (w := w) (a := some x) (len := l) (cap := c) (zs := zs) (.inr ⟨x, rfl, hl, hm, by simpa using hz, hcell, hwz⟩)
    subst h1
    exact ⟨some x, c, bs, rfl, h2⟩

theorem struct_cells {P : Program} {e : TypeId} {fs : Array Field} {base n : Nat} {spare : Nat → Bool} {held : Bool} {a : Addr} {cs : List Value} {x : DataW H × List MemPlace} (he : P.underlying e = some (.struct fs)) (hone : oneCellFields P fs = true)
    (hc : w.cells? base a fs.size = some cs) (ht : DataW.trod enc P w base spare held n e cs = some x) (j : Nat) (f : Field) (hj : fs[j]? = some f) : ∃ v y m, w.cell? (a.add j) = some v ∧ DataW.trod enc P w base spare held m f.type [v] = some y := by
  obtain ⟨ys, n', hn', hy, hlen, hyl, hf⟩ := DataW.trod_struct he ht
  obtain ⟨_, hcl, hat⟩ := World.cells?_some hc
  obtain ⟨ho, hk⟩ := hone_of hone j f hj
  have hjl : j < fs.size := (Array.getElem?_eq_some_iff.1 hj).1
  have hv : cs[j]? = some (cs[j]'(by omega)) := List.getElem?_eq_getElem (by omega)
  have h1 := hf j f hj
  rw [ho, hk, List.drop_eq_getElem_cons (by omega)] at h1
  have hys : ys[j]? = some (ys[j]'(by omega)) := List.getElem?_eq_getElem (by omega)
  exact ⟨_, _, _, (hat j hjl).trans hv, h1.trans hys⟩

theorem step_slice {a : Option Addr} {n cap : Nat} {d : DataW H} {p : List MemPlace} (h : DataW.Trod enc Try.prog w 0 (fun _ => true) true 33 (.slice a n cap) d p) : ∃ l : List St, TRow w a n cap l := by
  obtain ⟨fuel, hf⟩ := h
  rcases open_slice Try.underlying33 hf with ⟨hcs, _⟩ | ⟨x, l, c, m, nn, D, Pl, hcs, _, hl, hm, hmm, _, hi⟩
  · simp [Value.cells] at hcs
    obtain ⟨rfl, rfl, rfl⟩ := hcs
    exact ⟨[], Row.nil w 4, fun x hx => (by cases hx)⟩
  · simp [Value.cells] at hcs
    obtain ⟨rfl, rfl, rfl⟩ := hcs
    have hnm : n ≤ m := by rw [hmm]; split <;> omega
    have hC : Try.prog.cellsOf 41 = 4 := by kernel_rfl
    have each : ∀ i, i < n → ∃ s : St, w.cell? (x.add (i * 4 + 0)) = some (.int .i64 s.at_) ∧ w.cell? (x.add (i * 4 + 1)) = some (.slice s.a s.bs.length s.cap) ∧ w.cell? (x.add (i * 4 + 2)) = some (.int .i64 s.fr) ∧ w.cell? (x.add (i * 4 + 3)) = some (.int .i64 s.most) ∧
        Row w 1 s.a s.bs.length s.cap (s.bs.map u8C) ∧ i64B s.at_ ∧ i64B s.fr ∧ i64B s.most := fun i hin => by
      obtain ⟨cs', hc, ht'⟩ := hi i (by omega)
      rw [hC] at hc
      have hf := struct_cells Try.underlying41 (by kernel_rfl) hc ht'
      obtain ⟨v0, y0, m0, e0, t0⟩ := hf 0 _ rfl
      obtain ⟨v1, y1, m1, e1, t1⟩ := hf 1 _ rfl
      obtain ⟨v2, y2, m2, e2, t2⟩ := hf 2 _ rfl
      obtain ⟨v3, y3, m3, e3, t3⟩ := hf 3 _ rfl
      obtain ⟨z0, h0, _, w0⟩ := DataW.trod_int Try.underlying3 t0
      obtain ⟨a1, c1, bs, rfl, hrow⟩ := byte_field t1
      obtain ⟨z2, h2, _, w2⟩ := DataW.trod_int Try.underlying3 t2
      obtain ⟨z3, h3, _, w3⟩ := DataW.trod_int Try.underlying3 t3
      simp at h0 h2 h3
      subst h0 h2 h3
      rw [Go.Deep.add_add] at e0 e1 e2 e3
      exact ⟨⟨z0, a1, c1, bs, z2, z3⟩, e0, e1, e2, e3, hrow, bd_i64 w0, bd_i64 w2, bd_i64 w3⟩
    obtain ⟨f, hf⟩ := choose_lt each
    refine ⟨(List.range n).map f, ⟨by rw [stV_len]; simp, hl, hm, fun h => (by cases h), fun hn => ?_⟩, fun z hz => ?_⟩
    · have h0 := (hf 0 (by omega)).1
      have hb := World.block_lt_of_cell? w _ h0
      obtain ⟨b, off, spot⟩ := x
      have hspot : spot = none := by simpa [Addr.add] using World.cell?_spot h0
      subst hspot
      refine ⟨b, off, rfl, by simpa [Addr.add] using hb, fun j u hj => ?_⟩
      have hj2 : j < ((List.range n).map f).length * 4 := by
        have := (List.getElem?_eq_some_iff.1 hj).1
        rwa [stV_len] at this
      simp at hj2
      have hi : j / 4 < n := by omega
      obtain ⟨g0, g1, g2, g3⟩ := stV_get ((List.range n).map f) (j / 4) (by simpa using hi)
      have hg : ((List.range n).map f).getD (j / 4) default = f (j / 4) := by simp [List.getD, hi]
      rw [hg] at g0 g1 g2 g3
      obtain ⟨e0, e1, e2, e3, _⟩ := hf (j / 4) hi
      have hc4 : j % 4 = 0 ∨ j % 4 = 1 ∨ j % 4 = 2 ∨ j % 4 = 3 := by omega
      rcases hc4 with hp | hp | hp | hp
      · rw [show 4 * (j / 4) = j from by omega] at g0
        rw [show j / 4 * 4 + 0 = j from by omega, Addr.add_lit] at e0
        rw [e0, ← hj, g0]
      · rw [show 4 * (j / 4) + 1 = j from by omega] at g1
        rw [show j / 4 * 4 + 1 = j from by omega, Addr.add_lit] at e1
        rw [e1, ← hj, g1]
      · rw [show 4 * (j / 4) + 2 = j from by omega] at g2
        rw [show j / 4 * 4 + 2 = j from by omega, Addr.add_lit] at e2
        rw [e2, ← hj, g2]
      · rw [show 4 * (j / 4) + 3 = j from by omega] at g3
        rw [show j / 4 * 4 + 3 = j from by omega, Addr.add_lit] at e3
        rw [e3, ← hj, g3]
    · obtain ⟨i, hi, rfl⟩ := List.mem_map.1 hz
      exact (hf i (List.mem_range.1 hi)).2.2.2.2
end
end Go.Proofs.Ytimeacigbacadaa
