/-
  Our texts ShowArgs to ValArg, in one.
-/
import Derived.Test.YtnkodejgiabamaaDoorPkV15
import Derived.Test.YtnkodejgiabamaaDoorRows
import Derived.ProofKit
import Derived.OpenShut
import Derived.Lib.SmallJoins
/-
  What the given frame tells of an argument, in our words: a text, a value, a number; a world in which two tables are laid.
-/
namespace Go.Proofs.YtnkodejgiabamaaDoor
open Go.ChangeShapes Go.WideShapes Go.Joins Go.RowKit

section
variable {H : Type} {enc : TypeId × Value → H} {w : World} {base : Nat} {spare : Nat → Bool} {held : Bool}

set_option maxRecDepth 100000 in
theorem str_arg {r : Reach} {b0 : Nat} {v : Value} {d : DataW H} {p : List MemPlace} (hv : Value.okWide Tryd.prog w r b0 9 v) (h : DataW.Trod enc Tryd.prog w base spare held 9 v d p) : ∃ s : ByteArray, v = .string s ∧ s.size ≤ 9223372036854775807 := by
  obtain ⟨s, rfl, rfl, rfl, hs⟩ := Go.ChangeMaps.open_string Tryd.underlying9 hv h
  exact ⟨s, rfl, by unfold maxLen at hs; omega⟩
set_option maxRecDepth 100000 in
theorem int_arg {r : Reach} {b0 : Nat} {v : Value} {d : DataW H} {p : List MemPlace} (hv : Value.okWide Tryd.prog w r b0 3 v) (h : DataW.Trod enc Tryd.prog w base spare held 3 v d p) : ∃ n : Int, v = .int .i64 n ∧ -9223372036854775808 ≤ n ∧ n ≤ 9223372036854775807 := by
  obtain ⟨n, rfl, rfl, rfl, hw⟩ := open_int Tryd.underlying3 hv h
  have := wf_i64_bd hw
  exact ⟨n, rfl, this.1, this.2⟩
set_option maxRecDepth 100000 in
theorem val_arg {r : Reach} {b0 : Nat} {v : Value} {d : DataW H} {p : List MemPlace} (hv : Value.okWide Tryd.prog w r b0 24 v) (h : DataW.Trod enc Tryd.prog w base spare held 24 v d p) :
    ∃ (k n : Int) (s : ByteArray) (a : Option Addr) (m c : Nat), v = .agg #[.int .i64 k, .int .i64 n, .string s, .slice a m c] ∧ -9223372036854775808 ≤ n ∧ n ≤ 9223372036854775807 ∧ (m : Int) ≤ 9223372036854775807 := by
  obtain ⟨c0, c1, c2, c3, y0, y1, y2, y3, f, rfl, _, _, h0, h1, h2, h3⟩ := open_agg4 Tryd.underlying24 (by kernel_rfl) (by kernel_rfl) hv h
  obtain ⟨z0, e0, _, w0⟩ := DataW.trod_int Tryd.underlying3 h0
  obtain ⟨z1, e1, _, w1⟩ := DataW.trod_int Tryd.underlying3 h1
  obtain ⟨s, e2, _, _⟩ := DataW.trod_string Tryd.underlying9 h2
  simp at e0 e1 e2
  subst e0 e1 e2
  have b1 := wf_i64_bd w1
  rcases DataW.trod_slice Tryd.underlying22 h3 with ⟨e3, _⟩ | ⟨x, len, cap, _, _, _, _, e3, _, _, hl, hc, _⟩
  · simp at e3
    subst e3
    exact ⟨z0, z1, s, none, 0, 0, rfl, b1.1, b1.2, by omega⟩
  · simp at e3
    subst e3
    exact ⟨z0, z1, s, some x, len, cap, rfl, b1.1, b1.2, by unfold maxLen at hc; omega⟩
end

/-- The two tables as cells. -/
def tabF : Array Value := (Go.Pinned.utf8FirstZ.map fun (n : Nat) => Value.int .u8 n).toArray
def tabA : Array Value := ([128, 191, 160, 191, 128, 159, 144, 191, 128, 143, 0, 0, 0, 0, 0, 0, 0, 0, 0, 0, 0, 0, 0, 0, 0, 0, 0, 0, 0, 0, 0, 0].map fun (n : Nat) => Value.int .u8 n).toArray
def layS1 (w : World) (g : Nat) (cs : Array Value) : World := { w with heap := w.heap.modify g fun
      | .cells _ t frozen => .cells cs t frozen
      | o => o }
def layS2 (w : World) : World := layS1 (layS1 w 1 tabF) 2 tabA
end Go.Proofs.YtnkodejgiabamaaDoor
/-
  A value that came in, read as a tree.
-/
namespace Go.Proofs.YtnkodejgiabamaaDoor
open Go.ChangeShapes Go.WideShapes Go.Joins Go.RowKit Go.Deep

def cellsP (l : List (PV × Value)) : List Value := l.flatMap fun p => pvC p.1 p.2
theorem cellsP_len (l : List (PV × Value)) : (cellsP l).length = l.length * 4 := by
  induction l with
  | nil => rfl
  | cons p l ih => unfold cellsP at *; rw [List.flatMap_cons, List.length_append, ih, List.length_cons]; simp [pvC]; omega
theorem row4 {w : World} {b : Nat} : ∀ (l : List (PV × Value)) (off : Nat),
    (∀ i p, l[i]? = some p → w.cell? ⟨b, off + i * 4, none⟩ = some (.int .i64 p.1.kind) ∧ w.cell? ⟨b, off + i * 4 + 1, none⟩ = some (.int .i64 p.1.n) ∧ w.cell? ⟨b, off + i * 4 + 2, none⟩ = some (.string (mkB p.1.s)) ∧ w.cell? ⟨b, off + i * 4 + 3, none⟩ = some p.2) →
    ∀ j u, (cellsP l)[j]? = some u → w.cell? ⟨b, off + j, none⟩ = some u
  | [], _, _, j, u, h => by simp [cellsP] at h
  | p :: l, off, hc, j, u, h => by
    have h0 := hc 0 p rfl
    simp only [Nat.zero_mul, Nat.add_zero] at h0
    have e : cellsP (p :: l) = .int .i64 p.1.kind :: .int .i64 p.1.n :: .string (mkB p.1.s) :: p.2 :: cellsP l := rfl
    rw [e] at h
    match j, h with
    | 0, h => simp at h; subst h; exact h0.1
    | 1, h => simp at h; subst h; exact h0.2.1
    | 2, h => simp at h; subst h; exact h0.2.2.1
    | 3, h => simp at h; subst h; exact h0.2.2.2
    | j + 4, h =>
      have := row4 l (off + 4) (fun i q hq => by
        have := hc (i + 1) q hq
        rw [show off + (i + 1) * 4 = off + 4 + i * 4 by omega] at this
        exact this) j u (by simpa using h)
      rw [show off + 4 + j = off + (j + 4) by omega] at this
      exact this
theorem isVs_of {w : World} : ∀ l : List (PV × Value), (∀ p ∈ l, IsV w anyF p.1 p.2) → IsVs w anyF (l.map (·.1)) (cellsP l)
  | [], _ => rfl
  | p :: l, h => ⟨p.2, cellsP l, rfl, h p (List.mem_cons_self ..), isVs_of l fun q hq => h q (List.mem_cons_of_mem _ hq)⟩

section
variable {H : Type} {enc : TypeId × Value → H} {w : World} {base : Nat} {spare : Nat → Bool} {held : Bool}

set_option maxRecDepth 100000 in
theorem val_cells : ∀ (N fuel : Nat) (cs : List Value) (x : DataW H × List MemPlace), fuel ≤ N → DataW.trod enc Tryd.prog w base spare held fuel 24 cs = some x → ∃ (v : PV) (sl : Value), cs = pvC v sl ∧ IsV w anyF v sl := by
  intro N
  induction N with
  | zero =>
    intro fuel cs x hf h
    obtain rfl : fuel = 0 := by omega
    simp [DataW.trod] at h
  | succ N ih =>
  intro fuel cs x hfu h
  have hC : Tryd.prog.cellsOf 24 = 4 := by kernel_rfl
  obtain ⟨xs, n, rfl, -, hlen, hxl, hf⟩ := DataW.trod_struct Tryd.underlying24 h
  rw [hC] at hlen
  match xs, hxl, cs, hlen with
  | [y0, y1, y2, y3], _, [c0, c1, c2, c3], _ =>
  have k3 : Tryd.prog.cellsOf 3 = 1 := by kernel_rfl
  have k9 : Tryd.prog.cellsOf 9 = 1 := by kernel_rfl
  have k22 : Tryd.prog.cellsOf 22 = 1 := by kernel_rfl
  have g0 : DataW.trod enc Tryd.prog w base spare held n 3 ((([c0, c1, c2, c3] : List Value).drop 0).take (Tryd.prog.cellsOf 3)) = some y0 := hf 0 _ rfl
  have g1 : DataW.trod enc Tryd.prog w base spare held n 3 ((([c0, c1, c2, c3] : List Value).drop 1).take (Tryd.prog.cellsOf 3)) = some y1 := hf 1 _ rfl
  have g2 : DataW.trod enc Tryd.prog w base spare held n 9 ((([c0, c1, c2, c3] : List Value).drop 2).take (Tryd.prog.cellsOf 9)) = some y2 := hf 2 _ rfl
  have g3 : DataW.trod enc Tryd.prog w base spare held n 22 ((([c0, c1, c2, c3] : List Value).drop 3).take (Tryd.prog.cellsOf 22)) = some y3 := hf 3 _ rfl
  rw [k3] at g0 g1
  rw [k9] at g2
  rw [k22] at g3
  obtain ⟨z0, e0, _, _⟩ := DataW.trod_int Tryd.underlying3 g0
  obtain ⟨z1, e1, _, _⟩ := DataW.trod_int Tryd.underlying3 g1
  obtain ⟨s, e2, _, _⟩ := DataW.trod_string Tryd.underlying9 g2
  simp at e0 e1 e2
  subst e0 e1 e2
  rcases DataW.trod_slice Tryd.underlying22 g3 with ⟨e3, _⟩ | ⟨a, len, cap, elems, rest, m, hm, e3, _, _, hl, hc, hel, helem, _⟩
  · simp at e3
    subst e3
    exact ⟨.mk z0 z1 s.data.toList [], .slice none 0 0, rfl, IsV.leaf w anyF _ rfl⟩
  · simp at e3
    subst e3
    subst hm
    have each : ∀ i, i < len → ∃ q : PV × Value, IsV w anyF q.1 q.2 ∧ w.cell? (a.add (i * 4)) = some (.int .i64 q.1.kind) ∧ w.cell? (a.add (i * 4 + 1)) = some (.int .i64 q.1.n) ∧ w.cell? (a.add (i * 4 + 2)) = some (.string (mkB q.1.s)) ∧ w.cell? (a.add (i * 4 + 3)) = some q.2 := fun i hi => by
      have h1 := helem i hi
      rw [List.getElem?_eq_getElem (by omega), hC] at h1
      obtain ⟨cs', h2, h3⟩ := Option.bind_eq_some_iff.1 h1
      obtain ⟨v, sl, rfl, hv⟩ := ih m cs' _ (by omega) h3
      obtain ⟨_, _, hcell⟩ := World.cells?_some h2
      have a0 := hcell 0 (by omega)
      have a1 := hcell 1 (by omega)
      have a2 := hcell 2 (by omega)
      have a3 := hcell 3 (by omega)
      rw [add_add] at a0 a1 a2 a3
      exact ⟨(v, sl), hv, by simpa [pvC] using a0, by simpa [pvC] using a1, by simpa [pvC] using a2, by simpa [pvC] using a3⟩
    have : Inhabited (PV × Value) := ⟨(PV.none, .slice none 0 0)⟩
    obtain ⟨f, hf⟩ := choose_lt each
    let L := (List.range len).map f
    have hL : L.length = len := by simp [L]
    have hv : IsV w anyF (.mk z0 z1 s.data.toList (L.map (·.1))) (.slice (some a) (PV.mk z0 z1 s.data.toList (L.map (·.1))).l.length cap) := by
      refine IsV.mk (cs := cellsP L) ⟨?_, ?_, hc, fun h => (by cases h), fun hn => ?_⟩ (fun _ _ _ => trivial) ?_
      · rw [cellsP_len]; simp [PV.l]
      · simp only [PV.l, List.length_map, hL]; exact hl
      · simp only [PV.l, List.length_map, hL] at hn
        have h0 := (hf 0 hn).2.1
        have hb := World.block_lt_of_cell? w _ h0
        obtain ⟨b, off, spot⟩ := a
        have hspot : spot = none := by simpa [Addr.add] using World.cell?_spot h0
        subst hspot
        refine ⟨b, off, rfl, by simpa [Addr.add] using hb, row4 L off fun i p hp => ?_⟩
        have hi : i < len := by
          have := (List.getElem?_eq_some_iff.1 hp).1
          rwa [hL] at this
        have hp2 : f i = p := by
          simpa [L, hi] using hp
        obtain ⟨_, e0, e1, e2, e3⟩ := hf i hi
        rw [hp2] at e0 e1 e2 e3
        rw [Addr.add_lit] at e0 e1 e2 e3
        rw [← Nat.add_assoc] at e1 e2 e3
        exact ⟨e0, e1, e2, e3⟩
      · refine isVs_of L fun p hp => ?_
        obtain ⟨i, hi, rfl⟩ := List.mem_map.1 hp
        exact (hf i (List.mem_range.1 hi)).1
    refine ⟨_, _, ?_, hv⟩
    simp only [pvC, PV.kind, PV.n, PV.s, PV.l, List.length_map, hL]
    rfl
set_option maxRecDepth 100000 in
theorem val_tree {r : Reach} {b0 : Nat} {v : Value} {d : DataW H} {p : List MemPlace} (hv : Value.okWide Tryd.prog w r b0 24 v) (h : DataW.Trod enc Tryd.prog w base spare held 24 v d p) :
    ∃ (u : PV) (sl : Value), v = pvA u sl ∧ IsV w anyF u sl := by
  obtain ⟨c0, c1, c2, c3, y0, y1, y2, y3, f, rfl, _⟩ := open_agg4 Tryd.underlying24 (by kernel_rfl) (by kernel_rfl) hv h
  obtain ⟨fuel, hf⟩ := h
  obtain ⟨u, sl, e, hu⟩ := val_cells fuel fuel _ _ (Nat.le_refl _) hf
  simp [Value.cells, pvC] at e
  obtain ⟨rfl, rfl, rfl, rfl⟩ := e
  exact ⟨u, _, rfl, hu⟩
end
end Go.Proofs.YtnkodejgiabamaaDoor
