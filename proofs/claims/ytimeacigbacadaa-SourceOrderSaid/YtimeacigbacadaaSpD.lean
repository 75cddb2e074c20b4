/-
  slices.DeleteFunc at spans, with 'empty': what is left of a row of the call's own.
-/
import Derived.Test.YtimeacigbacadaaSpC
import Derived.Lib.SliceRun
namespace Go.Proofs.Ytimeacigbacadaa
open Go.RowKit Go.Sort

/-- A cell of an owned row is written. -/
theorem own_setK {w : World} {base e g n cap sz : Nat} {xs : List Value} (h : w.ownsRow base e sz (.slice (some ⟨g, 0, none⟩) n cap) n xs) (t : Nat) (v : Value) :
    (w.setCell ⟨g, t, none⟩ v).ownsRow base e sz (.slice (some ⟨g, 0, none⟩) n cap) n (xs.set t v) := by
  obtain ⟨h1, h2⟩ := h
  refine ⟨by simpa using h1, ?_⟩
  rcases h2 with ⟨h3, _⟩ | ⟨g', cap', cur, hv, hbg, hg, hle, hcm, hcs, htk⟩
  · cases h3
  · simp only [Value.slice.injEq, Option.some.injEq, Addr.mk.injEq] at hv
    obtain ⟨⟨rfl, _, _⟩, -, rfl⟩ := hv
    refine .inr ⟨g, cap, cur.setIfInBounds t v, rfl, hbg, heap_setCell_same w g t cur e v hg, hle, hcm, by simpa using hcs, ?_⟩
    rw [Array.toList_setIfInBounds, List.take_set, htk]
theorem own_freeK {w : World} {base e g n cap sz : Nat} {xs : List Value} (h : w.ownsRow base e sz (.slice (some ⟨g, 0, none⟩) n cap) n xs) (t : Nat) : w.frozen? ⟨g, t, none⟩ = false := by
  obtain ⟨h1, h2⟩ := h
  rcases h2 with ⟨h3, _⟩ | ⟨g', cap', cur, hv, hbg, hg, hle, hcm, hcs, htk⟩
  · cases h3
  · simp only [Value.slice.injEq, Option.some.injEq, Addr.mk.injEq] at hv
    obtain ⟨⟨rfl, _, _⟩, -, rfl⟩ := hv
    exact frozen_of_row w g t cur e hg
theorem own_srow {w : World} {base e g n cap : Nat} {L : List (Int × Int)} (h : w.ownsRow base e 2 (.slice (some ⟨g, 0, none⟩) n cap) n (spV L)) : SRow w (some ⟨g, 0, none⟩) n cap L := (Row.of_own h).2
theorem own_spcell {w : World} {base e g n cap : Nat} {L : List (Int × Int)} (h : w.ownsRow base e 2 (.slice (some ⟨g, 0, none⟩) n cap) n (spV L)) (k : Nat) (hk : k < n) :
    w.cell? ⟨g, k * 2, none⟩ = some (.int .i64 (L.getD k (0, 0)).1) ∧ w.cell? ⟨g, k * 2 + 1, none⟩ = some (.int .i64 (L.getD k (0, 0)).2) := by
  obtain ⟨b, off, hb, _, hc⟩ := SRow.at (own_srow h) k hk
  simp only [Option.some.injEq, Addr.mk.injEq] at hb
  obtain ⟨rfl, rfl, _⟩ := hb
  simpa using hc k hk

theorem spV_set : ∀ (L : List (Int × Int)) (k : Nat) (x : Int × Int), ((spV L).set (k * 2) (.int .i64 x.1)).set (k * 2 + 1) (.int .i64 x.2) = spV (L.set k x)
  | [], k, x => by simp [spV]
  | y :: L, 0, x => by simp [spV]
  | y :: L, k + 1, x => by
    have := spV_set L k x
    rw [show (k + 1) * 2 = k * 2 + 1 + 1 from by omega]
    simp only [spV, List.set_cons_succ, this]
theorem spV_take : ∀ (L : List (Int × Int)) (k : Nat), (spV L).take (k * 2) = spV (L.take k)
  | [], k => by simp [spV]
  | y :: L, 0 => by simp [spV]
  | y :: L, k + 1 => by
    have := spV_take L k
    rw [show (k + 1) * 2 = k * 2 + 1 + 1 from by omega]
    simp only [spV, List.take_succ_cons, this]

/-- The tail is cleared, the head stands. -/
theorem clear_tail {w : World} {base g n cap i : Nat} {L : List (Int × Int)} (h : w.ownsRow base 23 2 (.slice (some ⟨g, 0, none⟩) n cap) n (spV L)) (hi : i < n) :
    ∃ w', (∀ ty, (Builtin.clear_ #[26] ty #[.slice (some ⟨g, i * 2, none⟩) (n - i) (cap - i)]).run Try.prog w = .ok (.tuple #[]) w') ∧
      w'.ownsRow base 23 2 (.slice (some ⟨g, 0, none⟩) i cap) i (spV (L.take i)) ∧ w.grownBy w' (some g) := by
  obtain ⟨h1, h2⟩ := h
  rcases h2 with ⟨h3, _⟩ | ⟨g', cap', cur, hv, hbg, hg, hle, hcm, hcs, htk⟩
  · cases h3
  simp only [Value.slice.injEq, Option.some.injEq, Addr.mk.injEq] at hv
  obtain ⟨⟨rfl, _, _⟩, -, rfl⟩ := hv
  have hz : ∀ w, (zeroValue 23).run Try.prog w = .ok (.agg #[.int .i64 0, .int .i64 0]) w := Try.zeroValue23
  have hzc : (Value.agg #[.int .i64 0, .int .i64 0]).cells = #[.int .i64 0, .int .i64 0] := rfl
  have hlen : (Builtin.zeroCells (#[.int .i64 0, .int .i64 0] : Array Value) (n - i)).toList.length = (n - i) * 2 := by simp [Builtin.zeroCells]
  have h1c : ∀ v ∈ (Builtin.zeroCells (#[.int .i64 0, .int .i64 0] : Array Value) (n - i)).toList, v.oneCell' = true := by
    intro v hv
    simp [Builtin.zeroCells] at hv
    obtain ⟨q, _, rfl⟩ := hv
    rcases Nat.mod_two_eq_zero_or_one q with h0 | h0 <;> rw [h0] <;> rfl
  have hll : L.length = n := by rw [spV_len] at h1; omega
  have hst := run_storeCells_at (P := Try.prog) g (i * 2) 23 (Builtin.zeroCells (#[.int .i64 0, .int .i64 0] : Array Value) (n - i)).toList 0 cur w hg (by rw [hlen, hcs]; omega) h1c
  refine ⟨w.setRow g (cur.toList.take (i * 2 + 0) ++ (Builtin.zeroCells (#[.int .i64 0, .int .i64 0] : Array Value) (n - i)).toList ++ cur.toList.drop (i * 2 + 0 + (Builtin.zeroCells (#[.int .i64 0, .int .i64 0] : Array Value) (n - i)).toList.length)).toArray, fun ty => ?_, ?_, ?_⟩
  · obtain ⟨m, hm⟩ : ∃ m, n - i = m + 1 := ⟨n - i - 1, by omega⟩
    have hzc2 : (Builtin.zeroCells (Value.agg #[.int .i64 0, .int .i64 0]).cells (m + 1)).toList = (Builtin.zeroCells (#[.int .i64 0, .int .i64 0] : Array Value) (n - i)).toList := by rw [hm, hzc]
    generalize (Builtin.zeroCells (#[.int .i64 0, .int .i64 0] : Array Value) (n - i)).toList = Z at *
    rw [hm]
    simp [Builtin.clear_, run_underlying Try.underlying26, hz, hzc2, hst]
  · refine ⟨by rw [spV_len]; simp [hll]; omega, .inr ⟨g, cap, _, rfl, hbg, setRow_heap w g cur _ _ (0, 0) hg, by omega, hcm, ?_, ?_⟩⟩
    · simp only [List.size_toArray, List.length_append, List.length_take, List.length_drop, Array.length_toList, hlen]
      omega
    · rw [Nat.add_zero, List.append_assoc, List.take_append_of_le_length (by simp; omega), List.take_take, Nat.min_self]
      have : (cur.toList.take (n * 2)).take (i * 2) = (spV L).take (i * 2) := by rw [htk]
      rw [List.take_take, Nat.min_eq_left (by omega)] at this
      rw [this, spV_take]
  · exact ⟨rfl, rfl, rfl, by simp, fun k _ hne => setRow_other w g k _ (fun e => hne (by rw [e]))⟩
end Go.Proofs.Ytimeacigbacadaa
