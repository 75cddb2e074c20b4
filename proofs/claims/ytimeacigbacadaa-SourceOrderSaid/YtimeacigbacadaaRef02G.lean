/-
  Walks of layer 2's reference: the spans of marks.
-/
import Derived.Test.YtimeacigbacadaaPc2
namespace Go.Proofs.Ytimeacigbacadaa
open Go.RowKit Go.Sort

theorem made_fl (z : Value) (n : Nat) : (madeCells #[z] (n * 1)).toList = fl n (fun _ => z) := by
  rw [Nat.mul_one, toList_madeCells_one, fl_replicate]
theorem own_cell {w : World} {base e g n cap : Nat} {enc : Nat → Value} (h : w.ownsRow base e 1 (.slice (some ⟨g, 0, none⟩) n cap) n (fl n enc)) (i : Nat) (hi : i < n) : w.cell? ⟨g, i, none⟩ = some (enc i) := by
  rw [h.cellAt i (by omega), fl_get enc hi]
theorem own_set {w : World} {base e g n cap : Nat} {enc : Nat → Value} (h : w.ownsRow base e 1 (.slice (some ⟨g, 0, none⟩) n cap) n (fl n enc)) (i : Nat) (v : Value) :
    (w.setCell ⟨g, i, none⟩ v).ownsRow base e 1 (.slice (some ⟨g, 0, none⟩) n cap) n (fl n (fun j => if j = i then v else enc j)) := by
  rw [← fl_set]; exact (h.stored i v).1
theorem own_congr {w : World} {base e sz : Nat} {v : Value} {n : Nat} {xs ys : List Value} (h : w.ownsRow base e sz v n xs) (hx : xs = ys) : w.ownsRow base e sz v n ys := hx ▸ h

/-- The element type bool, as a slice's. -/
theorem ETBl : ElemT Try.prog 53 4 (.bool false) 1 1 := ⟨Try.underlying53, by kernel_rfl, rfl, by omega⟩

/-- A row of marks. -/
def mkV (m : Nat → Bool) (n : Nat) : List Value := fl n fun i => .bool (m i)
def MarksEnd (m : Nat → Bool) (n : Nat) (w : World) (e : Ending) (w' : World) : Prop := ∃ v, e = .returned v ∧ w'.ownsRow w.heap.size 4 1 v n (mkV m n) ∧ Below w.heap.size w w'

theorem mk_cell (m : Nat → Bool) : ∀ i, (Value.bool (m i)).oneCell' = true := fun _ => rfl

def SpansEnd (m : Nat → Bool) (n : Nat) (w : World) (e : Ending) (w' : World) : Prop := ∃ (L : List (Int × Int)) (v : Value), SpOf n m L ∧ e = .returned v ∧ w'.ownsRow w.heap.size 23 2 v L.length (spV L) ∧ Below w.heap.size w w'

set_option maxHeartbeats 1000000 in
theorem rspans_any (a : Option Addr) (n cap : Nat) (m : Nat → Bool) (w : World) (hr : Row w 1 a n cap (mkV m n)) (hn : n ≤ 1000000) :
    Calls Try.prog 26 #[.slice a n cap] w (SpansEnd m n w) := by
  have HR := Lib.hid hr
  clear hr
  go_enter Try.func26, Try.ntmps26
  go_wp2
  go_loopw [3, 4, 5] (fun vo vf vi wr => ∃ (k : Nat) (f : Int) (out : List (Int × Int)), vi = .int .i64 k ∧ vf = .int .i64 f ∧ k ≤ n + 1 ∧ Hid (SpSt (fun i => decide (i < n) && m i) k out f) ∧ Hid (wr.ownsRow w.heap.size 23 2 vo out.length (spV out)) ∧ Hid (Below w.heap.size w wr)) (fun _ _ vi _ => n + 1 - (intOf vi).toNat)
  case atStart => exact ⟨0, -1, [], rfl, rfl, Nat.zero_le _, Lib.hid (SpSt.zero _), Lib.hid (World.ownsRow_nil _ _ _ _), Lib.hid (Below.refl _ _)⟩
  case round =>
    obtain ⟨k, f, out, rfl, rfl, hk, HS, HO, HB⟩ := hrel
    obtain ⟨hf1, hf2⟩ := HS.out.rng
    have hol : out.length ≤ k := HS.out.len
    have hsw := HB.out.size
    obtain ⟨aO, cO, rfl, _, _⟩ := Row.of_owns HO.out
    by_cases hlt : k < n
    · obtain ⟨b, off, rfl, _, hc⟩ := Row.at (enc := fun i => Value.bool (m i)) 0 (l := List.range n) (HR.out.mono HB.out) k hlt
      have hck := hc k hlt
      rw [show (List.range n).getD k 0 = k from by simp [List.getD, hlt]] at hck
      obtain ⟨c, hmk⟩ : ∃ c, m k = c := ⟨_, rfl⟩
      have HBK : Hid ((decide (k < n) && m k) = c) := Lib.hid (by rw [hmk]; simp [hlt])
      rw [hmk] at hck
      clear hc hmk
      cases c
      · skip
        by_cases hf : f < 0
        · have df : decide (0 ≤ f) = false := by simpa using hf
          have HN := Lib.hid (HS.out.none HBK.out hf)
          go_wp2
          go_roundw
          case rel => exact ⟨k + 1, -1, out, by go_num, by have := HS.out.rng; exact congrArg _ (by omega), by omega, HN, HO, HB⟩
          case measure => simp [intOf]; omega
        · have df : decide (0 ≤ f) = true := by simpa using hf
          have HN := Lib.hid (HS.out.close HBK.out (by omega))
          go_wp2_with (at_builtin; refine append_row ETS rfl (.tmp 35) (.tmp 39) rfl w.heap.size _ out.length _ rfl (HO.out.alloc _) _ 1 _ _ rfl (row_new2 _ _ _ _) (spV_one_cell [(f, (k : Int))]) (by unfold maxLen; omega) (by omega) (by rw [sizeA]; omega) ?_; intro v' w5 hO5 hg5 hnil5; have HO5 := Lib.hid hO5; have HG5 := Lib.hid hg5; clear hO5 hg5 hnil5)
          go_roundw
          case rel => exact ⟨k + 1, -1, out ++ [(f, (k : Int))], by go_num, rfl, by omega, HN, Lib.hid (by rw [spV_append, List.length_append]; exact HO5.out), Lib.hid ((HB.out.alloc hsw _).grown HG5.out (by rw [sizeA]; omega) (fun q hq => (HO.out.lt q hq).1))⟩
          case measure => simp [intOf]; omega
      · skip
        by_cases hf : f < 0
        · have HN := Lib.hid (HS.out.begin HBK.out hf)
          go_wp2
          go_roundw
          case rel => exact ⟨k + 1, k, out, by go_num, rfl, by omega, HN, HO, HB⟩
          case measure => simp [intOf]; omega
        · have df : decide (f < 0) = false := by simpa using hf
          have HN := Lib.hid (HS.out.on HBK.out (by omega))
          go_wp2
          go_roundw
          case rel => exact ⟨k + 1, f, out, by go_num, rfl, by omega, HN, HO, HB⟩
          case measure => simp [intOf]; omega
    · by_cases hkn : k = n
      · subst hkn
        have HBK : Hid ((decide (k < k) && m k) = false) := Lib.hid (by simp)
        by_cases hf : f < 0
        · have df : decide (0 ≤ f) = false := by simpa using hf
          have HN := Lib.hid (HS.out.none HBK.out hf)
          go_wp2
          go_roundw
          case rel => exact ⟨k + 1, -1, out, by go_num, by have := HS.out.rng; exact congrArg _ (by omega), by omega, HN, HO, HB⟩
          case measure => simp [intOf]
        · have df : decide (0 ≤ f) = true := by simpa using hf
          have HN := Lib.hid (HS.out.close HBK.out (by omega))
          go_wp2_with (at_builtin; refine append_row ETS rfl (.tmp 35) (.tmp 39) rfl w.heap.size _ out.length _ rfl (HO.out.alloc _) _ 1 _ _ rfl (row_new2 _ _ _ _) (spV_one_cell [(f, (k : Int))]) (by unfold maxLen; omega) (by omega) (by rw [sizeA]; omega) ?_; intro v' w5 hO5 hg5 hnil5; have HO5 := Lib.hid hO5; have HG5 := Lib.hid hg5; clear hO5 hg5 hnil5)
          go_roundw
          case rel => exact ⟨k + 1, -1, out ++ [(f, (k : Int))], by go_num, rfl, by omega, HN, Lib.hid (by rw [spV_append, List.length_append]; exact HO5.out), Lib.hid ((HB.out.alloc hsw _).grown HG5.out (by rw [sizeA]; omega) (fun q hq => (HO.out.lt q hq).1))⟩
          case measure => simp [intOf]
      · obtain rfl : k = n + 1 := by omega
        have HF := Lib.hid HS.out.fin
        go_wp2
        go_ret
        exact ⟨out, _, HF.out, rfl, HO.out, HB.out⟩
end Go.Proofs.Ytimeacigbacadaa
