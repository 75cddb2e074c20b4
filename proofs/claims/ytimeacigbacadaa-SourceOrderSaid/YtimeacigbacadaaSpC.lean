/-
  slices.Clone at spans: the same cells in memory of the call's own; what is empty; the first empty one.
-/
import Derived.Test.YtimeacigbacadaaProg
import Derived.Test.YtimeacigbacadaaSpS
import Derived.BigQuiet
namespace Go.Proofs.Ytimeacigbacadaa
open Go.RowKit Go.Sort

theorem ETS : ElemT Try.prog 26 23 (.agg #[.int .i64 0, .int .i64 0]) 2 16 := ⟨Try.underlying26, by kernel_rfl, rfl, by omega⟩

theorem cloneS (a : Option Addr) (n cap : Nat) (xs : List Value) (w : World) (hr : Row w 2 a n cap xs) (h1 : ∀ u ∈ xs, u.oneCell' = true) (hby : n * 16 ≤ 140737488355328) :
    Calls Try.prog 33 #[.slice a n cap] w fun e w' => ∃ v, e = .returned v ∧ w'.ownsRow w.heap.size 23 2 v n xs ∧ Below w.heap.size w w' ∧ NN a v := by
  rcases a with _ | ad
  · obtain ⟨r1, r2, r3, r4, r5⟩ := hr
    obtain rfl := r4 rfl
    obtain rfl : n = 0 := by omega
    obtain rfl : xs = [] := List.eq_nil_of_length_eq_zero (by simpa using r1)
    have hnil := fun W : World => Lib.run_eql_slice_nil (P := Try.prog) W 26 23 none 0 0 0 0 Try.underlying26
    go_enter Try.func33, Try.ntmps33
    go_wp2
    go_ret
    exact ⟨_, rfl, World.ownsRow_nil _ _ _ _, Below.refl _ _, fun h => absurd rfl h⟩
  · have hm : n ≤ maxLen := Nat.le_trans hr.2.1 hr.2.2.1
    have hnil := fun W : World => Lib.run_eql_slice_nil (P := Try.prog) W 26 23 (some ad) n cap 0 0 Try.underlying26
    have HR := Lib.hid (hr.mono (belowA w (.cells #[] 23)))
    have hO := World.ownsRow_lit (base := w.heap.size) (e := 23) (size := 2) w #[] 0 (Nat.le_refl _) (by simp [maxLen]) (by simp)
    have HO := Lib.hid hO
    clear hO hr
    go_enter Try.func33, Try.ntmps33
    go_wp2_with (at_builtin; refine append_row ETS rfl (.tmp 5) (.tmp 6) rfl w.heap.size (.slice (some ⟨w.heap.size, 0, none⟩) 0 0) 0 _ rfl HO.out _ n _ _ rfl HR.out h1 (by omega) (by omega) (by simp) ?_; intro v' w1 hO1 hg hnil; have HO1 := Lib.hid hO1; have HN := Lib.hid hnil; have HG := Lib.hid hg; clear hO1 hnil hg)
    go_ret
    refine ⟨_, rfl, by simpa using HO1.out, below_grown (belowA w _) HG.out (by rw [sizeA]; omega) (fun k hk => by simp [Value.ownBlock] at hk; omega), fun _ h => ?_⟩
    have := HN.out.1 h; simp at this

set_option maxHeartbeats 400000 in
theorem empty_any (x y : Int) (w : World) :
    Calls Try.prog 31 #[.agg #[.int .i64 x, .int .i64 y]] w fun e w' => e = .returned (.bool (emp (x, y))) ∧ w' = w.alloc (.cells #[.int .i64 x, .int .i64 y] 23) := by
  have hv : emp (x, y) = (decide (x < 0) || decide (y ≤ x)) := rfl
  by_cases h1 : x < 0
  · have h2 : decide (x < 0) = true := by simpa using h1
    rw [h2, Bool.true_or] at hv
    have HV := Lib.hid hv
    clear hv
    go_enter Try.func31, Try.ntmps31
    go_wp2
    go_ret
    exact ⟨ret_bool HV.out.symm, rfl⟩
  · have h2 : decide (x < 0) = false := by simpa using h1
    rw [h2, Bool.false_or] at hv
    have HV := Lib.hid hv
    clear hv
    go_enter Try.func31, Try.ntmps31
    go_wp2
    go_ret
    exact ⟨ret_bool HV.out.symm, rfl⟩

theorem enters_empty : ∀ args w, (callFunc 31 args).run Try.prog w = .ok (.enter 31 args) w := enters_of Try.func31 (by kernel_rfl) rfl

/-- Where the first empty one is, or -1. -/
def FirstEmpty (L : List (Int × Int)) (r : Int) : Prop := (r = -1 ∧ ∀ x ∈ L, emp x = false) ∨ ∃ k : Nat, r = (k : Int) ∧ k < L.length ∧ emp (L.getD k (0, 0)) = true ∧ ∀ j, j < k → emp (L.getD j (0, 0)) = false

def IndexEnd (L : List (Int × Int)) (w : World) (e : Ending) (w' : World) : Prop := ∃ r, e = .returned (.int .i64 r) ∧ FirstEmpty L r ∧ Below w.heap.size w w'

set_option maxHeartbeats 400000 in
theorem indexS_any (a : Option Addr) (n cap : Nat) (L : List (Int × Int)) (w : World) (hr : SRow w a n cap L) :
    Calls Try.prog 40 #[.slice a n cap, .func (.func 31) #[] #[]] w (IndexEnd L w) := by
  have hm := hr.i64
  have hl := hr.len
  have eg := enters_empty
  have HL := Lib.hid hl
  have HR := Lib.hid hr
  clear hl hr
  go_enter Try.func40, Try.ntmps40
  go_wp2
  go_loopw [8] (fun i wr => ∃ k : Nat, k ≤ n ∧ i = .int .i64 k ∧ Hid (∀ j, j < k → emp (L.getD j (0, 0)) = false) ∧ Hid (Below w.heap.size w wr)) (fun i _ => n - (intOf i).toNat)
  case atStart => exact ⟨0, by omega, rfl, Lib.hid (fun j h => by omega), Lib.hid (Below.refl _ _)⟩
  case round =>
    obtain ⟨k, hk, rfl, HE, HB⟩ := hrel
    by_cases hlt : k < n
    · obtain ⟨b, off, rfl, hblt, hc⟩ := SRow.at (HR.out.mono HB.out) k hlt
      obtain ⟨hc0, hc1⟩ := hc k hlt
      obtain ⟨x, y, hxy⟩ : ∃ x y, L.getD k (0, 0) = (x, y) := ⟨_, _, rfl⟩
      rw [hxy] at hc0 hc1
      have HXY := Lib.hid hxy
      simp only at hc0 hc1
      clear hc hxy
      have hem := fun W => empty_any x y W
      generalize hb2 : emp (x, y) = be at hem
      have HBE := Lib.hid hb2
      have HEM := Lib.hid hem
      clear hem hb2
      cases be
      · go_wp2_with fail
        refine (HEM.out _).mono ?_
        rintro e w' ⟨rfl, rfl⟩
        go_wp2
        go_roundw
        case rel => exact ⟨k + 1, by omega, by go_num, Lib.hid (fun j hj => by
          by_cases h : j = k
          · subst h; rw [HXY.out]; exact HBE.out
          · exact HE.out j (by omega)), Lib.hid (HB.out.alloc (by exact HB.out.size) _)⟩
        case measure => simp [intOf]; omega
      · go_wp2_with fail
        refine (HEM.out _).mono ?_
        rintro e w' ⟨rfl, rfl⟩
        go_wp2
        go_ret
        exact ⟨k, rfl, .inr ⟨k, rfl, by rw [HL.out]; exact hlt, by rw [HXY.out]; exact HBE.out, HE.out⟩, HB.out.alloc (by exact HB.out.size) _⟩
    · obtain rfl : k = n := by omega
      go_wp2
      go_ret
      exact ⟨-1, rfl, .inl ⟨rfl, fun x hx => by
        obtain ⟨j, hj, he⟩ := List.mem_iff_getElem.1 hx
        have := HE.out j (by rw [← HL.out]; exact hj)
        simpa [List.getD, hj, he] using this⟩, HB.out⟩
end Go.Proofs.Ytimeacigbacadaa
