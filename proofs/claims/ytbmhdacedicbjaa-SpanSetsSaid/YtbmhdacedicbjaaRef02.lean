/-
  Walks of layer 2's reference: is a span small; marks; the spans of marks; a span cut off.
-/
import Derived.Test.YtbmhdacedicbjaaRefP
namespace Go.Proofs.Ytbmhdacedicbjaa
open Go.RowKit Go.Sort

def smB (x y : Int) : Bool := decide (-300 ≤ x) && decide (x ≤ 300) && decide (-300 ≤ y) && decide (y ≤ 300)
theorem smB_iff (x y : Int) : smB x y = true ↔ -300 ≤ x ∧ x ≤ 300 ∧ -300 ≤ y ∧ y ≤ 300 := by simp [smB, and_assoc]

set_option maxHeartbeats 1000000 in
theorem small_any (x y : Int) (w : World) : Calls Try.prog 30 #[.agg #[.int .i64 x, .int .i64 y]] w fun e w' => e = .returned (.bool (smB x y)) ∧ Below w.heap.size w w' := by
  have hb0 := belowA w (.cells #[.int .i64 x, .int .i64 y] 56)
  obtain ⟨V, hV⟩ : ∃ V, V = smB x y := ⟨_, rfl⟩
  rw [← hV]
  have HB := Lib.hid hb0
  unfold smB at hV
  clear hb0
  by_cases h1 : -300 ≤ x
  · have d1 : decide (-300 ≤ x) = true := by simpa using h1
    by_cases h2 : x ≤ 300
    · have d2 : decide (x ≤ 300) = true := by simpa using h2
      by_cases h3 : -300 ≤ y
      · have d3 : decide (-300 ≤ y) = true := by simpa using h3
        by_cases h4 : y ≤ 300
        · have d4 : decide (y ≤ 300) = true := by simpa using h4
          rw [d1, d2, d3, d4] at hV
          have HV := Lib.hid hV
          clear hV
          go_enter Try.func30, Try.ntmps30
          go_wp2
          go_ret
          exact ⟨ret_bool (by rw [HV.out]; rfl), HB.out⟩
        · have d4 : decide (y ≤ 300) = false := by simpa using h4
          rw [d1, d2, d3, d4] at hV
          have HV := Lib.hid hV
          clear hV
          go_enter Try.func30, Try.ntmps30
          go_wp2
          go_ret
          exact ⟨ret_bool (by rw [HV.out]; rfl), HB.out⟩
      · have d3 : decide (-300 ≤ y) = false := by simpa using h3
        rw [d1, d2, d3] at hV
        have HV := Lib.hid hV
        clear hV
        go_enter Try.func30, Try.ntmps30
        go_wp2
        go_ret
        exact ⟨ret_bool (by rw [HV.out]; rfl), HB.out⟩
    · have d2 : decide (x ≤ 300) = false := by simpa using h2
      rw [d1, d2] at hV
      have HV := Lib.hid hV
      clear hV
      go_enter Try.func30, Try.ntmps30
      go_wp2
      go_ret
      exact ⟨ret_bool (by rw [HV.out]; rfl), HB.out⟩
  · have d1 : decide (-300 ≤ x) = false := by simpa using h1
    rw [d1] at hV
    have HV := Lib.hid hV
    clear hV
    go_enter Try.func30, Try.ntmps30
    go_wp2
    go_ret
    exact ⟨ret_bool (by rw [HV.out]; rfl), HB.out⟩

/-- The element type bool, as a slice's. -/
theorem ETBl : ElemT Try.prog 34 4 (.bool false) 1 1 := ⟨Try.underlying34, by kernel_rfl, rfl, by omega⟩

/-- A row of marks. -/
def mkV (m : Nat → Bool) (n : Nat) : List Value := fl n fun i => .bool (m i)
def MarksEnd (m : Nat → Bool) (n : Nat) (w : World) (e : Ending) (w' : World) : Prop := ∃ v, e = .returned v ∧ w'.ownsRow w.heap.size 4 1 v n (mkV m n) ∧ Below w.heap.size w w'

theorem mk_in {m : Nat → Bool} {z : Int × Int} {k n : Nat} (h : inB z k = true) : fl n (fun j => if j = k then .bool true else .bool (m j || (decide (j < k) && inB z j))) = mkV (fun j => m j || (decide (j < k + 1) && inB z j)) n :=
  fl_congr fun j _ => by
    by_cases e : j = k
    · subst e; simp [h]
    · have : (j < k) = (j < k + 1) := by simp; omega
      simp [e, this]
theorem mk_out {m : Nat → Bool} {z : Int × Int} {k n : Nat} (h : inB z k = false) : mkV (fun j => m j || (decide (j < k) && inB z j)) n = mkV (fun j => m j || (decide (j < k + 1) && inB z j)) n :=
  fl_congr fun j _ => by
    by_cases e : j = k
    · subst e; simp [h]
    · have : (j < k) = (j < k + 1) := by simp; omega
      simp [this]
theorem mk_cell (m : Nat → Bool) : ∀ i, (Value.bool (m i)).oneCell' = true := fun _ => rfl

set_option maxHeartbeats 1000000 in
theorem rput_any (a : Option Addr) (n cap : Nat) (m : Nat → Bool) (x y : Int) (w : World) (hr : Row w 1 a n cap (mkV m n)) (hn0 : 0 < n) (hn : n ≤ 1000000) :
    Calls Try.prog 36 #[.slice a n cap, .agg #[.int .i64 x, .int .i64 y]] w (MarksEnd (fun i => m i || inB (x, y) i) n w) := by
  have hb0 := belowA w (.cells #[.int .i64 x, .int .i64 y] 56)
  have hbx : (w.alloc (.cells #[.int .i64 x, .int .i64 y] 56)).heap[w.heap.size]? = some (.cells #[.int .i64 x, .int .i64 y] 56 (0, 0)) := heapA_new _ rfl
  have hr0 := hr.mono hb0
  have hsz := sizeA w (.cells #[.int .i64 x, .int .i64 y] 56)
  have HB0 := Lib.hid hb0
  have HBX := Lib.hid hbx
  have HR0 := Lib.hid hr0
  have HSZ := Lib.hid hsz
  clear hr hb0 hbx hr0 hsz
  have hO := World.ownsRow_lit (base := w.heap.size + 1) (e := 4) (size := 1) (w.alloc (.cells #[.int .i64 x, .int .i64 y] 56)) #[] 0 (by rw [sizeA]; exact Nat.le_refl _) (by simp [maxLen]) (by simp)
  rw [sizeA] at hO
  have HO := Lib.hid hO
  have HR := Lib.hid (HR0.out.mono (belowA (w.alloc (.cells #[.int .i64 x, .int .i64 y] 56)) (.cells #[] 4)))
  clear hO
  go_enter Try.func36, Try.ntmps36
  go_wp2_with (at_builtin; refine append_row ETBl rfl (.tmp 7) (.tmp 8) rfl (w.heap.size + 1) (.slice (some ⟨w.heap.size + 1, 0, none⟩) 0 0) 0 _ rfl HO.out _ n _ _ rfl HR.out (oneCell_mem (mk_cell m) n) (by unfold maxLen; omega) (by omega) (by rw [sizeA, sizeA]; omega) ?_; intro v' w1 hO1 hg hnil; clear hnil; have HO1 := Lib.hid hO1; have HG := Lib.hid hg; clear hO1 hg)
  generalize w.alloc (.cells #[.int .i64 x, .int .i64 y] 56) = W at *
  rw [← HSZ.out] at HO1 HO HG
  have hg := HG.out
  have hO1 := HO1.out
  have HB1 := Lib.hid (below_grown (belowA W _) hg (by rw [sizeA]; omega) (fun k hk => by simp [Value.ownBlock] at hk; omega))
  rw [Nat.zero_add] at hO1
  obtain ⟨g, c, rfl, hge⟩ := own_shape hO1 (by omega)
  clear HO1 HG
  have HO1 := Lib.hid hO1
  clear hg hO1 HO HR
  go_wp2
  go_loopw [6] (fun i wr => ∃ k : Nat, i = .int .i64 k ∧ k ≤ n ∧ Hid (wr.ownsRow W.heap.size 4 1 (.slice (some ⟨g, 0, none⟩) n c) n (mkV (fun i => m i || (decide (i < k) && inB (x, y) i)) n)) ∧ Hid (Below W.heap.size W wr)) (fun i _ => n - (intOf i).toNat)
  case atStart => exact ⟨0, rfl, Nat.zero_le _, Lib.hid (own_congr HO1.out (by simp [mkV])), HB1⟩
  case round =>
    obtain ⟨k, rfl, hk, HO, HB⟩ := hrel
    by_cases hlt : k < n
    · have hbx := block_keep HB.out HBX.out
      have k0 : wr.cell? ⟨w.heap.size, 0, none⟩ = some (.int .i64 x) := by rw [cell_of_row wr _ 0 _ _ _ hbx]; rfl
      have k1 : wr.cell? ⟨w.heap.size, 1, none⟩ = some (.int .i64 y) := by rw [cell_of_row wr _ 1 _ _ _ hbx]; rfl
      have hc := own_cell HO.out k hlt
      have hfr := HO.out.frozenAt k
      clear hbx
      by_cases h1 : 0 ≤ x
      · have d1 : decide (0 ≤ x) = true := by simpa using h1
        by_cases h2 : x ≤ (k : Int)
        · have d2 : decide (x ≤ (k : Int)) = true := by simpa using h2
          by_cases h3 : (k : Int) < y
          · have d3 : decide ((k : Int) < y) = true := by simpa using h3
            have HI := Lib.hid (show inB (x, y) k = true from (inB_iff _ _).2 ⟨h1, h2, h3⟩)
            go_wp2
            go_roundw
            case rel => exact ⟨k + 1, by go_num, by omega, Lib.hid (own_congr (own_set HO.out k (.bool true)) (mk_in HI.out)), Lib.hid (HB.out.setCell hge _)⟩
            case measure => simp [intOf]; omega
          · have d3 : decide ((k : Int) < y) = false := by simpa using h3
            have HI := Lib.hid (show inB (x, y) k = false from by rw [Bool.eq_false_iff]; intro e; exact h3 ((inB_iff _ _).1 e).2.2)
            go_wp2
            go_roundw
            case rel => exact ⟨k + 1, by go_num, by omega, Lib.hid (own_congr HO.out (mk_out HI.out)), HB⟩
            case measure => simp [intOf]; omega
        · have d2 : decide (x ≤ (k : Int)) = false := by simpa using h2
          have HI := Lib.hid (show inB (x, y) k = false from by rw [Bool.eq_false_iff]; intro e; exact h2 ((inB_iff _ _).1 e).2.1)
          go_wp2
          go_roundw
          case rel => exact ⟨k + 1, by go_num, by omega, Lib.hid (own_congr HO.out (mk_out HI.out)), HB⟩
          case measure => simp [intOf]; omega
      · have d1 : decide (0 ≤ x) = false := by simpa using h1
        have HI := Lib.hid (show inB (x, y) k = false from by rw [Bool.eq_false_iff]; intro e; exact h1 ((inB_iff _ _).1 e).1)
        go_wp2
        go_roundw
        case rel => exact ⟨k + 1, by go_num, by omega, Lib.hid (own_congr HO.out (mk_out HI.out)), HB⟩
        case measure => simp [intOf]; omega
    · obtain rfl : k = n := by omega
      go_wp2
      go_ret
      exact ⟨_, rfl, own_congr (ownsRow_base HO.out (by have := HSZ.out; omega)) (fl_congr fun j hj => by simp [hj]), HB0.out.trans (HB.out.mono HB0.out.size)⟩

def SpansEnd (m : Nat → Bool) (n : Nat) (w : World) (e : Ending) (w' : World) : Prop := ∃ (L : List (Int × Int)) (v : Value), SpOf n m L ∧ e = .returned v ∧ w'.ownsRow w.heap.size 56 2 v L.length (spV L) ∧ Below w.heap.size w w'

set_option maxHeartbeats 1000000 in
theorem rspans_any (a : Option Addr) (n cap : Nat) (m : Nat → Bool) (w : World) (hr : Row w 1 a n cap (mkV m n)) (hn : n ≤ 1000000) :
    Calls Try.prog 38 #[.slice a n cap] w (SpansEnd m n w) := by
  have HR := Lib.hid hr
  clear hr
  go_enter Try.func38, Try.ntmps38
  go_wp2
  go_loopw [3, 4, 5] (fun vo vf vi wr => ∃ (k : Nat) (f : Int) (out : List (Int × Int)), vi = .int .i64 k ∧ vf = .int .i64 f ∧ k ≤ n + 1 ∧ Hid (SpSt (fun i => decide (i < n) && m i) k out f) ∧ Hid (wr.ownsRow w.heap.size 56 2 vo out.length (spV out)) ∧ Hid (Below w.heap.size w wr)) (fun _ _ vi _ => n + 1 - (intOf vi).toNat)
  case atStart => exact ⟨0, -1, [], rfl, rfl, Nat.zero_le _, Lib.hid (SpSt.zero _), Lib.hid (World.ownsRow_nil _ _ _ _), Lib.hid (Below.refl _ _)⟩
  case round =>
    obtain ⟨k, f, out, rfl, rfl, hk, HS, HO, HB⟩ := hrel
    obtain ⟨hf1, hf2⟩ := HS.out.rng
    have hol : out.length ≤ k := HS.out.len
    have hsw := HB.out.size
    obtain ⟨aO, cO, rfl, _, _⟩ := Row.of_owns HO.out
    by_cases hlt : k < n
    · obtain ⟨b, off, rfl, _, hc⟩ := Row.at (enc := fun i => Value.bool (m i)) 0 (l := List.range n) (HR.out.mono HB.out) k hlt
      have hck := hc k hlt
      rw [show (List.range n).getD k 0 = k from by simp [List.getD, hlt]] at hck
      obtain ⟨c, hmk⟩ : ∃ c, m k = c := ⟨_, rfl⟩
      have HBK : Hid ((decide (k < n) && m k) = c) := Lib.hid (by rw [hmk]; simp [hlt])
      rw [hmk] at hck
      clear hc hmk
      cases c
      · skip
        by_cases hf : f < 0
        · have df : decide (0 ≤ f) = false := by simpa using hf
          have HN := Lib.hid (HS.out.none HBK.out hf)
          go_wp2
          go_roundw
          case rel => exact ⟨k + 1, -1, out, by go_num, by have := HS.out.rng; exact congrArg _ (by omega), by omega, HN, HO, HB⟩
          case measure => simp [intOf]; omega
        · have df : decide (0 ≤ f) = true := by simpa using hf
          have HN := Lib.hid (HS.out.close HBK.out (by omega))
          go_wp2_with (at_builtin; refine append_row ETS rfl (.tmp 35) (.tmp 39) rfl w.heap.size _ out.length _ rfl (HO.out.alloc _) _ 1 _ _ rfl (row_new2 _ _ _ _) (spV_one_cell [(f, (k : Int))]) (by unfold maxLen; omega) (by omega) (by rw [sizeA]; omega) ?_; intro v' w5 hO5 hg5 hnil5; have HO5 := Lib.hid hO5; have HG5 := Lib.hid hg5; clear hO5 hg5 hnil5)
          go_roundw
          case rel => exact ⟨k + 1, -1, out ++ [(f, (k : Int))], by go_num, rfl, by omega, HN, Lib.hid (by rw [spV_append, List.length_append]; exact HO5.out), Lib.hid ((HB.out.alloc hsw _).grown HG5.out (by rw [sizeA]; omega) (fun q hq => (HO.out.lt q hq).1))⟩
          case measure => simp [intOf]; omega
      · skip
        by_cases hf : f < 0
        · have HN := Lib.hid (HS.out.begin HBK.out hf)
          go_wp2
          go_roundw
          case rel => exact ⟨k + 1, k, out, by go_num, rfl, by omega, HN, HO, HB⟩
          case measure => simp [intOf]; omega
        · have df : decide (f < 0) = false := by simpa using hf
          have HN := Lib.hid (HS.out.on HBK.out (by omega))
          go_wp2
          go_roundw
          case rel => exact ⟨k + 1, f, out, by go_num, rfl, by omega, HN, HO, HB⟩
          case measure => simp [intOf]; omega
    · by_cases hkn : k = n
      · subst hkn
        have HBK : Hid ((decide (k < k) && m k) = false) := Lib.hid (by simp)
        by_cases hf : f < 0
        · have df : decide (0 ≤ f) = false := by simpa using hf
          have HN := Lib.hid (HS.out.none HBK.out hf)
          go_wp2
          go_roundw
          case rel => exact ⟨k + 1, -1, out, by go_num, by have := HS.out.rng; exact congrArg _ (by omega), by omega, HN, HO, HB⟩
          case measure => simp [intOf]
        · have df : decide (0 ≤ f) = true := by simpa using hf
          have HN := Lib.hid (HS.out.close HBK.out (by omega))
          go_wp2_with (at_builtin; refine append_row ETS rfl (.tmp 35) (.tmp 39) rfl w.heap.size _ out.length _ rfl (HO.out.alloc _) _ 1 _ _ rfl (row_new2 _ _ _ _) (spV_one_cell [(f, (k : Int))]) (by unfold maxLen; omega) (by omega) (by rw [sizeA]; omega) ?_; intro v' w5 hO5 hg5 hnil5; have HO5 := Lib.hid hO5; have HG5 := Lib.hid hg5; clear hO5 hg5 hnil5)
          go_roundw
          case rel => exact ⟨k + 1, -1, out ++ [(f, (k : Int))], by go_num, rfl, by omega, HN, Lib.hid (by rw [spV_append, List.length_append]; exact HO5.out), Lib.hid ((HB.out.alloc hsw _).grown HG5.out (by rw [sizeA]; omega) (fun q hq => (HO.out.lt q hq).1))⟩
          case measure => simp [intOf]
      · obtain rfl : k = n + 1 := by omega
        have HF := Lib.hid HS.out.fin
        go_wp2
        go_ret
        exact ⟨out, _, HF.out, rfl, HO.out, HB.out⟩
end Go.Proofs.Ytbmhdacedicbjaa
