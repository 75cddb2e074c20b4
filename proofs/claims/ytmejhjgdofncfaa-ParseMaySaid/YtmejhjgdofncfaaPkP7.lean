/-
  Our texts Below to Lex6, in one.
-/
import Derived.Test.YtmejhjgdofncfaaPkP6
import Derived.Deep.QuietTactic
import Derived.BigQuiet
import Derived.Test.YtmejhjgdofncfaaProg
import Derived.StillTailTactics
/-
  A region that draws its order, whose operations only read and whose callees read or lay new memory: walked once, in the order of the text.
-/
namespace Go.Proofs.Ytmejhjgdofncfaa
open Go.RowKit

/-- A world that leaves W's memory as it was. -/
structure BelowW (W : World) where
  w : World
  h : Below W.heap.size W w

instance BelowW.there (W : World) : Nonempty (BelowW W) := ⟨⟨W, Below.refl _ _⟩⟩

theorem wp_region_below {P : Program} {id : Nat} {Q : Exit → Act → World → Prop} {a : Act} {W : World} {l : List Oper} (hm : P.follows .mixedOrders = true) (hB : Region.lexB .any l.toArray = true)
    (h : wpQuiet P l.toArray (fun w' => ∃ p : BelowW W, w' = p.w) (fun a' => ∀ w', (∃ p : BelowW W, w' = p.w) → Q .normal a' w') l a) : (Code.region id l.toArray true).wp P Q a W :=
  wp_region_quiet (C := fun w' => ∃ p : BelowW W, w' = p.w) hm hB ⟨⟨W.drew, (Below.refl _ _).drew⟩, rfl⟩ (by simpa using h)

theorem Calls.below_of {P : Program} {f : FuncId} {args : Array Value} {W : World} {p : BelowW W} {v : Value}
    (h : Calls P f args p.w fun e w' => e = .returned v ∧ Below p.w.heap.size p.w w') : Calls P f args p.w fun e w'' => e = .returned v ∧ ∃ p' : BelowW W, w'' = p'.w :=
  h.mono fun _ w' ⟨he, hb⟩ => ⟨he, ⟨w', p.h.trans (hb.mono p.h.size)⟩, rfl⟩
theorem BelowW.cell {W : World} {b o : Nat} {v : Value} (hc : W.cell? ⟨b, o, none⟩ = some v) (p : BelowW W) : p.w.cell? ⟨b, o, none⟩ = some v := cell?_keep p.h hc
end Go.Proofs.Ytmejhjgdofncfaa
/-
  The walk of ref11.Compare and Same: how two values stand.
-/
namespace Go.Proofs.Ytmejhjgdofncfaa
open Go.RowKit

theorem less_mkB : ∀ a b : List UInt8, Op.bytesLess a b = sLt a b
  | [], [] => rfl
  | [], _ :: _ => rfl
  | _ :: _, [] => rfl
  | a :: l, b :: m => by
    simp only [Op.bytesLess, sLt]
    rw [less_mkB l m]
    by_cases h : a.toNat < b.toNat
    · rw [if_pos h]
      have : (a < b) := h
      simp [this]
    · rw [if_neg h]
      have h' : ¬ (a < b) := h
      by_cases h2 : b.toNat < a.toNat
      · rw [if_pos h2]
        have : (a == b) = false := by rw [beq_eq_false_iff_ne]; intro e; subst e; omega
        simp [h', this]
      · rw [if_neg h2]
        have : a = b := UInt8.toNat_inj.1 (by omega)
        subst this
        simp
theorem toList_mkB (l : List UInt8) : (mkB l).toList = l := by unfold mkB; exact ByteArray.toList_eq _

structure Box4 (w : World) (b : Nat) (v : PV) (sl : Value) : Prop where
  blk : w.heap[b]? = some (.cells #[.int .i64 v.kind, .int .i64 v.n, .string (mkB v.s), sl] 27 (0, 0))
theorem Box4.cells {w : World} {b : Nat} {v : PV} {sl : Value} (h : Box4 w b v sl) : w.cell? ⟨b, 0, none⟩ = some (.int .i64 v.kind) ∧ w.cell? ⟨b, 1, none⟩ = some (.int .i64 v.n) ∧ w.cell? ⟨b, 2, none⟩ = some (.string (mkB v.s)) ∧ w.cell? ⟨b, 3, none⟩ = some sl := by
  refine ⟨?_, ?_, ?_, ?_⟩
  · rw [cell_of_row w b 0 _ _ _ h.blk]; rfl
  · rw [cell_of_row w b 1 _ _ _ h.blk]; rfl
  · rw [cell_of_row w b 2 _ _ _ h.blk]; rfl
  · rw [cell_of_row w b 3 _ _ _ h.blk]; rfl

theorem cmpL_step {l m : List PV} {k : Nat} {x y : PV} (h1 : l[k]? = some x) (h2 : m[k]? = some y) :
    compareL (l.drop k) (m.drop k) = if compareC x y ≠ 0 then compareC x y else compareL (l.drop (k + 1)) (m.drop (k + 1)) := by
  obtain ⟨g1, e1⟩ := List.getElem?_eq_some_iff.1 h1
  obtain ⟨g2, e2⟩ := List.getElem?_eq_some_iff.1 h2
  rw [List.drop_eq_getElem_cons g1, List.drop_eq_getElem_cons g2, e1, e2]
  rfl
theorem cmpL_end {l m : List PV} {k : Nat} (h : ¬ (k < l.length ∧ k < m.length)) (h1 : k ≤ l.length) (h2 : k ≤ m.length) :
    compareL (l.drop k) (m.drop k) = if l.length < m.length then -1 else if m.length < l.length then 1 else 0 := by
  by_cases g1 : k < l.length
  · have g2 : k = m.length := by omega
    rw [List.drop_eq_getElem_cons g1, List.drop_of_length_le (l := m) (by omega), if_neg (by omega), if_pos (by omega)]
    rfl
  · rw [List.drop_of_length_le (l := l) (by omega)]
    by_cases g2 : k < m.length
    · rw [List.drop_eq_getElem_cons g2, if_pos (by omega)]
      rfl
    · rw [List.drop_of_length_le (l := m) (by omega), if_neg (by omega), if_neg (by omega)]
      rfl
def anyF : Nat → Prop := fun _ => True
theorem IsV.any {w : World} {F : Nat → Prop} {v : PV} {sl : Value} (h : IsV w F v sl) : IsV w anyF v sl := h.weaken fun _ _ => trivial
theorem sizeOf_mem {v x : PV} {k : Nat} (h : v.l[k]? = some x) : SizeOf.sizeOf x < SizeOf.sizeOf v := by
  obtain ⟨a, b, c, l⟩ := v
  have : SizeOf.sizeOf x < SizeOf.sizeOf l := List.sizeOf_lt_of_mem (List.mem_of_getElem? (h : l[k]? = some x))
  simp only [PV.mk.sizeOf_spec]; omega

set_option maxRecDepth 8000 in
set_option maxHeartbeats 4000000 in
theorem compare_any : ∀ (N : Nat) (a b : PV) (sa sb : Value) (w : World), SizeOf.sizeOf a ≤ N → IsV w anyF a sa → IsV w anyF b sb →
    Calls Try.prog 12 #[pvA a sa, pvA b sb] w fun e w' => e = .returned (.int .i64 (compareC a b)) ∧ Below w.heap.size w w' := by
  intro N
  induction N with
  | zero => intro a b sa sb w h; obtain ⟨_, _, _, _⟩ := a; simp at h
  | succ N ih =>
  intro a b sa sb w hN ha hb
  obtain ⟨a1, cap1, e1, g1, g2, g3⟩ := ha.len
  obtain ⟨a2, cap2, e2, g4, g5, g6⟩ := hb.len
  have HA := Lib.hid ha
  have HB := Lib.hid hb
  have HIH := Lib.hid ih
  have HN := Lib.hid hN
  have hC : compareC a b = if a.kind < b.kind ∨ (a.kind = b.kind ∧ (a.n < b.n ∨ (a.n = b.n ∧ sLt a.s b.s = true))) then -1
    else if a.kind ≠ b.kind ∨ a.n ≠ b.n ∨ a.s ≠ b.s then 1 else compareL a.l b.l := by
    obtain ⟨_, _, _, _⟩ := a; obtain ⟨_, _, _, _⟩ := b; simp only [compareC]; rfl
  have HSA := Lib.hid (fun (k : Nat) (x : PV) (h : a.l[k]? = some x) => sizeOf_mem h)
  subst e1 e2
  obtain ⟨la, hla⟩ : ∃ la, la = a.l := ⟨_, rfl⟩
  obtain ⟨lb, hlb⟩ : ∃ lb, lb = b.l := ⟨_, rfl⟩
  rw [← hla] at g1 HA ⊢
  rw [← hlb] at g4 HB ⊢
  rw [← hla, ← hlb] at hC
  have HLA := Lib.hid hla
  have HLB := Lib.hid hlb
  have m1 : (la.length : Int) ≤ 9223372036854775807 := by unfold maxLen at g2; omega
  have m2 : (lb.length : Int) ≤ 9223372036854775807 := by unfold maxLen at g5; omega
  have hl2 : Op.bytesLess (mkB a.s).toList (mkB b.s).toList = sLt a.s b.s := by rw [toList_mkB, toList_mkB, less_mkB]
  have hl3 : ((mkB a.s).toList == (mkB b.s).toList) = decide (a.s = b.s) := by rw [toList_mkB, toList_mkB]; by_cases h : a.s = b.s <;> simp [h]
  clear ih hN hla hlb ha hb
  unfold pvA
  generalize compareC a b = V at *
  generalize a.kind = ka at *
  generalize b.kind = kb at *
  generalize a.n = na at *
  generalize b.n = nb at *
  generalize a.s = s1 at *
  generalize b.s = s2 at *
  by_cases h1 : ka < kb
  · have hd : decide (ka < kb) = true := decide_eq_true h1
    rw [if_pos (.inl h1)] at hC
    have HC := Lib.hid hC
    clear h1 hC hl2 hl3
    go_enter Try.func12, Try.ntmps12
    go_wp2
    go_ret
    exact ⟨by rw [HC.out]; rfl, belowA2 w _ _⟩
  have hf1 : decide (ka < kb) = false := decide_eq_false h1
  by_cases h2 : kb < ka
  · have hq : (ka == kb) = false := by rw [beq_eq_false_iff_ne]; omega
    have hq2 : (ka != kb) = true := by simp [bne, hq]
    rw [if_neg (by omega), if_pos (.inl (by omega))] at hC
    have HC := Lib.hid hC
    clear h1 h2 hC hl2 hl3
    go_enter Try.func12, Try.ntmps12
    go_wp2
    go_ret
    exact ⟨by rw [HC.out]; rfl, belowA2 w _ _⟩
  obtain rfl : ka = kb := by omega
  clear h1 h2 hf1
  by_cases h1 : na < nb
  · have hd : decide (na < nb) = true := decide_eq_true h1
    rw [if_pos (.inr ⟨rfl, .inl h1⟩)] at hC
    have HC := Lib.hid hC
    clear h1 hC hl2 hl3
    go_enter Try.func12, Try.ntmps12
    go_wp2
    go_ret
    exact ⟨by rw [HC.out]; rfl, belowA2 w _ _⟩
  have hf1 : decide (na < nb) = false := decide_eq_false h1
  by_cases h2 : nb < na
  · have hq : (na == nb) = false := by rw [beq_eq_false_iff_ne]; omega
    have hq2 : (na != nb) = true := by simp [bne, hq]
    rw [if_neg (by rintro (h | ⟨-, h | ⟨h, -⟩⟩) <;> omega), if_pos (.inr (.inl (by omega)))] at hC
    have HC := Lib.hid hC
    clear h1 h2 hC hl2 hl3
    go_enter Try.func12, Try.ntmps12
    go_wp2
    go_ret
    exact ⟨by rw [HC.out]; rfl, belowA2 w _ _⟩
  obtain rfl : na = nb := by omega
  clear h1 h2 hf1
  by_cases h1 : sLt s1 s2 = true
  · rw [if_pos (.inr ⟨rfl, .inr ⟨rfl, h1⟩⟩)] at hC
    rw [h1] at hl2
    have HC := Lib.hid hC
    clear h1 hC hl3
    go_enter Try.func12, Try.ntmps12
    go_wp2
    go_ret
    exact ⟨by rw [HC.out]; rfl, belowA2 w _ _⟩
  rw [if_neg (by rintro (h | ⟨-, h | ⟨-, h⟩⟩); omega; omega; exact h1 h)] at hC
  rw [show sLt s1 s2 = false by simpa using h1] at hl2
  clear h1
  by_cases h2 : s1 = s2
  case neg =>
    rw [if_pos (.inr (.inr h2))] at hC
    rw [decide_eq_false h2] at hl3
    have hl4 : ((mkB s1).toList != (mkB s2).toList) = true := by simp [bne, hl3]
    have HC := Lib.hid hC
    clear h2 hC
    go_enter Try.func12, Try.ntmps12
    go_wp2
    go_ret
    exact ⟨by rw [HC.out]; rfl, belowA2 w _ _⟩
  subst h2
  rw [if_neg (by simp)] at hC
  have HC := Lib.hid hC
  clear hC hl3
  go_enter Try.func12, Try.ntmps12
  go_wp2
  obtain ⟨B, hB⟩ : ∃ B, B = w.heap.size := ⟨_, rfl⟩
  rw [← hB]
  have hx1 : ((w.alloc (.cells #[.int .i64 ka, .int .i64 na, .string (mkB s1), .slice a1 la.length cap1] 27)).alloc (.cells #[.int .i64 ka, .int .i64 na, .string (mkB s1), .slice a2 lb.length cap2] 27)).heap[B]? = some (.cells #[.int .i64 ka, .int .i64 na, .string (mkB s1), .slice a1 la.length cap1] 27 (0, 0)) := heapA_old _ (heapA_new _ hB)
  have hx2 : ((w.alloc (.cells #[.int .i64 ka, .int .i64 na, .string (mkB s1), .slice a1 la.length cap1] 27)).alloc (.cells #[.int .i64 ka, .int .i64 na, .string (mkB s1), .slice a2 lb.length cap2] 27)).heap[B + 1]? = some (.cells #[.int .i64 ka, .int .i64 na, .string (mkB s1), .slice a2 lb.length cap2] 27 (0, 0)) := heapA_new _ (by rw [sizeA, hB])
  have HX1 := Lib.hid hx1
  have HX2 := Lib.hid hx2
  have HW := Lib.hid (belowA2 w (.cells #[.int .i64 ka, .int .i64 na, .string (mkB s1), .slice a1 la.length cap1] 27) (.cells #[.int .i64 ka, .int .i64 na, .string (mkB s1), .slice a2 lb.length cap2] 27))
  have HBB := Lib.hid hB
  clear hx1 hx2 hB
  generalize (w.alloc _).alloc _ = W1 at *
  go_loopw [5] (fun vk wr => ∃ k : Nat, vk = .int .i64 k ∧ k ≤ la.length ∧ k ≤ lb.length ∧ Hid (Below w.heap.size w wr) ∧ Hid (Below W1.heap.size W1 wr) ∧ Hid (V = compareL (la.drop k) (lb.drop k))) (fun vk _ => la.length - (intOf vk).toNat)
  case atStart => exact ⟨0, rfl, Nat.zero_le _, Nat.zero_le _, HW, Below.refl _ _, HC⟩
  case round =>
    obtain ⟨k, rfl, hk1, hk2, HWR, HW1, HV⟩ := hrel
    have hy1 := block_keep HW1.out HX1.out
    have hy2 := block_keep HW1.out HX2.out
    obtain ⟨c0, c1, c2, c3⟩ := Box4.cells (v := .mk ka na s1 la) (sl := .slice a1 la.length cap1) (w := wr) (b := B) ⟨hy1⟩
    obtain ⟨d0, d1, d2, d3⟩ := Box4.cells (v := .mk ka na s1 lb) (sl := .slice a2 lb.length cap2) (w := wr) (b := B + 1) ⟨hy2⟩
    by_cases q1 : k < la.length ∧ k < lb.length
    case neg =>
      have hv := HV.out
      rw [cmpL_end q1 hk1 hk2] at hv
      have HV2 := Lib.hid hv
      clear hv hy1 hy2 HA HB HIH HV
      by_cases t1 : la.length < lb.length
      · have hd : decide (la.length < lb.length) = true := decide_eq_true t1
        have q2 : ¬ k < la.length := by omega
        go_wp2
        go_ret
        exact ⟨by rw [HV2.out, if_pos t1]; rfl, HWR.out⟩
      · have hd : decide (la.length < lb.length) = false := decide_eq_false t1
        by_cases t2 : lb.length < la.length
        · have hd2 : decide (lb.length < la.length) = true := decide_eq_true t2
          have q2 : ¬ k < lb.length := by omega
          have q3 : k < la.length := by omega
          go_wp2
          go_ret
          exact ⟨by rw [HV2.out, if_neg t1, if_pos t2]; rfl, HWR.out⟩
        · have hd2 : decide (lb.length < la.length) = false := decide_eq_false t2
          have q2 : ¬ k < la.length := by omega
          go_wp2
          go_ret
          exact ⟨by rw [HV2.out, if_neg t1, if_neg t2]; rfl, HWR.out⟩
    obtain ⟨q1, q2⟩ := q1
    obtain ⟨x, hx⟩ : ∃ x, la[k]? = some x := ⟨_, List.getElem?_eq_getElem q1⟩
    obtain ⟨y, hy⟩ : ∃ y, lb[k]? = some y := ⟨_, List.getElem?_eq_getElem q2⟩
    have hbw : Below w.heap.size w wr := HWR.out
    obtain ⟨-, -, -, b1, o1, rfl, -, -, hax⟩ := (HA.out.below hbw).at (by omega)
    obtain ⟨-, -, -, b2, o2, rfl, -, -, hbx⟩ := (HB.out.below hbw).at (by omega)
    rw [← HLA.out] at hax
    rw [← HLB.out] at hbx
    obtain ⟨sx, hsx, x0, x1, x2, x3⟩ := hax k x hx
    obtain ⟨sy, hsy, y0, y1, y2, y3⟩ := hbx k y hy
    have hlt : SizeOf.sizeOf x < SizeOf.sizeOf a := HSA.out k x (by rw [← HLA.out]; exact hx)
    have hN := HN.out
    have hcall := fun (p : BelowW wr) => HIH.out x y sx sy p.w (by omega) (hsx.below p.h) (hsy.below p.h)
    have hv := HV.out
    rw [cmpL_step hx hy] at hv
    have HV2 := Lib.hid hv
    unfold pvA at hcall
    generalize compareC x y = c at *
    have HCALL := Lib.hid hcall
    clear hcall hv hsx hsy hlt hN hax hbx hx hy HA HB HIH HV hy1 hy2 hbw HSA HLA HLB HN
    have u3 := BelowW.cell c3
    have v3 := BelowW.cell d3
    have e0 := BelowW.cell x0
    have e1 := BelowW.cell x1
    have e2 := BelowW.cell x2
    have e3 := BelowW.cell x3
    have r0 := BelowW.cell y0
    have r1 := BelowW.cell y1
    have r2 := BelowW.cell y2
    have r3 := BelowW.cell y3
    have hkl : (0 : Int) ≤ (k : Int) := by omega
    have hki : (k : Int) < (la.length : Int) := by omega
    have hkj : (k : Int) < (lb.length : Int) := by omega
    go_wp2
    refine wp_region_below (by kernel_rfl) (by kernel_rfl) ?_
    repeat (quiet_step ((go_at_call 12; with_reducible exact Calls.below_of (HCALL.out _))))
    refine wpQuiet_nil ?_
    rintro _ ⟨⟨w4, hb4⟩, rfl⟩
    have HW4 := Lib.hid (HWR.out.trans (hb4.mono HWR.out.size))
    have HW5 := Lib.hid (HW1.out.trans (hb4.mono HW1.out.size))
    clear u3 v3 e0 e1 e2 e3 r0 r1 r2 r3 x0 x1 x2 x3 y0 y1 y2 y3 c0 c1 c2 c3 d0 d1 d2 d3 hb4
    by_cases hc : c = 0
    · subst hc
      go_wp2
      go_roundw
      case rel => exact ⟨k + 1, by go_num, by omega, by omega, HW4, HW5, by rw [HV2.out]; rfl⟩
      case measure => simp [intOf]; omega
    · have hc1 : (c == 0) = false := by rw [beq_eq_false_iff_ne]; exact hc
      have hc2 : (c != 0) = true := by simp [bne, hc1]
      go_wp2
      go_ret
      exact ⟨by rw [HV2.out, if_pos hc]; rfl, HW4.out⟩

theorem compare_two {a b : PV} {sa sb : Value} {w : World} {F G : Nat → Prop} (ha : IsV w F a sa) (hb : IsV w G b sb) :
    Calls Try.prog 12 #[pvA a sa, pvA b sb] w fun e w' => e = .returned (.int .i64 (compareC a b)) ∧ Below w.heap.size w w' :=
  compare_any _ a b sa sb w (Nat.le_refl _) ha.any hb.any
set_option maxHeartbeats 2000000 in
theorem same_any {a b : PV} {sa sb : Value} {w : World} {F G : Nat → Prop} (ha : IsV w F a sa) (hb : IsV w G b sb) :
    Calls Try.prog 7 #[pvA a sa, pvA b sb] w fun e w' => e = .returned (.bool (compareC a b == 0)) ∧ Below w.heap.size w w' := by
  have HB0 := Lib.hid (belowA2 w (.cells #[.int .i64 a.kind, .int .i64 a.n, .string (mkB a.s), sa] 27) (.cells #[.int .i64 b.kind, .int .i64 b.n, .string (mkB b.s), sb] 27))
  have hc := compare_two (ha.below HB0.out) (hb.below HB0.out)
  unfold pvA at *
  have HC := Lib.hid hc
  clear hc ha hb
  generalize compareC a b = c at *
  generalize a.kind = a0 at *
  generalize a.n = a1 at *
  generalize mkB a.s = a2 at *
  generalize b.kind = b0 at *
  generalize b.n = b1 at *
  generalize mkB b.s = b2 at *
  go_enter Try.func7, Try.ntmps7
  go_wp2_with (go_at_call 12; refine HC.out.mono ?_; rintro e w' ⟨rfl, hb⟩)
  go_ret
  exact ⟨rfl, HB0.out.trans (hb.mono HB0.out.size)⟩
end Go.Proofs.Ytmejhjgdofncfaa
/-
  Walks of layer 10: octal digits, and what stands behind a backslash.
-/
namespace Go.Proofs.Ytmejhjgdofncfaa
open Go.RowKit

def octGo (last : Bool) : Nat → Nat → List UInt8 → Option (Nat × Nat)
  | 0, N, _ => some (N, 0)
  | _ + 1, N, [] => if last then some (N, 0) else none
  | m + 1, N, d :: t => if isOc d = true then (octGo last m (8 * N + (d.toNat - 48)) t).map (fun x => (x.1, x.2 + 1)) else some (N, 0)
theorem octV_go (last : Bool) (c : UInt8) (l : List UInt8) : octV last c l = (octGo last 2 (c.toNat - 48) l).map fun x => (x.1, x.2 + 1) := by
  cases l with
  | nil => cases last <;> rfl
  | cons d t =>
    by_cases hd : isOc d = true
    · cases t with
      | nil => cases last <;> simp [octV, octGo, hd]
      | cons e u =>
        by_cases he : isOc e = true
        · simp [octV, octGo, hd, he]
        · simp [octV, octGo, hd, he]
    · simp [octV, octGo, hd]
theorem isOc_iff {c : UInt8} : isOc c = true ↔ 48 ≤ c.toNat ∧ c.toNat ≤ 55 := by unfold isOc; simp
theorem wrap_byte (N : Nat) : IntKind.u8.wrap (N : Int) = ((UInt8.ofNat N).toNat : Int) := by rw [IntKind.wrap_u8, UInt8.toNat_ofNat']; omega

/-- A byte is put, and a truth told. -/
theorem put_end {w w1 w2 : World} {S S1 : Nat → Prop} {p : Nat} {X : Src} {o2 : List UInt8} {k2 : Nat} (hk : Keeps S w w1) (hs : ∀ b, S1 b → S b ∨ w.heap.size ≤ b) (hN : ScNext w1 S1 p X o2 k2 w2) (V : Option (List UInt8 × Nat)) (hV : V = some (o2, k2)) :
    StepEnd w S p X V (.returned (.bool true)) w2 := by
  subst hV
  exact ⟨rfl, ScNext.trans hk hs hN⟩

set_option maxRecDepth 8000 in
set_option maxHeartbeats 4000000 in
theorem octal_any {w : World} {S : Nat → Prop} {p : Nat} {X : Src} {out : List UInt8} {k : Nat} (h : ScQ w S p X out k) (c : UInt8) (hc : isOc c = true) (hk : out.length < k) :
    Calls Try.prog 67 #[.pointer (some ⟨p, 0, none⟩), .int .u8 c.toNat] w (StepEnd w S p X ((octGo X.last 2 (c.toNat - 48) (X.bs.drop k)).map fun x => (out ++ [UInt8.ofNat x.1], k + x.2))) := by
  obtain ⟨V, hV⟩ : ∃ V, V = (octGo X.last 2 (c.toNat - 48) (X.bs.drop k)).map fun x => (out ++ [UInt8.ofNat x.1], k + x.2) := ⟨_, rfl⟩
  rw [← hV]
  have hc2 := isOc_iff.1 hc
  have HV := Lib.hid hV
  have HN := Lib.hid (ScNext.refl h)
  have hsm : X.bs.length ≤ 100000 := by obtain ⟨_, _, h⟩ := h; exact h.small
  obtain ⟨n0, hn0⟩ : ∃ n0, n0 = c.toNat - 48 := ⟨_, rfl⟩
  have hci : (c.toNat : Int) = (n0 : Int) + 48 := by omega
  have hn7 : n0 ≤ 7 := by omega
  rw [← hn0] at HV
  rw [hci]
  clear hV h hc hc2 hn0 hci
  go_enter Try.func67, Try.ntmps67
  go_wp2
  go_loopw [5, 6] (fun n i wr => ∃ (j N k' : Nat), j ≤ 2 ∧ n = .int .i64 N ∧ i = .int .i64 j ∧ N + 1 ≤ 8 ^ (j + 1) ∧ k ≤ k' ∧ Hid (ScNext w S p X out k' wr) ∧ Hid (V = (octGo X.last (2 - j) N (X.bs.drop k')).map fun x => (out ++ [UInt8.ofNat x.1], k' + x.2))) (fun _ i _ => 2 - (intOf i).toNat)
  case atStart => exact ⟨0, n0, k, by omega, by go_num, rfl, by omega, Nat.le_refl _, HN, HV⟩
  case round =>
    obtain ⟨j, N, k', hj, rfl, rfl, hN, hkk, HS, HG⟩ := hrel
    obtain ⟨S1, hq1, hk1, hs1⟩ := HS.out
    have HQ1 := Lib.hid hq1
    have HK1 := Lib.hid hk1
    have HS1 := Lib.hid hs1
    have hP := peek_any hq1
    unfold peekV u8C at hP
    have hN5 : N ≤ 511 := by
      have : j = 0 ∨ j = 1 ∨ j = 2 := by omega
      rcases this with rfl | rfl | rfl <;> omega
    have HWB := Lib.hid (fun (q : Nat) (x : Int) (hx : x = ((UInt8.ofNat N).toNat : Int)) => writeByte_any (hq1.drewN q) (UInt8.ofNat N) x hx (by omega))
    have HWB0 := Lib.hid (fun (x : Int) (hx : x = ((UInt8.ofNat N).toNat : Int)) => writeByte_any hq1 (UInt8.ofNat N) x hx (by omega))
    clear hq1 hk1 hs1
    by_cases hj2 : j < 2
    · obtain ⟨m, hm⟩ : ∃ m, 2 - j = m + 1 := ⟨1 - j, by omega⟩
      have hg := HG.out
      rw [hm] at hg
      have HM := Lib.hid hm
      have hjd : decide ((j : Int) < 2) = true := by simp; omega
      clear hm
      by_cases hk2 : k' < X.bs.length
      · rw [if_pos hk2] at hP
        rw [drop_cons hk2, octGo] at hg
        by_cases hd : isOc (X.bs.getD k' 0) = true
        · have hd2 := isOc_iff.1 hd
          rw [if_pos hd] at hg
          have HP := Lib.hid hP
          have HG2 := Lib.hid hg
          obtain ⟨d, hd3⟩ : ∃ d, d = (X.bs.getD k' 0).toNat - 48 := ⟨_, rfl⟩
          have hdi : ((X.bs.getD k' 0).toNat : Int) = (d : Int) + 48 := by omega
          have hd7 : d ≤ 7 := by omega
          rw [hdi] at HP
          rw [← hd3] at HG2
          clear hg hP hd hd2 hd3 hdi
          go_wp2_with fail
          refine HP.out.mono ?_
          rintro e w1 ⟨rfl, q, rfl⟩
          have h1 := HQ1.out.drewN q
          obtain ⟨ad, v, h1⟩ := h1
          obtain ⟨-, -, -, c3, -⟩ := h1.cells
          have f3 := h1.free 3
          have HM3 := Lib.hid (ScNext.trans HK1.out HS1.out (ScNext.drew q (h1.move (k' + 1) (by omega) (by omega))))
          clear h1
          go_wp2
          go_roundw
          case rel =>
            refine ⟨j + 1, 8 * N + d, k' + 1, by omega, by go_num, by go_num, by rw [Nat.pow_succ]; omega, by omega, HM3, Lib.hid ?_⟩
            rw [HG2.out, show 2 - (j + 1) = m from by have := HM.out; omega, Option.map_map]
            congr 1
            funext x
            simp only [Function.comp]
            rw [show k' + 1 + x.2 = k' + (x.2 + 1) from by omega]
          case measure => simp [intOf]; omega
        · rw [if_neg hd] at hg
          simp only [Option.map_some] at hg
          have HG2 := Lib.hid hg
          have HP := Lib.hid hP
          have hd2 : ¬ (48 ≤ (X.bs.getD k' 0).toNat ∧ (X.bs.getD k' 0).toNat ≤ 55) := fun e => hd (isOc_iff.2 e)
          generalize (X.bs.getD k' 0).toNat = x at *
          by_cases hx : (x : Int) < 48
          · have hxd : decide ((x : Int) < 48) = true := by simpa using hx
            clear hg hP hd hd2
            go_wp2_with fail
            refine HP.out.mono ?_
            rintro e w1 ⟨rfl, q, rfl⟩
            go_wp2_with fail
            refine (HWB.out q _ (wrap_byte N)).mono ?_
            rintro e w2 ⟨rfl, hn2⟩
            have HN2 := Lib.hid hn2
            clear hn2
            go_wp2
            go_ret
            exact put_end ((HK1.out).drewN q) HS1.out HN2.out _ HG2.out
          · have hxd : decide ((x : Int) < 48) = false := by simpa using hx
            have hx2 : decide ((55 : Int) < x) = true := by simp; omega
            clear hg hP hd hd2 hx
            go_wp2_with fail
            refine HP.out.mono ?_
            rintro e w1 ⟨rfl, q, rfl⟩
            go_wp2_with fail
            refine (HWB.out q _ (wrap_byte N)).mono ?_
            rintro e w2 ⟨rfl, hn2⟩
            have HN2 := Lib.hid hn2
            clear hn2
            go_wp2
            go_ret
            exact put_end ((HK1.out).drewN q) HS1.out HN2.out _ HG2.out
      · rw [if_neg hk2] at hP
        rw [drop_nil hk2, octGo] at hg
        have HP := Lib.hid hP
        have hlast := fun (q : Nat) => (let ⟨ad, v, h⟩ := HQ1.out.drewN q; h.cells.2.2.2.2)
        obtain ⟨l, hl⟩ : ∃ l, X.last = l := ⟨_, rfl⟩
        rw [hl] at hg hlast
        have HL := Lib.hid hlast
        have HG2 := Lib.hid hg
        clear hg hP hl hlast hk2
        cases l
        · go_wp2_with fail
          refine HP.out.mono ?_
          rintro e w1 ⟨rfl, q, rfl⟩
          have c4 := HL.out q
          have HN2 := Lib.hid (ScNext.trans HK1.out HS1.out (ScNext.drew q (ScNext.refl (HQ1.out.drewN q))))
          go_wp2
          go_ret
          rw [HG2.out]
          exact ⟨rfl, _, _, HN2.out⟩
        · go_wp2_with fail
          refine HP.out.mono ?_
          rintro e w1 ⟨rfl, q, rfl⟩
          have c4 := HL.out q
          go_wp2_with fail
          refine (HWB.out q _ (wrap_byte N)).mono ?_
          rintro e w2 ⟨rfl, hn2⟩
          have HN2 := Lib.hid hn2
          clear hn2
          go_wp2
          go_ret
          exact put_end ((HK1.out).drewN q) HS1.out HN2.out _ HG2.out
    · obtain rfl : j = 2 := by omega
      have hg := HG.out
      rw [Nat.sub_self, octGo, Option.map_some] at hg
      have HG2 := Lib.hid hg
      clear hg hP
      go_wp2_with fail
      refine (HWB0.out _ (wrap_byte N)).mono ?_
      rintro e w2 ⟨rfl, hn2⟩
      have HN2 := Lib.hid hn2
      clear hn2
      go_wp2
      go_ret
      exact put_end HK1.out HS1.out HN2.out _ HG2.out

/-- What stands behind a backslash, as a step. -/
def escStep (X : Src) (out : List UInt8) (k : Nat) : Option (List UInt8 × Nat) := (escV X.last (X.bs.drop k)).map fun x => (out ++ x.1, k + x.2)

theorem esc_idx (c : UInt8) : (Lib.indexByte [110, 114, 116, 98, 102] c = -1 ∧ c ≠ 110 ∧ c ≠ 114 ∧ c ≠ 116 ∧ c ≠ 98 ∧ c ≠ 102) ∨ (c = 110 ∨ c = 114 ∨ c = 116 ∨ c = 98 ∨ c = 102) := by
  by_cases h : Lib.indexByte [110, 114, 116, 98, 102] c = -1
  · have := idx_none _ _ h
    simp at this
    exact .inl ⟨h, this⟩
  · have hg := Lib.indexByte_ge [110, 114, 116, 98, 102] c
    obtain ⟨i, hi⟩ := Int.eq_ofNat_of_zero_le (show 0 ≤ Lib.indexByte [110, 114, 116, 98, 102] c by omega)
    obtain ⟨a, t, e, -, -⟩ := idx_some _ _ _ hi
    have hm : c ∈ ([110, 114, 116, 98, 102] : List UInt8) := by rw [e]; simp
    simp at hm
    exact .inr hm
end Go.Proofs.Ytmejhjgdofncfaa
/-
  The walk of layer 10: what stands behind a backslash.
-/
namespace Go.Proofs.Ytmejhjgdofncfaa
open Go.RowKit

theorem escStep_of {X : Src} {out : List UInt8} {k : Nat} (hk : k < X.bs.length) (r : Option (List UInt8 × Nat)) (h : escV X.last (X.bs.getD k 0 :: X.bs.drop (k + 1)) = r) : escStep X out k = r.map fun x => (out ++ x.1, k + x.2) := by
  unfold escStep; rw [drop_cons hk, h]

theorem escV_far (last : Bool) (c : UInt8) (t : List UInt8) (n1 : c ≠ 110) (n2 : c ≠ 114) (n3 : c ≠ 116) (n4 : c ≠ 98) (n5 : c ≠ 102) : escV last (c :: t) =
    if isOc c = true then (octV last c t).map (fun x => ([UInt8.ofNat x.1], x.2)) else if c = 10 then some ([], 1) else if c = 13 then (lineV last t).map (fun k => ([], k + 1)) else some ([c], 1) := by
  simp only [escV]
  rw [if_neg n1, if_neg n2, if_neg n3, if_neg n4, if_neg n5]
theorem step_none {w w2 : World} {S : Nat → Prop} {p : Nat} {X : Src} {V : Option (List UInt8 × Nat)} (hV : V = none) (h : ∃ out k, ScNext w S p X out k w2) : StepEnd w S p X V (.returned (.bool false)) w2 := by
  subst hV; exact ⟨rfl, h⟩
theorem step_some {w w2 : World} {S : Nat → Prop} {p : Nat} {X : Src} {V : Option (List UInt8 × Nat)} {o2 : List UInt8} {k2 : Nat} (hV : V = some (o2, k2)) (h : ScNext w S p X o2 k2 w2) : StepEnd w S p X V (.returned (.bool true)) w2 := by
  subst hV; exact ⟨rfl, h⟩
theorem line_other (a : Value) (x : Int) (hx : (x != 13) = true) (w : World) : Calls Try.prog 51 #[a, .int .u8 x] w fun e w' => e = .returned (.bool true) ∧ w = w' := by
  go_enter Try.func51, Try.ntmps51
  go_wp2
  go_ret
  exact ⟨rfl, rfl⟩

set_option maxRecDepth 8000 in
set_option maxHeartbeats 8000000 in
theorem escape_any {w : World} {S : Nat → Prop} {p : Nat} {X : Src} {out : List UInt8} {k : Nat} (h : ScQ w S p X out k) (hok : out.length ≤ k) :
    Calls Try.prog 50 #[.pointer (some ⟨p, 0, none⟩)] w (StepEnd w S p X (escStep X out k)) := by
  obtain ⟨V, hV⟩ : ∃ V, V = escStep X out k := ⟨_, rfl⟩
  rw [← hV]
  have hP := peek_any h
  unfold peekV u8C at hP
  have hsm : X.bs.length ≤ 100000 := by obtain ⟨_, _, h⟩ := h; exact h.small
  by_cases hk : k < X.bs.length
  case neg =>
    rw [if_neg hk] at hP
    have HP := Lib.hid hP
    have HL := Lib.hid (show V = none by rw [hV]; unfold escStep; rw [drop_nil hk]; rfl)
    have HQ := Lib.hid h
    clear hV hP h hk
    go_enter Try.func50, Try.ntmps50
    go_wp2_with fail
    refine HP.out.mono ?_
    rintro e w1 ⟨rfl, q, rfl⟩
    have HN2 := Lib.hid (ScNext.drew q (ScNext.refl (HQ.out.drewN q)))
    go_wp2
    go_ret
    rw [HL.out]
    exact ⟨rfl, _, _, HN2.out⟩
  rw [if_pos hk] at hP
  have HMV := Lib.hid (fun q => (let ⟨_, _, h1⟩ := h.drewN q; h1.move (k + 1) (by omega) (by omega)))
  have HC3 := Lib.hid (fun q => (let ⟨_, _, h1⟩ := h.drewN q; (And.intro h1.cells.2.2.2.1 (h1.free 3))))
  have hSI := fun (c : UInt8) W => sidx2_any ⟨#[110, 114, 116, 98, 102]⟩ (c.toNat : Int) W
  have hSI2 : ∀ (c : UInt8) W, Calls Try.prog 60 #[.string ⟨#[110, 114, 116, 98, 102]⟩, .int .u8 c.toNat] W fun e w' => e = .returned (.int .i64 (Lib.indexByte [110, 114, 116, 98, 102] c)) ∧ W = w' := fun c W => by
    have := hSI c W; rw [u8_back] at this; exact this
  have hE := fun r hr => hV.trans (escStep_of (X := X) (out := out) (k := k) hk r hr)
  obtain ⟨c, hc⟩ : ∃ c, c = X.bs.getD k 0 := ⟨_, rfl⟩
  rw [← hc] at hP hE
  clear hSI hV hc
  rcases esc_idx c with ⟨hix, n1, n2, n3, n4, n5⟩ | hlit
  · have hIX := hSI2 c
    rw [hix] at hIX
    have HIX := Lib.hid hIX
    have HP := Lib.hid hP
    clear hIX hSI2 hP
    by_cases hoc : isOc c = true
    · have HV := Lib.hid (hE _ (show escV X.last (c :: X.bs.drop (k + 1)) = (octV X.last c (X.bs.drop (k + 1))).map fun x => ([UInt8.ofNat x.1], x.2) by
        rw [escV_far _ _ _ n1 n2 n3 n4 n5, if_pos hoc]))
      have hoc2 := isOc_iff.1 hoc
      have h48 : decide ((48 : Int) ≤ c.toNat) = true := by simp; omega
      have h55 : decide ((c.toNat : Int) ≤ 55) = true := by simp; omega
      clear hE n1 n2 n3 n4 n5 hix hoc2
      go_enter Try.func50, Try.ntmps50
      go_wp2_with fail
      refine HP.out.mono ?_
      rintro e w1 ⟨rfl, q, rfl⟩
      obtain ⟨c3, f3⟩ := HC3.out q
      obtain ⟨S1, q1, k1, s1⟩ := HMV.out q
      have HQ1 := Lib.hid q1
      have HK1 := Lib.hid (Keeps.trans ((Keeps.refl S w).drewN q) k1 (fun _ h => .inl h))
      have HS1 := Lib.hid s1
      clear q1 k1 s1
      go_wp2_with fail
      refine (HIX.out _).mono ?_
      rintro e w2 ⟨rfl, rfl⟩
      rw [show ((k : Int) + 1) = ((k + 1 : Nat) : Int) from rfl]
      generalize (w.drewN q).setCell ⟨p, 3, none⟩ (.int .i64 ((k + 1 : Nat) : Int)) = w2 at *
      clear c3 f3
      have HO := Lib.hid (octal_any HQ1.out c hoc (by omega))
      go_wp2_with fail
      refine HO.out.mono ?_
      rintro e w3 hstep
      have HST := Lib.hid hstep
      clear hstep
      have HG := Lib.hid (show V = (octGo X.last 2 (c.toNat - 48) (X.bs.drop (k + 1))).map fun x => (out ++ [UInt8.ofNat x.1], k + 1 + x.2) by
        rw [HV.out, octV_go, Option.map_map, Option.map_map]
        congr 1
        funext x
        simp only [Function.comp]
        rw [show k + (x.2 + 1) = k + 1 + x.2 from by omega])
      rw [← HG.out] at HST
      cases hVV : V with
      | none =>
        rw [hVV] at HST
        obtain ⟨rfl, o2, k2, hn⟩ := HST.out
        have HN := Lib.hid hn
        clear HST hn
        go_wp2
        go_ret
        exact step_none hVV ⟨o2, k2, ScNext.trans HK1.out HS1.out HN.out⟩
      | some ok =>
        obtain ⟨o2, k2⟩ := ok
        rw [hVV] at HST
        obtain ⟨rfl, hn⟩ := HST.out
        have HN := Lib.hid hn
        clear HST hn
        go_wp2
        go_ret
        exact step_some hVV (ScNext.trans HK1.out HS1.out HN.out)
    · have hoc2 : ¬ (48 ≤ c.toNat ∧ c.toNat ≤ 55) := fun e => hoc (isOc_iff.2 e)
      by_cases h10 : c = 10
      · subst h10
        have HV := Lib.hid (show V = some (out ++ [], k + 1) from hE _ (show escV X.last (10 :: X.bs.drop (k + 1)) = some ([], 1) from rfl))
        clear hE n1 n2 n3 n4 n5 hix hoc hoc2
        go_enter Try.func50, Try.ntmps50
        go_wp2_with fail
        refine HP.out.mono ?_
        rintro e w1 ⟨rfl, q, rfl⟩
        obtain ⟨c3, f3⟩ := HC3.out q
        obtain ⟨S1, q1, k1, s1⟩ := HMV.out q
        have HQ1 := Lib.hid q1
        have HK1 := Lib.hid (Keeps.trans ((Keeps.refl S w).drewN q) k1 (fun _ h => .inl h))
        have HS1 := Lib.hid s1
        clear q1 k1 s1
        go_wp2_with fail
        refine (HIX.out _).mono ?_
        rintro e w2 ⟨rfl, rfl⟩
        rw [show ((k : Int) + 1) = ((k + 1 : Nat) : Int) from rfl]
        generalize (w.drewN q).setCell ⟨p, 3, none⟩ (.int .i64 ((k + 1 : Nat) : Int)) = w2 at *
        clear c3 f3
        go_wp2_with (go_at_call 51; refine (line_other _ _ rfl _).mono ?_; rintro e w3 ⟨rfl, rfl⟩)
        go_ret
        exact step_some (by rw [HV.out, List.append_nil]) (ScNext.trans HK1.out HS1.out (ScNext.refl HQ1.out))
      · by_cases h13 : c = 13
        · subst h13
          have HV := Lib.hid (hE _ (show escV X.last (13 :: X.bs.drop (k + 1)) = (lineV X.last (X.bs.drop (k + 1))).map fun j => ([], j + 1) from rfl))
          clear hE n1 n2 n3 n4 n5 hix hoc hoc2 h10
          go_enter Try.func50, Try.ntmps50
          go_wp2_with fail
          refine HP.out.mono ?_
          rintro e w1 ⟨rfl, q, rfl⟩
          obtain ⟨c3, f3⟩ := HC3.out q
          obtain ⟨S1, q1, k1, s1⟩ := HMV.out q
          have HQ1 := Lib.hid q1
          have HK1 := Lib.hid (Keeps.trans ((Keeps.refl S w).drewN q) k1 (fun _ h => .inl h))
          have HS1 := Lib.hid s1
          clear q1 k1 s1
          go_wp2_with fail
          refine (HIX.out _).mono ?_
          rintro e w2 ⟨rfl, rfl⟩
          rw [show ((k : Int) + 1) = ((k + 1 : Nat) : Int) from rfl]
          generalize (w.drewN q).setCell ⟨p, 3, none⟩ (.int .i64 ((k + 1 : Nat) : Int)) = w2 at *
          clear c3 f3
          have HO := Lib.hid (line_any HQ1.out)
          go_wp2_with fail
          refine HO.out.mono ?_
          rintro e w3 hstep
          have HST := Lib.hid hstep
          clear hstep
          have HG := Lib.hid (show V = (lineV X.last (X.bs.drop (k + 1))).map fun j => (out, k + 1 + j) by
            rw [HV.out, Option.map_map]
            congr 1
            funext x
            simp only [Function.comp, List.append_nil]
            rw [show k + (x + 1) = k + 1 + x from by omega])
          rw [← HG.out] at HST
          cases hVV : V with
          | none =>
            rw [hVV] at HST
            obtain ⟨rfl, o2, k2, hn⟩ := HST.out
            have HN := Lib.hid hn
            clear HST hn
            go_wp2
            go_ret
            exact step_none hVV ⟨o2, k2, ScNext.trans HK1.out HS1.out HN.out⟩
          | some ok =>
            obtain ⟨o2, k2⟩ := ok
            rw [hVV] at HST
            obtain ⟨rfl, hn⟩ := HST.out
            have HN := Lib.hid hn
            clear HST hn
            go_wp2
            go_ret
            exact step_some hVV (ScNext.trans HK1.out HS1.out HN.out)
        · have HV := Lib.hid (show V = some (out ++ [c], k + 1) from hE (some ([c], 1)) (by rw [escV_far _ _ _ n1 n2 n3 n4 n5, if_neg hoc, if_neg h10, if_neg h13]))
          have h10d : ((c.toNat : Int) == 10) = false := by rw [beq_eq_false_iff_ne]; intro e; exact h10 (UInt8.toNat_inj.1 (Int.ofNat_inj.1 e))
          have h13d : ((c.toNat : Int) == 13) = false := by rw [beq_eq_false_iff_ne]; intro e; exact h13 (UInt8.toNat_inj.1 (Int.ofNat_inj.1 e))
          have HWB := Lib.hid (fun W S1 (h : ScQ W S1 p X out (k + 1)) => writeByte_any h c (c.toNat : Int) rfl (by omega))
          by_cases h48 : (48 : Int) ≤ c.toNat
          · have h48d : decide ((48 : Int) ≤ c.toNat) = true := by simpa using h48
            have h55d : decide ((c.toNat : Int) ≤ 55) = false := by simp; omega
            clear hE n1 n2 n3 n4 n5 hix hoc hoc2 h10 h13 h48
            generalize (c.toNat : Int) = x at *
            go_enter Try.func50, Try.ntmps50
            go_wp2_with fail
            refine HP.out.mono ?_
            rintro e w1 ⟨rfl, q, rfl⟩
            obtain ⟨c3, f3⟩ := HC3.out q
            obtain ⟨S1, q1, k1, s1⟩ := HMV.out q
            have HQ1 := Lib.hid q1
            have HK1 := Lib.hid (Keeps.trans ((Keeps.refl S w).drewN q) k1 (fun _ h => .inl h))
            have HS1 := Lib.hid s1
            clear q1 k1 s1
            go_wp2_with fail
            refine (HIX.out _).mono ?_
            rintro e w2 ⟨rfl, rfl⟩
            rw [show ((k : Int) + 1) = ((k + 1 : Nat) : Int) from rfl]
            generalize (w.drewN q).setCell ⟨p, 3, none⟩ (.int .i64 ((k + 1 : Nat) : Int)) = w2 at *
            clear c3 f3
            go_wp2_with fail
            refine (HWB.out _ _ HQ1.out).mono ?_
            rintro e w3 ⟨rfl, hn⟩
            have HN := Lib.hid hn
            clear hn
            go_wp2
            go_ret
            exact step_some HV.out (ScNext.trans HK1.out HS1.out HN.out)
          · have h48d : decide ((48 : Int) ≤ c.toNat) = false := by simpa using h48
            clear hE n1 n2 n3 n4 n5 hix hoc hoc2 h10 h13 h48
            generalize (c.toNat : Int) = x at *
            go_enter Try.func50, Try.ntmps50
            go_wp2_with fail
            refine HP.out.mono ?_
            rintro e w1 ⟨rfl, q, rfl⟩
            obtain ⟨c3, f3⟩ := HC3.out q
            obtain ⟨S1, q1, k1, s1⟩ := HMV.out q
            have HQ1 := Lib.hid q1
            have HK1 := Lib.hid (Keeps.trans ((Keeps.refl S w).drewN q) k1 (fun _ h => .inl h))
            have HS1 := Lib.hid s1
            clear q1 k1 s1
            go_wp2_with fail
            refine (HIX.out _).mono ?_
            rintro e w2 ⟨rfl, rfl⟩
            rw [show ((k : Int) + 1) = ((k + 1 : Nat) : Int) from rfl]
            generalize (w.drewN q).setCell ⟨p, 3, none⟩ (.int .i64 ((k + 1 : Nat) : Int)) = w2 at *
            clear c3 f3
            go_wp2_with fail
            refine (HWB.out _ _ HQ1.out).mono ?_
            rintro e w3 ⟨rfl, hn⟩
            have HN := Lib.hid hn
            clear hn
            go_wp2
            go_ret
            exact step_some HV.out (ScNext.trans HK1.out HS1.out HN.out)
  · have hall : ∀ d : UInt8, (c = 110 ∧ d = 10) ∨ (c = 114 ∧ d = 13) ∨ (c = 116 ∧ d = 9) ∨ (c = 98 ∧ d = 8) ∨ (c = 102 ∧ d = 12) → V = some (out ++ [d], k + 1) := by
      rintro d (⟨rfl, rfl⟩ | ⟨rfl, rfl⟩ | ⟨rfl, rfl⟩ | ⟨rfl, rfl⟩ | ⟨rfl, rfl⟩)
      all_goals exact hE _ rfl
    have HALL := Lib.hid hall
    have HWB := Lib.hid (fun W S1 (h : ScQ W S1 p X out (k + 1)) (d : UInt8) => writeByte_any h d (d.toNat : Int) rfl (by omega))
    clear hall hE
    rcases hlit with rfl | rfl | rfl | rfl | rfl
    · have hIX := hSI2 110
      rw [show Lib.indexByte [110, 114, 116, 98, 102] 110 = 0 from rfl] at hIX
      have HIX := Lib.hid hIX
      have HP := Lib.hid hP
      clear hIX hSI2 hP
      go_enter Try.func50, Try.ntmps50
      go_wp2_with fail
      refine HP.out.mono ?_
      rintro e w1 ⟨rfl, q, rfl⟩
      obtain ⟨c3, f3⟩ := HC3.out q
      obtain ⟨S1, q1, k1, s1⟩ := HMV.out q
      have HQ1 := Lib.hid q1
      have HK1 := Lib.hid (Keeps.trans ((Keeps.refl S w).drewN q) k1 (fun _ h => .inl h))
      have HS1 := Lib.hid s1
      clear q1 k1 s1
      go_wp2_with fail
      refine (HIX.out _).mono ?_
      rintro e w2 ⟨rfl, rfl⟩
      rw [show ((k : Int) + 1) = ((k + 1 : Nat) : Int) from rfl]
      generalize (w.drewN q).setCell ⟨p, 3, none⟩ (.int .i64 ((k + 1 : Nat) : Int)) = w2 at *
      clear c3 f3
      go_wp2_with fail
      go_still_tail 5, (by kernel_rfl)
      go_wp2_with fail
      refine (HWB.out _ _ (HQ1.out.drewN 1) 10).mono ?_
      rintro e w3 ⟨rfl, hn⟩
      have HN := Lib.hid hn
      clear hn
      go_wp2
      go_ret
      exact step_some (HALL.out 10 (by simp)) (ScNext.trans (HK1.out.drewN 1) HS1.out HN.out)
    · have hIX := hSI2 114
      rw [show Lib.indexByte [110, 114, 116, 98, 102] 114 = 1 from rfl] at hIX
      have HIX := Lib.hid hIX
      have HP := Lib.hid hP
      clear hIX hSI2 hP
      go_enter Try.func50, Try.ntmps50
      go_wp2_with fail
      refine HP.out.mono ?_
      rintro e w1 ⟨rfl, q, rfl⟩
      obtain ⟨c3, f3⟩ := HC3.out q
      obtain ⟨S1, q1, k1, s1⟩ := HMV.out q
      have HQ1 := Lib.hid q1
      have HK1 := Lib.hid (Keeps.trans ((Keeps.refl S w).drewN q) k1 (fun _ h => .inl h))
      have HS1 := Lib.hid s1
      clear q1 k1 s1
      go_wp2_with fail
      refine (HIX.out _).mono ?_
      rintro e w2 ⟨rfl, rfl⟩
      rw [show ((k : Int) + 1) = ((k + 1 : Nat) : Int) from rfl]
      generalize (w.drewN q).setCell ⟨p, 3, none⟩ (.int .i64 ((k + 1 : Nat) : Int)) = w2 at *
      clear c3 f3
      go_wp2_with fail
      go_still_tail 5, (by kernel_rfl)
      go_wp2_with fail
      refine (HWB.out _ _ (HQ1.out.drewN 1) 13).mono ?_
      rintro e w3 ⟨rfl, hn⟩
      have HN := Lib.hid hn
      clear hn
      go_wp2
      go_ret
      exact step_some (HALL.out 13 (by simp)) (ScNext.trans (HK1.out.drewN 1) HS1.out HN.out)
    · have hIX := hSI2 116
      rw [show Lib.indexByte [110, 114, 116, 98, 102] 116 = 2 from rfl] at hIX
      have HIX := Lib.hid hIX
      have HP := Lib.hid hP
      clear hIX hSI2 hP
      go_enter Try.func50, Try.ntmps50
      go_wp2_with fail
      refine HP.out.mono ?_
      rintro e w1 ⟨rfl, q, rfl⟩
      obtain ⟨c3, f3⟩ := HC3.out q
      obtain ⟨S1, q1, k1, s1⟩ := HMV.out q
      have HQ1 := Lib.hid q1
      have HK1 := Lib.hid (Keeps.trans ((Keeps.refl S w).drewN q) k1 (fun _ h => .inl h))
      have HS1 := Lib.hid s1
      clear q1 k1 s1
      go_wp2_with fail
      refine (HIX.out _).mono ?_
      rintro e w2 ⟨rfl, rfl⟩
      rw [show ((k : Int) + 1) = ((k + 1 : Nat) : Int) from rfl]
      generalize (w.drewN q).setCell ⟨p, 3, none⟩ (.int .i64 ((k + 1 : Nat) : Int)) = w2 at *
      clear c3 f3
      go_wp2_with fail
      go_still_tail 5, (by kernel_rfl)
      go_wp2_with fail
      refine (HWB.out _ _ (HQ1.out.drewN 1) 9).mono ?_
      rintro e w3 ⟨rfl, hn⟩
      have HN := Lib.hid hn
      clear hn
      go_wp2
      go_ret
      exact step_some (HALL.out 9 (by simp)) (ScNext.trans (HK1.out.drewN 1) HS1.out HN.out)
    · have hIX := hSI2 98
      rw [show Lib.indexByte [110, 114, 116, 98, 102] 98 = 3 from rfl] at hIX
      have HIX := Lib.hid hIX
      have HP := Lib.hid hP
      clear hIX hSI2 hP
      go_enter Try.func50, Try.ntmps50
      go_wp2_with fail
      refine HP.out.mono ?_
      rintro e w1 ⟨rfl, q, rfl⟩
      obtain ⟨c3, f3⟩ := HC3.out q
      obtain ⟨S1, q1, k1, s1⟩ := HMV.out q
      have HQ1 := Lib.hid q1
      have HK1 := Lib.hid (Keeps.trans ((Keeps.refl S w).drewN q) k1 (fun _ h => .inl h))
      have HS1 := Lib.hid s1
      clear q1 k1 s1
      go_wp2_with fail
      refine (HIX.out _).mono ?_
      rintro e w2 ⟨rfl, rfl⟩
      rw [show ((k : Int) + 1) = ((k + 1 : Nat) : Int) from rfl]
      generalize (w.drewN q).setCell ⟨p, 3, none⟩ (.int .i64 ((k + 1 : Nat) : Int)) = w2 at *
      clear c3 f3
      go_wp2_with fail
      go_still_tail 5, (by kernel_rfl)
      go_wp2_with fail
      refine (HWB.out _ _ (HQ1.out.drewN 1) 8).mono ?_
      rintro e w3 ⟨rfl, hn⟩
      have HN := Lib.hid hn
      clear hn
      go_wp2
      go_ret
      exact step_some (HALL.out 8 (by simp)) (ScNext.trans (HK1.out.drewN 1) HS1.out HN.out)
    · have hIX := hSI2 102
      rw [show Lib.indexByte [110, 114, 116, 98, 102] 102 = 4 from rfl] at hIX
      have HIX := Lib.hid hIX
      have HP := Lib.hid hP
      clear hIX hSI2 hP
      go_enter Try.func50, Try.ntmps50
      go_wp2_with fail
      refine HP.out.mono ?_
      rintro e w1 ⟨rfl, q, rfl⟩
      obtain ⟨c3, f3⟩ := HC3.out q
      obtain ⟨S1, q1, k1, s1⟩ := HMV.out q
      have HQ1 := Lib.hid q1
      have HK1 := Lib.hid (Keeps.trans ((Keeps.refl S w).drewN q) k1 (fun _ h => .inl h))
      have HS1 := Lib.hid s1
      clear q1 k1 s1
      go_wp2_with fail
      refine (HIX.out _).mono ?_
      rintro e w2 ⟨rfl, rfl⟩
      rw [show ((k : Int) + 1) = ((k + 1 : Nat) : Int) from rfl]
      generalize (w.drewN q).setCell ⟨p, 3, none⟩ (.int .i64 ((k + 1 : Nat) : Int)) = w2 at *
      clear c3 f3
      go_wp2_with fail
      go_still_tail 5, (by kernel_rfl)
      go_wp2_with fail
      refine (HWB.out _ _ (HQ1.out.drewN 1) 12).mono ?_
      rintro e w3 ⟨rfl, hn⟩
      have HN := Lib.hid hn
      clear hn
      go_wp2
      go_ret
      exact step_some (HALL.out 12 (by simp)) (ScNext.trans (HK1.out.drewN 1) HS1.out HN.out)
end Go.Proofs.Ytmejhjgdofncfaa
