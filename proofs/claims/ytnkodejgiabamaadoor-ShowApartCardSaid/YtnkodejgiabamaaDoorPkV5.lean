/-
  Our texts VCmp to Sw2, in one.
-/
import Derived.Test.YtnkodejgiabamaaDoorPkV4
import Derived.Test.YtnkodejgiabamaaDoorProg
import Derived.Lib.Builder
import Derived.Lib.UnsafeStr
import Derived.Lib.ByteType
import Derived.Lib.AppendStr
/-
  The walk of ref11.Compare and Same: how two values stand.
-/
namespace Go.Proofs.YtnkodejgiabamaaDoor
open Go.RowKit

theorem less_mkB : ∀ a b : List UInt8, Op.bytesLess a b = sLt a b
  | [], [] => rfl
  | [], _ :: _ => rfl
  | _ :: _, [] => rfl
  | a :: l, b :: m => by
    simp only [Op.bytesLess, sLt]
    rw [less_mkB l m]
    by_cases h : a.toNat < b.toNat
    · rw [if_pos h]
      have : (a < b) := h
      simp [this]
    · rw [if_neg h]
      have h' : ¬ (a < b) := h
      by_cases h2 : b.toNat < a.toNat
      · rw [if_pos h2]
        have : (a == b) = false := by rw [beq_eq_false_iff_ne]; intro e; subst e; omega
        simp [h', this]
      · rw [if_neg h2]
        have : a = b := UInt8.toNat_inj.1 (by omega)
        subst this
        simp
theorem toList_mkB (l : List UInt8) : (mkB l).toList = l := by unfold mkB; exact ByteArray.toList_eq _

structure Box4 (w : World) (b : Nat) (v : PV) (sl : Value) : Prop where
  blk : w.heap[b]? = some (.cells #[.int .i64 v.kind, .int .i64 v.n, .string (mkB v.s), sl] 24 (0, 0))
theorem Box4.cells {w : World} {b : Nat} {v : PV} {sl : Value} (h : Box4 w b v sl) : w.cell? ⟨b, 0, none⟩ = some (.int .i64 v.kind) ∧ w.cell? ⟨b, 1, none⟩ = some (.int .i64 v.n) ∧ w.cell? ⟨b, 2, none⟩ = some (.string (mkB v.s)) ∧ w.cell? ⟨b, 3, none⟩ = some sl := by
  refine ⟨?_, ?_, ?_, ?_⟩
  · rw [cell_of_row w b 0 _ _ _ h.blk]; rfl
  · rw [cell_of_row w b 1 _ _ _ h.blk]; rfl
  · rw [cell_of_row w b 2 _ _ _ h.blk]; rfl
  · rw [cell_of_row w b 3 _ _ _ h.blk]; rfl

theorem cmpL_step {l m : List PV} {k : Nat} {x y : PV} (h1 : l[k]? = some x) (h2 : m[k]? = some y) :
    compareL (l.drop k) (m.drop k) = if compareC x y ≠ 0 then compareC x y else compareL (l.drop (k + 1)) (m.drop (k + 1)) := by
  obtain ⟨g1, e1⟩ := List.getElem?_eq_some_iff.1 h1
  obtain ⟨g2, e2⟩ := List.getElem?_eq_some_iff.1 h2
  rw [List.drop_eq_getElem_cons g1, List.drop_eq_getElem_cons g2, e1, e2]
  rfl
theorem cmpL_end {l m : List PV} {k : Nat} (h : ¬ (k < l.length ∧ k < m.length)) (h1 : k ≤ l.length) (h2 : k ≤ m.length) :
    compareL (l.drop k) (m.drop k) = if l.length < m.length then -1 else if m.length < l.length then 1 else 0 := by
  by_cases g1 : k < l.length
  · have g2 : k = m.length := by omega
    rw [List.drop_eq_getElem_cons g1, List.drop_of_length_le (l := m) (by omega), if_neg (by omega), if_pos (by omega)]
    rfl
  · rw [List.drop_of_length_le (l := l) (by omega)]
    by_cases g2 : k < m.length
    · rw [List.drop_eq_getElem_cons g2, if_pos (by omega)]
      rfl
    · rw [List.drop_of_length_le (l := m) (by omega), if_neg (by omega), if_neg (by omega)]
      rfl
def anyF : Nat → Prop := fun _ => True
theorem IsV.any {w : World} {F : Nat → Prop} {v : PV} {sl : Value} (h : IsV w F v sl) : IsV w anyF v sl := h.weaken fun _ _ => trivial
theorem sizeOf_mem {v x : PV} {k : Nat} (h : v.l[k]? = some x) : SizeOf.sizeOf x < SizeOf.sizeOf v := by
  obtain ⟨a, b, c, l⟩ := v
  have : SizeOf.sizeOf x < SizeOf.sizeOf l := List.sizeOf_lt_of_mem (List.mem_of_getElem? (h : l[k]? = some x))
  simp only [PV.mk.sizeOf_spec]; omega

set_option maxRecDepth 8000 in
set_option maxHeartbeats 4000000 in
theorem compare_any : ∀ (N : Nat) (a b : PV) (sa sb : Value) (w : World), SizeOf.sizeOf a ≤ N → IsV w anyF a sa → IsV w anyF b sb →
    Calls Tryd.prog 27 #[pvA a sa, pvA b sb] w fun e w' => e = .returned (.int .i64 (compareC a b)) ∧ Below w.heap.size w w' := by
  intro N
  induction N with
  | zero => intro a b sa sb w h; obtain ⟨_, _, _, _⟩ := a; simp at h
  | succ N ih =>
  intro a b sa sb w hN ha hb
  obtain ⟨a1, cap1, e1, g1, g2, g3⟩ := ha.len
  obtain ⟨a2, cap2, e2, g4, g5, g6⟩ := hb.len
  have HA := Lib.hid ha
  have HB := Lib.hid hb
  have HIH := Lib.hid ih
  have HN := Lib.hid hN
  have hC : compareC a b = if a.kind < b.kind ∨ (a.kind = b.kind ∧ (a.n < b.n ∨ (a.n = b.n ∧ sLt a.s b.s = true))) then -1
    else if a.kind ≠ b.kind ∨ a.n ≠ b.n ∨ a.s ≠ b.s then 1 else compareL a.l b.l := by
    obtain ⟨_, _, _, _⟩ := a; obtain ⟨_, _, _, _⟩ := b; simp only [compareC]; rfl
  have HSA := Lib.hid (fun (k : Nat) (x : PV) (h : a.l[k]? = some x) => sizeOf_mem h)
  subst e1 e2
  obtain ⟨la, hla⟩ : ∃ la, la = a.l := ⟨_, rfl⟩
  obtain ⟨lb, hlb⟩ : ∃ lb, lb = b.l := ⟨_, rfl⟩
  rw [← hla] at g1 HA ⊢
  rw [← hlb] at g4 HB ⊢
  rw [← hla, ← hlb] at hC
  have HLA := Lib.hid hla
  have HLB := Lib.hid hlb
  have m1 : (la.length : Int) ≤ 9223372036854775807 := by unfold maxLen at g2; omega
  have m2 : (lb.length : Int) ≤ 9223372036854775807 := by unfold maxLen at g5; omega
  have hl2 : Op.bytesLess (mkB a.s).toList (mkB b.s).toList = sLt a.s b.s := by rw [toList_mkB, toList_mkB, less_mkB]
  have hl3 : ((mkB a.s).toList == (mkB b.s).toList) = decide (a.s = b.s) := by rw [toList_mkB, toList_mkB]; by_cases h : a.s = b.s <;> simp [h]
  clear ih hN hla hlb ha hb
  unfold pvA
  generalize compareC a b = V at *
  generalize a.kind = ka at *
  generalize b.kind = kb at *
  generalize a.n = na at *
  generalize b.n = nb at *
  generalize a.s = s1 at *
  generalize b.s = s2 at *
  by_cases h1 : ka < kb
  · have hd : decide (ka < kb) = true := decide_eq_true h1
    rw [if_pos (.inl h1)] at hC
    have HC := Lib.hid hC
    clear h1 hC hl2 hl3
    go_enter Tryd.func27, Tryd.ntmps27
    go_wp2
    go_ret
    exact ⟨by rw [HC.out]; rfl, belowA2 w _ _⟩
  have hf1 : decide (ka < kb) = false := decide_eq_false h1
  by_cases h2 : kb < ka
  · have hq : (ka == kb) = false := by rw [beq_eq_false_iff_ne]; omega
    have hq2 : (ka != kb) = true := by simp [bne, hq]
    rw [if_neg (by omega), if_pos (.inl (by omega))] at hC
    have HC := Lib.hid hC
    clear h1 h2 hC hl2 hl3
    go_enter Tryd.func27, Tryd.ntmps27
    go_wp2
    go_ret
    exact ⟨by rw [HC.out]; rfl, belowA2 w _ _⟩
  obtain rfl : ka = kb := by omega
  clear h1 h2 hf1
  by_cases h1 : na < nb
  · have hd : decide (na < nb) = true := decide_eq_true h1
    rw [if_pos (.inr ⟨rfl, .inl h1⟩)] at hC
    have HC := Lib.hid hC
    clear h1 hC hl2 hl3
    go_enter Tryd.func27, Tryd.ntmps27
    go_wp2
    go_ret
    exact ⟨by rw [HC.out]; rfl, belowA2 w _ _⟩
  have hf1 : decide (na < nb) = false := decide_eq_false h1
  by_cases h2 : nb < na
  · have hq : (na == nb) = false := by rw [beq_eq_false_iff_ne]; omega
    have hq2 : (na != nb) = true := by simp [bne, hq]
    rw [if_neg (by rintro (h | ⟨-, h | ⟨h, -⟩⟩) <;> omega), if_pos (.inr (.inl (by omega)))] at hC
    have HC := Lib.hid hC
    clear h1 h2 hC hl2 hl3
    go_enter Tryd.func27, Tryd.ntmps27
    go_wp2
    go_ret
    exact ⟨by rw [HC.out]; rfl, belowA2 w _ _⟩
  obtain rfl : na = nb := by omega
  clear h1 h2 hf1
  by_cases h1 : sLt s1 s2 = true
  · rw [if_pos (.inr ⟨rfl, .inr ⟨rfl, h1⟩⟩)] at hC
    rw [h1] at hl2
    have HC := Lib.hid hC
    clear h1 hC hl3
    go_enter Tryd.func27, Tryd.ntmps27
    go_wp2
    go_ret
    exact ⟨by rw [HC.out]; rfl, belowA2 w _ _⟩
  rw [if_neg (by rintro (h | ⟨-, h | ⟨-, h⟩⟩); omega; omega; exact h1 h)] at hC
  rw [show sLt s1 s2 = false by simpa using h1] at hl2
  clear h1
  by_cases h2 : s1 = s2
  case neg =>
    rw [if_pos (.inr (.inr h2))] at hC
    rw [decide_eq_false h2] at hl3
    have hl4 : ((mkB s1).toList != (mkB s2).toList) = true := by simp [bne, hl3]
    have HC := Lib.hid hC
    clear h2 hC
    go_enter Tryd.func27, Tryd.ntmps27
    go_wp2
    go_ret
    exact ⟨by rw [HC.out]; rfl, belowA2 w _ _⟩
  subst h2
  rw [if_neg (by simp)] at hC
  have HC := Lib.hid hC
  clear hC hl3
  go_enter Tryd.func27, Tryd.ntmps27
  go_wp2
  obtain ⟨B, hB⟩ : ∃ B, B = w.heap.size := ⟨_, rfl⟩
  rw [← hB]
  have hx1 : ((w.alloc (.cells #[.int .i64 ka, .int .i64 na, .string (mkB s1), .slice a1 la.length cap1] 24)).alloc (.cells #[.int .i64 ka, .int .i64 na, .string (mkB s1), .slice a2 lb.length cap2] 24)).heap[B]? = some (.cells #[.int .i64 ka, .int .i64 na, .string (mkB s1), .slice a1 la.length cap1] 24 (0, 0)) := heapA_old _ (heapA_new _ hB)
  have hx2 : ((w.alloc (.cells #[.int .i64 ka, .int .i64 na, .string (mkB s1), .slice a1 la.length cap1] 24)).alloc (.cells #[.int .i64 ka, .int .i64 na, .string (mkB s1), .slice a2 lb.length cap2] 24)).heap[B + 1]? = some (.cells #[.int .i64 ka, .int .i64 na, .string (mkB s1), .slice a2 lb.length cap2] 24 (0, 0)) := heapA_new _ (by rw [sizeA, hB])
  have HX1 := Lib.hid hx1
  have HX2 := Lib.hid hx2
  have HW := Lib.hid (belowA2 w (.cells #[.int .i64 ka, .int .i64 na, .string (mkB s1), .slice a1 la.length cap1] 24) (.cells #[.int .i64 ka, .int .i64 na, .string (mkB s1), .slice a2 lb.length cap2] 24))
  have HBB := Lib.hid hB
  clear hx1 hx2 hB
  generalize (w.alloc _).alloc _ = W1 at *
  go_loopw [5] (fun vk wr => ∃ k : Nat, vk = .int .i64 k ∧ k ≤ la.length ∧ k ≤ lb.length ∧ Hid (Below w.heap.size w wr) ∧ Hid (Below W1.heap.size W1 wr) ∧ Hid (V = compareL (la.drop k) (lb.drop k))) (fun vk _ => la.length - (intOf vk).toNat)
  case atStart => exact ⟨0, rfl, Nat.zero_le _, Nat.zero_le _, HW, Below.refl _ _, HC⟩
  case round =>
    obtain ⟨k, rfl, hk1, hk2, HWR, HW1, HV⟩ := hrel
    have hy1 := block_keep HW1.out HX1.out
    have hy2 := block_keep HW1.out HX2.out
    obtain ⟨c0, c1, c2, c3⟩ := Box4.cells (v := .mk ka na s1 la) (sl := .slice a1 la.length cap1) (w := wr) (b := B) ⟨hy1⟩
    obtain ⟨d0, d1, d2, d3⟩ := Box4.cells (v := .mk ka na s1 lb) (sl := .slice a2 lb.length cap2) (w := wr) (b := B + 1) ⟨hy2⟩
    by_cases q1 : k < la.length ∧ k < lb.length
    case neg =>
      have hv := HV.out
      rw [cmpL_end q1 hk1 hk2] at hv
      have HV2 := Lib.hid hv
      clear hv hy1 hy2 HA HB HIH HV
      by_cases t1 : la.length < lb.length
      · have hd : decide (la.length < lb.length) = true := decide_eq_true t1
        have q2 : ¬ k < la.length := by omega
        go_wp2
        go_ret
        exact ⟨by rw [HV2.out, if_pos t1]; rfl, HWR.out⟩
      · have hd : decide (la.length < lb.length) = false := decide_eq_false t1
        by_cases t2 : lb.length < la.length
        · have hd2 : decide (lb.length < la.length) = true := decide_eq_true t2
          have q2 : ¬ k < lb.length := by omega
          have q3 : k < la.length := by omega
          go_wp2
          go_ret
          exact ⟨by rw [HV2.out, if_neg t1, if_pos t2]; rfl, HWR.out⟩
        · have hd2 : decide (lb.length < la.length) = false := decide_eq_false t2
          have q2 : ¬ k < la.length := by omega
          go_wp2
          go_ret
          exact ⟨by rw [HV2.out, if_neg t1, if_neg t2]; rfl, HWR.out⟩
    obtain ⟨q1, q2⟩ := q1
    obtain ⟨x, hx⟩ : ∃ x, la[k]? = some x := ⟨_, List.getElem?_eq_getElem q1⟩
    obtain ⟨y, hy⟩ : ∃ y, lb[k]? = some y := ⟨_, List.getElem?_eq_getElem q2⟩
    have hbw : Below w.heap.size w wr := HWR.out
    obtain ⟨-, -, -, b1, o1, rfl, -, -, hax⟩ := (HA.out.below hbw).at (by omega)
    obtain ⟨-, -, -, b2, o2, rfl, -, -, hbx⟩ := (HB.out.below hbw).at (by omega)
    rw [← HLA.out] at hax
    rw [← HLB.out] at hbx
    obtain ⟨sx, hsx, x0, x1, x2, x3⟩ := hax k x hx
    obtain ⟨sy, hsy, y0, y1, y2, y3⟩ := hbx k y hy
    have hlt : SizeOf.sizeOf x < SizeOf.sizeOf a := HSA.out k x (by rw [← HLA.out]; exact hx)
    have hN := HN.out
    have hcall := fun (p : BelowW wr) => HIH.out x y sx sy p.w (by omega) (hsx.below p.h) (hsy.below p.h)
    have hv := HV.out
    rw [cmpL_step hx hy] at hv
    have HV2 := Lib.hid hv
    unfold pvA at hcall
    generalize compareC x y = c at *
    have HCALL := Lib.hid hcall
    clear hcall hv hsx hsy hlt hN hax hbx hx hy HA HB HIH HV hy1 hy2 hbw HSA HLA HLB HN
    have u3 := BelowW.cell c3
    have v3 := BelowW.cell d3
    have e0 := BelowW.cell x0
    have e1 := BelowW.cell x1
    have e2 := BelowW.cell x2
    have e3 := BelowW.cell x3
    have r0 := BelowW.cell y0
    have r1 := BelowW.cell y1
    have r2 := BelowW.cell y2
    have r3 := BelowW.cell y3
    have hkl : (0 : Int) ≤ (k : Int) := by omega
    have hki : (k : Int) < (la.length : Int) := by omega
    have hkj : (k : Int) < (lb.length : Int) := by omega
    go_wp2
    refine wp_region_below (by kernel_rfl) (by kernel_rfl) ?_
    repeat (quiet_step ((go_at_call 27; with_reducible exact Calls.below_of (HCALL.out _))))
    refine wpQuiet_nil ?_
    rintro _ ⟨⟨w4, hb4⟩, rfl⟩
    have HW4 := Lib.hid (HWR.out.trans (hb4.mono HWR.out.size))
    have HW5 := Lib.hid (HW1.out.trans (hb4.mono HW1.out.size))
    clear u3 v3 e0 e1 e2 e3 r0 r1 r2 r3 x0 x1 x2 x3 y0 y1 y2 y3 c0 c1 c2 c3 d0 d1 d2 d3 hb4
    by_cases hc : c = 0
    · subst hc
      go_wp2
      go_roundw
      case rel => exact ⟨k + 1, by go_num, by omega, by omega, HW4, HW5, by rw [HV2.out]; rfl⟩
      case measure => simp [intOf]; omega
    · have hc1 : (c == 0) = false := by rw [beq_eq_false_iff_ne]; exact hc
      have hc2 : (c != 0) = true := by simp [bne, hc1]
      go_wp2
      go_ret
      exact ⟨by rw [HV2.out, if_pos hc]; rfl, HW4.out⟩

theorem compare_two {a b : PV} {sa sb : Value} {w : World} {F G : Nat → Prop} (ha : IsV w F a sa) (hb : IsV w G b sb) :
    Calls Tryd.prog 27 #[pvA a sa, pvA b sb] w fun e w' => e = .returned (.int .i64 (compareC a b)) ∧ Below w.heap.size w w' :=
  compare_any _ a b sa sb w (Nat.le_refl _) ha.any hb.any
set_option maxHeartbeats 2000000 in
theorem same_any {a b : PV} {sa sb : Value} {w : World} {F G : Nat → Prop} (ha : IsV w F a sa) (hb : IsV w G b sb) :
    Calls Tryd.prog 11 #[pvA a sa, pvA b sb] w fun e w' => e = .returned (.bool (compareC a b == 0)) ∧ Below w.heap.size w w' := by
  have HB0 := Lib.hid (belowA2 w (.cells #[.int .i64 a.kind, .int .i64 a.n, .string (mkB a.s), sa] 24) (.cells #[.int .i64 b.kind, .int .i64 b.n, .string (mkB b.s), sb] 24))
  have hc := compare_two (ha.below HB0.out) (hb.below HB0.out)
  unfold pvA at *
  have HC := Lib.hid hc
  clear hc ha hb
  generalize compareC a b = c at *
  generalize a.kind = a0 at *
  generalize a.n = a1 at *
  generalize mkB a.s = a2 at *
  generalize b.kind = b0 at *
  generalize b.n = b1 at *
  generalize mkB b.s = b2 at *
  go_enter Tryd.func11, Tryd.ntmps11
  go_wp2_with (go_at_call 27; refine HC.out.mono ?_; rintro e w' ⟨rfl, hb⟩)
  go_ret
  exact ⟨rfl, HB0.out.trans (hb.mono HB0.out.size)⟩
end Go.Proofs.YtnkodejgiabamaaDoor
/-
  Show's writer in memory: a byte, or a text, is put behind what it has put together.
-/
namespace Go.Proofs.YtnkodejgiabamaaDoor
open Go.RowKit

def u8W (b : UInt8) : Value := .int .u8 b.toNat
/-- A writer in block p; S knows it, and what it has put together. -/
structure IsWr (w : World) (S : Nat → Prop) (p : Nat) (out : List UInt8) (ad v : Value) : Prop where
  blk : w.heap[p]? = some (.cells #[ad, v] 49 (0, 0))
  ad_ : ad = .pointer none ∨ ad = .pointer (some ⟨p, 0, none⟩)
  row : w.ownsRow (p + 1) 5 1 v out.length (out.map u8W)
  at_ : ∀ b, v.ownBlock = some b → S b
  own : S p
  lt : ∀ b, S b → p ≤ b ∧ b < w.heap.size
def WrQ (w : World) (S : Nat → Prop) (p : Nat) (out : List UInt8) : Prop := ∃ ad v, IsWr w S p out ad v
/-- What a call leaves of a writer. -/
def WrNext (w : World) (S : Nat → Prop) (p : Nat) (out : List UInt8) (w' : World) : Prop := ∃ S', WrQ w' S' p out ∧ Keeps S w w' ∧ ∀ b, S' b → S b ∨ w.heap.size ≤ b

section
variable {w w1 w2 w' : World} {S S1 : Nat → Prop} {p : Nat} {out : List UInt8} {ad v : Value}
theorem WrNext.refl (h : WrQ w S p out) : WrNext w S p out w := ⟨S, h, Keeps.refl _ _, fun _ h => .inl h⟩
theorem WrNext.trans (hk : Keeps S w w1) (hs : ∀ b, S1 b → S b ∨ w.heap.size ≤ b) (h2 : WrNext w1 S1 p out w2) : WrNext w S p out w2 := by
  obtain ⟨S2, q, k2, s⟩ := h2
  exact ⟨S2, q, hk.trans k2 hs, fun b hb => (s b hb).elim (hs b) (fun h => .inr (Nat.le_trans hk.size h))⟩
theorem IsWr.keep (h : IsWr w S p out ad v) (hb : Below w.heap.size w w') : IsWr w' S p out ad v :=
  ⟨block_keep hb h.blk, h.ad_, ownsRow_keep h.row hb, h.at_, h.own, fun b hS => ⟨(h.lt b hS).1, Nat.lt_of_lt_of_le (h.lt b hS).2 hb.size⟩⟩
theorem WrQ.keep (h : WrQ w S p out) (hb : Below w.heap.size w w') : WrQ w' S p out := by obtain ⟨ad, v, h⟩ := h; exact ⟨ad, v, h.keep hb⟩
theorem IsWr.cells (h : IsWr w S p out ad v) : w.cell? ⟨p, 0, none⟩ = some ad ∧ w.cell? ⟨p, 1, none⟩ = some v := by
  refine ⟨?_, ?_⟩ <;> (rw [cell_of_row w p _ _ _ _ h.blk]; rfl)
theorem IsWr.free (h : IsWr w S p out ad v) (j : Nat) : w.frozen? ⟨p, j, none⟩ = false := frozen_of_row w p j _ _ h.blk
theorem keepsW (h : Below w.heap.size w w') : Keeps S w w' := ⟨h.os, h.tape, h.output, h.size, fun b hb _ => h.block b hb⟩
/-- New memory, then what a call leaves. -/
theorem WrNext.above (hb : Below w.heap.size w w1) (h2 : WrNext w1 S p out w2) : WrNext w S p out w2 := WrNext.trans (keepsW hb) (fun _ h => .inl h) h2
/-- What a call leaves, then new memory. -/
theorem WrNext.on (h : WrNext w S p out w1) (hb : Below w1.heap.size w1 w2) : WrNext w S p out w2 := by
  obtain ⟨S2, q, k2, s⟩ := h
  exact ⟨S2, q.keep hb, k2.trans (keepsW hb) (fun b hb => s b hb), s⟩
end

theorem infoBuilderW : (Tryd.prog.info? 47).map (·.size) = some 2 := by kernel_rfl
theorem liesBuilderW : liesAt Tryd.prog Tryd.prog.depth 49 (2 / Tryd.prog.cellsOf 49) 0 47 1 = true := by kernel_rfl
theorem EByteW : ElemT Tryd.prog 45 5 (.int .u8 0) 1 1 := ⟨Tryd.underlying45, by kernel_rfl, rfl, by omega⟩

/-- What copyCheck leaves. -/
def ChkW (w : World) (S : Nat → Prop) (p : Nat) (out : List UInt8) (v : Value) (e : Ending) (w' : World) : Prop :=
  e = .returned (.tuple #[]) ∧ IsWr w' S p out (.pointer (some ⟨p, 0, none⟩)) v ∧ Keeps S w w' ∧ w'.heap.size = w.heap.size

theorem IsWr.mark {w : World} {S : Nat → Prop} {p : Nat} {out : List UInt8} {ad v : Value} (h : IsWr w S p out ad v) :
    IsWr (w.setCell ⟨p, 0, none⟩ (.pointer (some ⟨p, 0, none⟩))) S p out (.pointer (some ⟨p, 0, none⟩)) v := by
  refine ⟨?_, .inr rfl, ownsRow_setCell_other h.row (a := ⟨p, 0, none⟩) (fun e => by have := (h.row.lt p e).1; omega) _, h.at_, h.own, fun b hS => by have := h.lt b hS; simpa using this⟩
  rw [heap_setCell_same _ _ 0 _ _ _ h.blk]; rfl

set_option maxRecDepth 100000 in
set_option maxHeartbeats 1000000 in
theorem copyCheckW {w : World} {S : Nat → Prop} {p : Nat} {out : List UInt8} {ad v : Value} (h : IsWr w S p out ad v) :
    Calls Tryd.prog 55 #[.pointer (some ⟨p, 0, none⟩)] w (ChkW w S p out v) := by
  obtain ⟨j, hj, hjs⟩ := Option.map_eq_some_iff.1 infoBuilderW
  obtain ⟨c0, -⟩ := h.cells
  have hfz := h.free 0
  have hsh : w.shape? p = some (49, 2) := by have := h.blk; simp [World.shape?, this]
  rcases h.ad_ with rfl | rfl
  · have HM := Lib.hid h.mark
    have HK := Lib.hid ((Keeps.refl S w).setCell (a := ⟨p, 0, none⟩) (.inl h.own) (.pointer (some ⟨p, 0, none⟩)))
    clear h
    go_enter Tryd.func55, Tryd.ntmps55
    go_wp2
    rw [Lib.run_to_unsafe w ⟨p, 0, none⟩ Tryd.underlying44 Tryd.underlying82 hj (by rw [hjs]; decide) hsh (Nat.succ_pos 1)]
    simp only [Result.andThen]
    rw [Oper.upon_value]
    go_wp2
    rw [run_callFunc_extern Tryd.func68 (by kernel_rfl) (by kernel_rfl) (by kernel_rfl) (e := Extern.AbiNoEscape.same) (by kernel_rfl)]
    rw [Lib.run_noEscape]
    simp only [Result.andThen]
    rw [Oper.upon_value]
    go_wp2
    rw [Lib.run_from_unsafe w ⟨p, 0, none⟩ Tryd.underlying82 Tryd.underlying44 hj hsh liesBuilderW]
    simp only [Result.andThen]
    rw [Oper.upon_value]
    go_wp2
    go_end0
    exact ⟨rfl, HM.out, HK.out, by simp⟩
  · have HM := Lib.hid h
    clear h
    go_enter Tryd.func55, Tryd.ntmps55
    go_wp2
    rw [Lib.run_neq_ptr_same w _ Tryd.underlying44 hj]
    go_wp2
    go_end0
    exact ⟨rfl, HM.out, Keeps.refl _ _, rfl⟩

theorem IsWr.put {w W w2 : World} {S : Nat → Prop} {p : Nat} {out news : List UInt8} {v v' : Value} (h : IsWr w S p out (.pointer (some ⟨p, 0, none⟩)) v) (hb : Below w.heap.size w W)
    (hr : w2.ownsRow (p + 1) 5 1 v' (out.length + news.length) (out.map u8W ++ news.map u8W)) (hg : W.grownBy w2 v.ownBlock) (hn : NewAt W v v') :
    WrNext w S p (out ++ news) (w2.setCell ⟨p, 1, none⟩ v') := by
  have hp := (h.lt p h.own).2
  have hvb : ∀ b, v.ownBlock = some b → p < b := fun b hb => (h.row.lt b hb).1
  have h1 : w2.heap[p]? = some (.cells #[.pointer (some ⟨p, 0, none⟩), v] 49 (0, 0)) :=
    (hg.block p (Nat.lt_of_lt_of_le hp hb.size) (fun e => by have := hvb p e.symm; omega)).trans (block_keep hb h.blk)
  have hk1 : Keeps S w w2 := (keepsW hb).grown hg (fun k hk => .inl (h.at_ k hk))
  have hk2 := hk1.setCell (a := ⟨p, 1, none⟩) (.inl h.own) v'
  have hsz := hk2.size
  refine ⟨fun b => S b ∨ (p ≤ b ∧ w.heap.size ≤ b ∧ b < (w2.setCell ⟨p, 1, none⟩ v').heap.size), ⟨.pointer (some ⟨p, 0, none⟩), v', ⟨?_, .inr rfl, ?_, fun b hb2 => ?_, .inl h.own, fun b hb2 => ?_⟩⟩, hk2, fun b hb2 => ?_⟩
  · rw [heap_setCell_same _ _ 1 _ _ _ h1]; rfl
  · have := ownsRow_setCell_other hr (a := ⟨p, 1, none⟩) (fun e => by have := (hr.lt p e).1; omega) v'
    simpa using this
  · have hlt := (hr.lt b hb2)
    rcases hn b hb2 with h2 | h2
    · exact .inl (h.at_ b h2)
    · have := hb.size
      exact .inr ⟨by omega, by omega, by simpa using hlt.2⟩
  · rcases hb2 with hb2 | hb2
    · have := h.lt b hb2; omega
    · exact ⟨hb2.1, hb2.2.2⟩
  · rcases hb2 with hb2 | hb2
    · exact .inl hb2
    · exact .inr hb2.2.1

set_option maxRecDepth 100000 in
set_option maxHeartbeats 1000000 in
theorem writeByteW {w : World} {S : Nat → Prop} {p : Nat} {out : List UInt8} (h : WrQ w S p out) (c : UInt8) (x : Int) (hx : x = (c.toNat : Int)) (hl : out.length ≤ 10000000) :
    Calls Tryd.prog 40 #[.pointer (some ⟨p, 0, none⟩), .int .u8 x] w fun e w' => e = .returned .nilIface ∧ WrNext w S p (out ++ [c]) w' := by
  obtain ⟨ad, v, h⟩ := h
  have HC := Lib.hid (copyCheckW h)
  unfold ChkW at HC
  have hXC : Value.int .u8 x = u8W c := by rw [hx]; rfl
  have HX := Lib.hid hXC
  clear h hx hXC
  go_enter Tryd.func40, Tryd.ntmps40
  go_wp2_with fail
  refine HC.out.mono ?_
  rintro e w1 ⟨rfl, h1, hk1, hs1⟩
  have H1 := Lib.hid h1
  have HK1 := Lib.hid hk1
  have HS1 := Lib.hid hs1
  obtain ⟨-, c1⟩ := h1.cells
  have hf1 := h1.free 1
  have hp1 := (h1.lt p h1.own).2
  clear h1 hk1 hs1
  go_wp2_with (at_builtin; refine append_at EByteW rfl (.tmp 11) (.tmp 13) rfl (p + 1) _ out.length _ rfl (H1.out.row.alloc _) _ 1 _ _ rfl (row_new1 _ _ _) (one_mem rfl) (by unfold maxLen; omega) (by omega) (by rw [sizeA]; omega) ?_; intro v' w2 hO2 hg2 hn2; obtain ⟨a', cap', hv', -⟩ := Row.of_owns hO2; subst hv'; rw [HX.out] at hO2; have HN := Lib.hid (H1.out.put (news := [c]) (belowA w1 _) hO2 hg2 hn2); have hp2 : p < w2.heap.size := (by have := hg2.size; rw [sizeA] at this; omega); have hfz2 : w2.frozen? ⟨p, 1, none⟩ = false := (frozen_of_row w2 p 1 _ _ ((hg2.block p (by rw [sizeA]; omega) (fun e => by have := (H1.out.row.lt p e.symm).1; omega)).trans ((Below.heap_alloc w1 _ p hp1).trans H1.out.blk))); have hc2 : w2.cell? ⟨p, 1, none⟩ = some v := ((cell_of_row w2 p 1 _ _ _ ((hg2.block p (by rw [sizeA]; omega) (fun e => by have := (H1.out.row.lt p e.symm).1; omega)).trans ((Below.heap_alloc w1 _ p hp1).trans H1.out.blk))).trans rfl); clear hO2 hg2 hn2)
  go_ret
  exact ⟨rfl, WrNext.trans HK1.out (fun b hb => .inl hb) HN.out⟩
end Go.Proofs.YtnkodejgiabamaaDoor
/-
  Show's writer: a text is put behind; what it has put together.
-/
namespace Go.Proofs.YtnkodejgiabamaaDoor
open Go.RowKit

theorem strCells_mkB (l : List UInt8) : Lib.strCells (mkB l) = l.map u8W := by unfold Lib.strCells mkB u8W; simp
/-- 'append(v, s...)', v the call's own; where the new row lies. -/
theorem append_strW {P : Program} (w : World) {ops : Array Oper} {rest : List Oper} {o : Oper} {a : Act} {Q : Exit → Act → World → Prop} (hgd : o.guard = none) (sl x : Operand) (t u : TypeId)
    (ho : o.op = .call { callee := .builtin .append, args := #[sl, x], argTypes := #[t, u] })
    (base : Nat) (e : TypeId) (i : TypeInfo) (ht : P.underlying t = some (.slice e)) (hu : P.underlying u = some .string) (hi : P.info? e = some i) (hz : i.zero = some (.int .u8 0))
    (hsize : i.size = 1) (hby : i.bytes = 1)
    (v : Value) (n : Nat) (xs : List Value) (hs : a.eval sl = v) (hown : w.ownsRow base e 1 v n xs) (s : ByteArray) (hx : a.eval x = .string s)
    (h63 : n + s.size ≤ maxLen) (hbytes : n + s.size ≤ 140737488355328) (hbase : base ≤ w.heap.size)
    (h : ∀ v' w', w'.ownsRow base e 1 v' (n + s.size) (xs ++ Lib.strCells s) → w.grownBy w' v.ownBlock → NewAt w v v' → wpList P ops Q rest (a.put o.dst v') w') : wpList P ops Q (o :: rest) a w := by
  refine wpList_plain hgd fun K hK => ?_
  obtain ⟨v', w', hr, h2, h3, h4⟩ := Lib.run_append_own_string (P := P) w base t u o.type e i ht hu hi hz hsize hby v n xs hown s h63 hbytes hbase
  have hn : NewAt w v v' := by
    have hsmall : n + s.size ≤ 9223372036854775807 := by simp only [maxLen] at h63; omega
    have hxl : xs.length = n := by simpa using hown.1
    rcases hown.2 with ⟨rfl, hx0⟩ | ⟨g, cap, cur, rfl, hbg, hg, hnc, hcm, hcs, htake⟩
    · obtain ⟨v2, w2, hr2, g2, _, _⟩ := Lib.run_append_own_string (P := P) w w.heap.size t u o.type e i ht hu hi hz hsize hby _ n xs ⟨hown.1, .inl ⟨rfl, hx0⟩⟩ s h63 hbytes (Nat.le_refl _)
      rw [hr] at hr2
      simp only [Result.ok.injEq] at hr2
      obtain ⟨rfl, rfl⟩ := hr2
      exact fun b hb => .inr (g2.lt b hb).1
    · by_cases hroom : n + s.size ≤ cap
      · have hr2 := Lib.run_append_room_string (P := P) w t u o.type e i ht hu hi hsize g n cap cur hg s hroom (by omega)
        rw [hr] at hr2
        simp only [Result.ok.injEq] at hr2
        obtain ⟨rfl, rfl⟩ := hr2
        exact fun b hb => .inl hb
      · have holds : ∀ j u, xs[j]? = some u → w.cell? ((⟨g, 0, none⟩ : Addr).add j) = some u := hown.cells (g := g) rfl
        have hr2 := Lib.run_append_grow_string (P := P) w t u o.type e i (.int .u8 0) ht hu hi hz ⟨g, 0, none⟩ n cap xs (by rw [hsize]; simpa using hxl) holds s (by omega) (by omega) (by rw [hby]; exact growslice_fits (by omega) (by omega))
        rw [hr] at hr2
        simp only [Result.ok.injEq] at hr2
        obtain ⟨rfl, rfl⟩ := hr2
        intro b hb
        simp [Value.ownBlock] at hb
        right; omega
  unfold Oper.wp execOp
  simp only [ho, resolve, invoke, builtin, Sem.run_bind, Sem.run_pure, Result.andThen_ok, List.map_toArray, List.map_cons, List.map_nil, hs, hx, hr]
  exact hK _ _ (h v' w' h2 h3 hn)

set_option maxRecDepth 100000 in
set_option maxHeartbeats 1000000 in
theorem writeStrW {w : World} {S : Nat → Prop} {p : Nat} {out : List UInt8} (h : WrQ w S p out) (s : List UInt8) (hl : out.length + s.length ≤ 10000000) :
    Calls Tryd.prog 37 #[.pointer (some ⟨p, 0, none⟩), .string (mkB s)] w fun e w' => e = .returned (.tuple #[.int .i64 s.length, .nilIface]) ∧ WrNext w S p (out ++ s) w' := by
  obtain ⟨ad, v, h⟩ := h
  obtain ⟨i0, hi, hz, hs, hb⟩ := info_parts EByteW.info
  have HC := Lib.hid (copyCheckW h)
  unfold ChkW at HC
  have hsz : (mkB s).size = s.length := mkB_size s
  have HSC := Lib.hid (strCells_mkB s)
  have HSZ := Lib.hid hsz
  have hszi : ((mkB s).size : Int) = s.length := by rw [hsz]
  have HI := Lib.hid (⟨hi, hz, hs, hb⟩ : _ ∧ _ ∧ _ ∧ _)
  clear h hi hz hs hb hsz
  go_enter Tryd.func37, Tryd.ntmps37
  go_wp2_with fail
  refine HC.out.mono ?_
  rintro e w1 ⟨rfl, h1, hk1, hs1⟩
  have H1 := Lib.hid h1
  have HK1 := Lib.hid hk1
  have HS1 := Lib.hid hs1
  obtain ⟨-, c1⟩ := h1.cells
  have hf1 := h1.free 1
  have hp1 := (h1.lt p h1.own).2
  clear h1 hk1 hs1
  go_wp2_with (at_builtin; refine append_strW _ rfl (.tmp 12) (.tmp 13) 45 9 rfl (p + 1) 5 i0 Tryd.underlying45 Tryd.underlying9 HI.out.1 HI.out.2.1 HI.out.2.2.1 HI.out.2.2.2 _ out.length _ rfl H1.out.row (mkB s) rfl (by rw [HSZ.out]; unfold maxLen; omega) (by rw [HSZ.out]; omega) (by omega) ?_; intro v' w2 hO2 hg2 hn2; obtain ⟨a', cap', hv', -⟩ := Row.of_owns hO2; subst hv'; rw [HSC.out, HSZ.out] at hO2; have HN := Lib.hid (H1.out.put (news := s) (Below.refl _ _) (by rw [HSZ.out] at *; exact hO2) hg2 (by rw [HSZ.out] at *; exact hn2)); have hp2 : p < w2.heap.size := (by have := hg2.size; omega); have hfz2 : w2.frozen? ⟨p, 1, none⟩ = false := (frozen_of_row w2 p 1 _ _ ((hg2.block p hp1 (fun e => by have := (H1.out.row.lt p e.symm).1; omega)).trans H1.out.blk)); have hc2 : w2.cell? ⟨p, 1, none⟩ = some v := ((cell_of_row w2 p 1 _ _ _ ((hg2.block p hp1 (fun e => by have := (H1.out.row.lt p e.symm).1; omega)).trans H1.out.blk)).trans rfl); clear hO2 hg2 hn2)
  go_ret2
  exact ⟨rfl, WrNext.trans HK1.out (fun b hb => .inl hb) HN.out⟩
end Go.Proofs.YtnkodejgiabamaaDoor
