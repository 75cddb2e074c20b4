/-
  Our texts Dc1 to Ps2, in one.
-/
import Derived.Test.YtnkodejgiabamaaGreatPkW16
import Derived.Deep.DeepCutAuto
import Derived.Test.YtnkodejgiabamaaGreatProg
import Derived.Deep.RegionHeld3
import Derived.BigQuiet
/-
  Walks of layer 12's document: whether a token is a whole number; a reference.
-/
namespace Go.Proofs.YtnkodejgiabamaaGreat
open Go.RowKit

set_option maxHeartbeats 2000000 in
theorem rwhole_tk (x : Tk) (f t : Int) (w : World) : Calls Tryz.prog 18 #[.agg (tokN x f t)] w fun e w' => e = .returned (.bool (wholeV x)) ∧ Below w.heap.size w w' := by
  unfold tokN wholeV
  generalize x.kind = a0 at *
  generalize x.vk = a1 at *
  generalize x.vn = a2 at *
  generalize mkB x.vs = s1 at *
  generalize mkB x.s = s2 at *
  cases h0 : (a0 == 1)
  · go_enter Tryz.func18, Tryz.ntmps18
    go_wp2
    go_ret
    exact ⟨rfl, belowA w _⟩
  · go_enter Tryz.func18, Tryz.ntmps18
    go_wp2
    go_ret
    exact ⟨rfl, belowA w _⟩

set_option maxRecDepth 8000 in
set_option maxHeartbeats 4000000 in
theorem rref_any {w : World} {a : Option Addr} {cap : Nat} {bs : List UInt8} (hr : Row w 1 a bs.length cap (bs.map u8C)) (hn : bs.length ≤ 100000) (k : Int) (last : Bool) (n : Int) :
    Calls Tryz.prog 47 #[.slice a bs.length cap, .int .i64 k, .bool last, .int .i64 n] w fun e w' =>
      e = .returned (.tuple #[.bool (refD bs last k n).1, .int .i64 (refD bs last k n).2.1, .int .i64 (refD bs last k n).2.2]) ∧ Below w.heap.size w w' := by
  have HN := Lib.hid (rnext_any hr hn k last)
  have HN2 := Lib.hid (fun (W : World) (h : Below w.heap.size w W) => rnext_any (hr.mono h) hn (nextV bs k last).2.2.1 last)
  have HWH := Lib.hid (fun (W : World) => rwhole_tk (nextV bs k last).1 (nextV bs k last).2.1 (nextV bs k last).2.2.1 W)
  obtain ⟨R, hR⟩ : ∃ R, R = refD bs last k n := ⟨_, rfl⟩
  rw [← hR]
  unfold refD at hR
  simp only at hR
  clear hr hn
  generalize nextV bs (nextV bs k last).2.2.1 last = V2 at *
  generalize nextV bs k last = V at *
  obtain ⟨x, f, t, er⟩ := V
  obtain ⟨y, f2, t2, er2⟩ := V2
  simp only at hR HN2 HWH
  unfold NextEnd tokN at HN HN2
  unfold tokN at HWH
  simp only at HN HN2
  have HYS := eq_mkB y.s [82]
  have HR := Lib.hid hR
  have HYQ := Lib.hid HYS
  clear hR HYS
  generalize x.kind = a0 at *
  generalize x.vk = a1 at *
  generalize x.vn = a2 at *
  generalize mkB x.vs = s1 at *
  generalize mkB x.s = s2 at *
  generalize wholeV x = wh at *
  generalize y.kind = b0 at *
  generalize y.vk = b1 at *
  generalize y.vn = b2 at *
  generalize mkB y.vs = u1 at *
  generalize mkB y.s = u2 at *
  generalize y.s = ys at *
  generalize bs.length = L at *
  go_enter Tryz.func47, Tryz.ntmps47
  go_wp2_with fail
  refine HN.out.mono ?_
  rintro e w1 ⟨rfl, hb1⟩
  have HB := Lib.hid (hb1.alloc hb1.size (.cells #[.int .i64 a0, .int .i64 f, .int .i64 t, .int .i64 a1, .int .i64 a2, .string s1, .slice none 0 0, .string s2] 50))
  have HK := Lib.hid (heapA_new (w := w1) (b := w1.heap.size) (.cells #[.int .i64 a0, .int .i64 f, .int .i64 t, .int .i64 a1, .int .i64 a2, .string s1, .slice none 0 0, .string s2] 50) rfl)
  clear hb1 HN
  by_cases h6 : er = 6
  · subst h6
    have hR := HR.out
    rw [if_pos rfl] at hR
    subst hR
    clear HR HK HN2 HWH HYQ
    go_wp2
    go_ret3
    exact ⟨rfl, HB.out⟩
  have e6 : (er == 6) = false := by rw [beq_eq_false_iff_ne]; exact h6
  by_cases h0 : er = 0
  case neg =>
    have e0 : (er == 0) = false := by rw [beq_eq_false_iff_ne]; exact h0
    have e1 : (er != 0) = true := by simp only [bne, e0, Bool.not_false]
    have hR := HR.out
    rw [if_neg h6, if_pos (.inl h0)] at hR
    subst hR
    clear HR HK HN2 HWH HYQ h6 h0
    go_wp2
    go_ret3
    exact ⟨rfl, HB.out⟩
  subst h0
  obtain ⟨r1, hr1⟩ : ∃ r1, r1 = w1.heap.size := ⟨_, rfl⟩
  rw [← hr1] at HK
  obtain ⟨W1, hW1⟩ : ∃ W1, W1 = w1.alloc (.cells #[.int .i64 a0, .int .i64 f, .int .i64 t, .int .i64 a1, .int .i64 a2, .string s1, .slice none 0 0, .string s2] 50) := ⟨_, rfl⟩
  rw [← hW1] at HK HB
  clear h6
  have HW1 := Lib.hid hW1
  have HR1 := Lib.hid hr1
  clear hW1 hr1
  cases wh with
  | false =>
    have hR := HR.out
    rw [if_neg (by decide), if_pos (.inr rfl)] at hR
    subst hR
    clear HR HN2 HYQ
    go_upto_region 2 with fail
    rw [← HW1.out, ← HR1.out]
    obtain ⟨⟨k0, k1, k2, k3, k4, k5, k6, k7⟩, -⟩ := cells8 HK.out
    go_wp2_with fail
    refine (HWH.out _).mono ?_
    rintro e w2 ⟨rfl, hb2⟩
    have HB2 := Lib.hid (HB.out.trans (hb2.mono HB.out.size))
    clear hb2 k0 k1 k2 k3 k4 k5 k6 k7
    go_wp2
    go_ret3
    exact ⟨rfl, HB2.out⟩
  | true =>
    have hR := HR.out
    rw [if_neg (by decide), if_neg (by simp)] at hR
    have HR := Lib.hid hR
    clear hR
    go_upto_region 2 with fail
    rw [← HW1.out, ← HR1.out]
    obtain ⟨⟨k0, k1, k2, k3, k4, k5, k6, k7⟩, -⟩ := cells8 HK.out
    go_wp2_with fail
    refine (HWH.out _).mono ?_
    rintro e w2 ⟨rfl, hb2⟩
    have HB2 := Lib.hid (HB.out.trans (hb2.mono HB.out.size))
    have HK2 := Lib.hid (block_keep hb2 HK.out)
    clear hb2 k0 k1 k2 k3 k4 k5 k6 k7 HK HW1 HR1 HB HWH
    obtain ⟨⟨k0, k1, k2, k3, k4, k5, k6, k7⟩, -⟩ := cells8 HK2.out
    go_wp2_with fail
    refine (HN2.out _ HB2.out).mono ?_
    rintro e w3 ⟨rfl, hb3⟩
    have hb3a := hb3.alloc hb3.size (.cells #[.int .i64 b0, .int .i64 f2, .int .i64 t2, .int .i64 b1, .int .i64 b2, .string u1, .slice none 0 0, .string u2] 50)
    have HB3 := Lib.hid (HB2.out.trans (hb3a.mono HB2.out.size))
    have HK3 := Lib.hid (block_keep hb3a HK2.out)
    have HKN := Lib.hid (heapA_new (w := w3) (b := w3.heap.size) (.cells #[.int .i64 b0, .int .i64 f2, .int .i64 t2, .int .i64 b1, .int .i64 b2, .string u1, .slice none 0 0, .string u2] 50) rfl)
    clear hb3 hb3a k0 k1 k2 k3 k4 k5 k6 k7 HK2 HB2 HN2
    by_cases h6 : er2 = 6
    · subst h6
      have hR := HR.out
      rw [if_pos rfl] at hR
      subst hR
      clear HR HK3 HKN HYQ
      go_wp2
      go_ret3
      exact ⟨rfl, HB3.out⟩
    have e6 : (er2 == 6) = false := by rw [beq_eq_false_iff_ne]; exact h6
    by_cases h0 : er2 = 0
    case neg =>
      have e0 : (er2 == 0) = false := by rw [beq_eq_false_iff_ne]; exact h0
      have e1 : (er2 != 0) = true := by simp only [bne, e0, Bool.not_false]
      have hR := HR.out
      rw [if_neg h6, if_pos (.inl h0)] at hR
      subst hR
      clear HR HK3 HKN HYQ h6 h0
      go_wp2
      go_ret3
      exact ⟨rfl, HB3.out⟩
    subst h0
    obtain ⟨r3, hr3⟩ : ∃ r3, r3 = w3.heap.size := ⟨_, rfl⟩
    rw [← hr3] at HKN
    obtain ⟨W3, hW3⟩ : ∃ W3, W3 = w3.alloc (.cells #[.int .i64 b0, .int .i64 f2, .int .i64 t2, .int .i64 b1, .int .i64 b2, .string u1, .slice none 0 0, .string u2] 50) := ⟨_, rfl⟩
    rw [← hW3] at HK3 HKN HB3
    have HW3 := Lib.hid hW3
    have HR3 := Lib.hid hr3
    clear h6 hW3 hr3
    by_cases hc : b0 = 6
    case neg =>
      have c1 : (b0 == 6) = false := by rw [beq_eq_false_iff_ne]; exact hc
      have c2 : (b0 != 6) = true := by simp only [bne, c1, Bool.not_false]
      have hR := HR.out
      rw [if_neg (by decide), if_pos (.inr (.inl hc))] at hR
      subst hR
      clear HR hc HYQ HK3
      go_upto_region 7 with fail
      rw [← HW3.out, ← HR3.out]
      obtain ⟨⟨k0, k1, k2, k3, k4, k5, k6, k7⟩, -⟩ := cells8 HKN.out
      go_wp2
      go_ret3
      exact ⟨rfl, HB3.out⟩
    subst hc
    have hyq := HYQ.out
    by_cases hs : ys = [82]
    case neg =>
      rw [decide_eq_false hs] at hyq
      have c2 : (u2.toList != [82]) = true := by simp only [bne, hyq, Bool.not_false]
      have hR := HR.out
      rw [if_neg (by decide), if_pos (.inr (.inr hs))] at hR
      subst hR
      clear HR hs HYQ HK3
      go_upto_region 7 with fail
      rw [← HW3.out, ← HR3.out]
      obtain ⟨⟨k0, k1, k2, k3, k4, k5, k6, k7⟩, -⟩ := cells8 HKN.out
      go_wp2
      go_ret3
      exact ⟨rfl, HB3.out⟩
    rw [decide_eq_true hs] at hyq
    have c2 : (u2.toList != [82]) = false := by simp only [bne, hyq, Bool.not_true]
    have hR := HR.out
    rw [if_neg (by decide), if_neg (by rintro (h | h | h); exact h rfl; exact h rfl; exact h hs)] at hR
    have HR := Lib.hid hR
    clear hR hs HYQ
    go_upto_region 7 with fail
    rw [← HW3.out, ← HR3.out]
    obtain ⟨⟨k0, k1, k2, k3, k4, k5, k6, k7⟩, -⟩ := cells8 HKN.out
    obtain ⟨⟨m0, m1, m2, m3, m4, m5, m6, m7⟩, -⟩ := cells8 HK3.out
    have hR := HR.out
    by_cases q1 : n < 1
    · have d1 : decide (n < 1) = true := decide_eq_true q1
      rw [if_pos (.inl q1)] at hR
      subst hR
      clear HR q1
      go_wp2
      go_ret3
      exact ⟨rfl, HB3.out⟩
    have d1 : decide (n < 1) = false := decide_eq_false q1
    by_cases q2 : 4096 < n
    · have d2 : decide (4096 < n) = true := decide_eq_true q2
      rw [if_pos (.inr (.inl q2))] at hR
      subst hR
      clear HR q1 q2
      go_wp2
      go_ret3
      exact ⟨rfl, HB3.out⟩
    have d2 : decide (4096 < n) = false := decide_eq_false q2
    by_cases q3 : a2 = 0
    case neg =>
      have d3 : (a2 == 0) = false := by rw [beq_eq_false_iff_ne]; exact q3
      have d4 : (a2 != 0) = true := by simp only [bne, d3, Bool.not_false]
      rw [if_pos (.inr (.inr q3))] at hR
      subst hR
      clear HR q1 q2 q3
      go_wp2
      go_ret3
      exact ⟨rfl, HB3.out⟩
    subst q3
    rw [if_neg (by rintro (h | h | h); exact q1 h; exact q2 h; exact h rfl)] at hR
    subst hR
    clear HR q1 q2
    go_wp2
    go_quiet (fail)
    go_wp2
    go_ret3
    exact ⟨rfl, below_drewN HB3.out _⟩
end Go.Proofs.YtnkodejgiabamaaGreat
/-
  Plain: how two values stand (Compare); alike only if they are one.
-/
namespace Go.Proofs.YtnkodejgiabamaaGreat

mutual
def compareC : PV → PV → Int
  | .mk k n s l, .mk k2 n2 s2 l2 =>
    if k < k2 ∨ (k = k2 ∧ (n < n2 ∨ (n = n2 ∧ sLt s s2 = true))) then -1
    else if k ≠ k2 ∨ n ≠ n2 ∨ s ≠ s2 then 1
    else compareL l l2
def compareL : List PV → List PV → Int
  | [], [] => 0
  | [], _ :: _ => -1
  | _ :: _, [] => 1
  | x :: l, y :: m => if compareC x y ≠ 0 then compareC x y else compareL l m
end
mutual
theorem compare_zero : ∀ (a b : PV), compareC a b = 0 → a = b
  | .mk k n s l, .mk k2 n2 s2 l2, h => by
    simp only [compareC] at h
    split at h
    · cases h
    · split at h
      · cases h
      · rename_i h1 h2
        have e1 : k = k2 := Decidable.byContradiction fun e => h2 (.inl e)
        have e2 : n = n2 := Decidable.byContradiction fun e => h2 (.inr (.inl e))
        have e3 : s = s2 := Decidable.byContradiction fun e => h2 (.inr (.inr e))
        rw [e1, e2, e3, compareL_zero l l2 h]
theorem compareL_zero : ∀ (l m : List PV), compareL l m = 0 → l = m
  | [], [], _ => rfl
  | [], _ :: _, h => by simp [compareL] at h
  | _ :: _, [], h => by simp [compareL] at h
  | x :: l, y :: m, h => by
    simp only [compareL] at h
    split at h
    · rename_i hn; exact absurd h hn
    · rename_i hn
      rw [compare_zero x y (by simpa using hn), compareL_zero l m h]
end
mutual
theorem compare_self : ∀ a : PV, compareC a a = 0
  | .mk k n s l => by
    simp only [compareC]
    rw [if_neg (by rintro (h | ⟨-, h | ⟨-, h⟩⟩); omega; omega; rw [sLt_ir] at h; cases h), if_neg (by simp)]
    exact compareL_self l
theorem compareL_self : ∀ l : List PV, compareL l l = 0
  | [] => rfl
  | x :: l => by
    simp only [compareL]
    rw [if_neg (by simp [compare_self x])]
    exact compareL_self l
end
theorem compare_iff (a b : PV) : compareC a b = 0 ↔ a = b := ⟨compare_zero a b, fun h => h ▸ compare_self a⟩
end Go.Proofs.YtnkodejgiabamaaGreat
/-
  The walk of ref11.Compare and Same: how two values stand.
-/
namespace Go.Proofs.YtnkodejgiabamaaGreat
open Go.RowKit

theorem less_mkB : ∀ a b : List UInt8, Op.bytesLess a b = sLt a b
  | [], [] => rfl
  | [], _ :: _ => rfl
  | _ :: _, [] => rfl
  | a :: l, b :: m => by
    simp only [Op.bytesLess, sLt]
    rw [less_mkB l m]
    by_cases h : a.toNat < b.toNat
    · rw [if_pos h]
      have : (a < b) := h
      simp [this]
    · rw [if_neg h]
      have h' : ¬ (a < b) := h
      by_cases h2 : b.toNat < a.toNat
      · rw [if_pos h2]
        have : (a == b) = false := by rw [beq_eq_false_iff_ne]; intro e; subst e; omega
        simp [h', this]
      · rw [if_neg h2]
        have : a = b := UInt8.toNat_inj.1 (by omega)
        subst this
        simp
theorem toList_mkB (l : List UInt8) : (mkB l).toList = l := by unfold mkB; exact ByteArray.toList_eq _

structure Box4 (w : World) (b : Nat) (v : PV) (sl : Value) : Prop where
  blk : w.heap[b]? = some (.cells #[.int .i64 v.kind, .int .i64 v.n, .string (mkB v.s), sl] 26 (0, 0))
theorem Box4.cells {w : World} {b : Nat} {v : PV} {sl : Value} (h : Box4 w b v sl) : w.cell? ⟨b, 0, none⟩ = some (.int .i64 v.kind) ∧ w.cell? ⟨b, 1, none⟩ = some (.int .i64 v.n) ∧ w.cell? ⟨b, 2, none⟩ = some (.string (mkB v.s)) ∧ w.cell? ⟨b, 3, none⟩ = some sl := by
  refine ⟨?_, ?_, ?_, ?_⟩
  · rw [cell_of_row w b 0 _ _ _ h.blk]; rfl
  · rw [cell_of_row w b 1 _ _ _ h.blk]; rfl
  · rw [cell_of_row w b 2 _ _ _ h.blk]; rfl
  · rw [cell_of_row w b 3 _ _ _ h.blk]; rfl

theorem cmpL_step {l m : List PV} {k : Nat} {x y : PV} (h1 : l[k]? = some x) (h2 : m[k]? = some y) :
    compareL (l.drop k) (m.drop k) = if compareC x y ≠ 0 then compareC x y else compareL (l.drop (k + 1)) (m.drop (k + 1)) := by
  obtain ⟨g1, e1⟩ := List.getElem?_eq_some_iff.1 h1
  obtain ⟨g2, e2⟩ := List.getElem?_eq_some_iff.1 h2
  rw [List.drop_eq_getElem_cons g1, List.drop_eq_getElem_cons g2, e1, e2]
  rfl
theorem cmpL_end {l m : List PV} {k : Nat} (h : ¬ (k < l.length ∧ k < m.length)) (h1 : k ≤ l.length) (h2 : k ≤ m.length) :
    compareL (l.drop k) (m.drop k) = if l.length < m.length then -1 else if m.length < l.length then 1 else 0 := by
  by_cases g1 : k < l.length
  · have g2 : k = m.length := by omega
    rw [List.drop_eq_getElem_cons g1, List.drop_of_length_le (l := m) (by omega), if_neg (by omega), if_pos (by omega)]
    rfl
  · rw [List.drop_of_length_le (l := l) (by omega)]
    by_cases g2 : k < m.length
    · rw [List.drop_eq_getElem_cons g2, if_pos (by omega)]
      rfl
    · rw [List.drop_of_length_le (l := m) (by omega), if_neg (by omega), if_neg (by omega)]
      rfl
def anyF : Nat → Prop := fun _ => True
theorem IsV.any {w : World} {F : Nat → Prop} {v : PV} {sl : Value} (h : IsV w F v sl) : IsV w anyF v sl := h.weaken fun _ _ => trivial
theorem sizeOf_mem {v x : PV} {k : Nat} (h : v.l[k]? = some x) : SizeOf.sizeOf x < SizeOf.sizeOf v := by
  obtain ⟨a, b, c, l⟩ := v
  have : SizeOf.sizeOf x < SizeOf.sizeOf l := List.sizeOf_lt_of_mem (List.mem_of_getElem? (h : l[k]? = some x))
  simp only [PV.mk.sizeOf_spec]; omega

set_option maxRecDepth 8000 in
set_option maxHeartbeats 4000000 in
theorem compare_any : ∀ (N : Nat) (a b : PV) (sa sb : Value) (w : World), SizeOf.sizeOf a ≤ N → IsV w anyF a sa → IsV w anyF b sb →
    Calls Tryz.prog 19 #[pvA a sa, pvA b sb] w fun e w' => e = .returned (.int .i64 (compareC a b)) ∧ Below w.heap.size w w' := by
  intro N
  induction N with
  | zero => intro a b sa sb w h; obtain ⟨_, _, _, _⟩ := a; simp at h
  | succ N ih =>
  intro a b sa sb w hN ha hb
  obtain ⟨a1, cap1, e1, g1, g2, g3⟩ := ha.len
  obtain ⟨a2, cap2, e2, g4, g5, g6⟩ := hb.len
  have HA := Lib.hid ha
  have HB := Lib.hid hb
  have HIH := Lib.hid ih
  have HN := Lib.hid hN
  have hC : compareC a b = if a.kind < b.kind ∨ (a.kind = b.kind ∧ (a.n < b.n ∨ (a.n = b.n ∧ sLt a.s b.s = true))) then -1
    else if a.kind ≠ b.kind ∨ a.n ≠ b.n ∨ a.s ≠ b.s then 1 else compareL a.l b.l := by
    obtain ⟨_, _, _, _⟩ := a; obtain ⟨_, _, _, _⟩ := b; simp only [compareC]; rfl
  have HSA := Lib.hid (fun (k : Nat) (x : PV) (h : a.l[k]? = some x) => sizeOf_mem h)
  subst e1 e2
  obtain ⟨la, hla⟩ : ∃ la, la = a.l := ⟨_, rfl⟩
  obtain ⟨lb, hlb⟩ : ∃ lb, lb = b.l := ⟨_, rfl⟩
  rw [← hla] at g1 HA ⊢
  rw [← hlb] at g4 HB ⊢
  rw [← hla, ← hlb] at hC
  have HLA := Lib.hid hla
  have HLB := Lib.hid hlb
  have m1 : (la.length : Int) ≤ 9223372036854775807 := by unfold maxLen at g2; omega
  have m2 : (lb.length : Int) ≤ 9223372036854775807 := by unfold maxLen at g5; omega
  have hl2 : Op.bytesLess (mkB a.s).toList (mkB b.s).toList = sLt a.s b.s := by rw [toList_mkB, toList_mkB, less_mkB]
  have hl3 : ((mkB a.s).toList == (mkB b.s).toList) = decide (a.s = b.s) := by rw [toList_mkB, toList_mkB]; by_cases h : a.s = b.s <;> simp [h]
  clear ih hN hla hlb ha hb
  unfold pvA
  generalize compareC a b = V at *
  generalize a.kind = ka at *
  generalize b.kind = kb at *
  generalize a.n = na at *
  generalize b.n = nb at *
  generalize a.s = s1 at *
  generalize b.s = s2 at *
  by_cases h1 : ka < kb
  · have hd : decide (ka < kb) = true := decide_eq_true h1
    rw [if_pos (.inl h1)] at hC
    have HC := Lib.hid hC
    clear h1 hC hl2 hl3
    go_enter Tryz.func19, Tryz.ntmps19
    go_wp2
    go_ret
    exact ⟨by rw [HC.out]; rfl, belowA2 w _ _⟩
  have hf1 : decide (ka < kb) = false := decide_eq_false h1
  by_cases h2 : kb < ka
  · have hq : (ka == kb) = false := by rw [beq_eq_false_iff_ne]; omega
    have hq2 : (ka != kb) = true := by simp [bne, hq]
    rw [if_neg (by omega), if_pos (.inl (by omega))] at hC
    have HC := Lib.hid hC
    clear h1 h2 hC hl2 hl3
    go_enter Tryz.func19, Tryz.ntmps19
    go_wp2
    go_ret
    exact ⟨by rw [HC.out]; rfl, belowA2 w _ _⟩
  obtain rfl : ka = kb := by omega
  clear h1 h2 hf1
  by_cases h1 : na < nb
  · have hd : decide (na < nb) = true := decide_eq_true h1
    rw [if_pos (.inr ⟨rfl, .inl h1⟩)] at hC
    have HC := Lib.hid hC
    clear h1 hC hl2 hl3
    go_enter Tryz.func19, Tryz.ntmps19
    go_wp2
    go_ret
    exact ⟨by rw [HC.out]; rfl, belowA2 w _ _⟩
  have hf1 : decide (na < nb) = false := decide_eq_false h1
  by_cases h2 : nb < na
  · have hq : (na == nb) = false := by rw [beq_eq_false_iff_ne]; omega
    have hq2 : (na != nb) = true := by simp [bne, hq]
    rw [if_neg (by rintro (h | ⟨-, h | ⟨h, -⟩⟩) <;> omega), if_pos (.inr (.inl (by omega)))] at hC
    have HC := Lib.hid hC
    clear h1 h2 hC hl2 hl3
    go_enter Tryz.func19, Tryz.ntmps19
    go_wp2
    go_ret
    exact ⟨by rw [HC.out]; rfl, belowA2 w _ _⟩
  obtain rfl : na = nb := by omega
  clear h1 h2 hf1
  by_cases h1 : sLt s1 s2 = true
  · rw [if_pos (.inr ⟨rfl, .inr ⟨rfl, h1⟩⟩)] at hC
    rw [h1] at hl2
    have HC := Lib.hid hC
    clear h1 hC hl3
    go_enter Tryz.func19, Tryz.ntmps19
    go_wp2
    go_ret
    exact ⟨by rw [HC.out]; rfl, belowA2 w _ _⟩
  rw [if_neg (by rintro (h | ⟨-, h | ⟨-, h⟩⟩); omega; omega; exact h1 h)] at hC
  rw [show sLt s1 s2 = false by simpa using h1] at hl2
  clear h1
  by_cases h2 : s1 = s2
  case neg =>
    rw [if_pos (.inr (.inr h2))] at hC
    rw [decide_eq_false h2] at hl3
    have hl4 : ((mkB s1).toList != (mkB s2).toList) = true := by simp [bne, hl3]
    have HC := Lib.hid hC
    clear h2 hC
    go_enter Tryz.func19, Tryz.ntmps19
    go_wp2
    go_ret
    exact ⟨by rw [HC.out]; rfl, belowA2 w _ _⟩
  subst h2
  rw [if_neg (by simp)] at hC
  have HC := Lib.hid hC
  clear hC hl3
  go_enter Tryz.func19, Tryz.ntmps19
  go_wp2
  obtain ⟨B, hB⟩ : ∃ B, B = w.heap.size := ⟨_, rfl⟩
  rw [← hB]
  have hx1 : ((w.alloc (.cells #[.int .i64 ka, .int .i64 na, .string (mkB s1), .slice a1 la.length cap1] 26)).alloc (.cells #[.int .i64 ka, .int .i64 na, .string (mkB s1), .slice a2 lb.length cap2] 26)).heap[B]? = some (.cells #[.int .i64 ka, .int .i64 na, .string (mkB s1), .slice a1 la.length cap1] 26 (0, 0)) := heapA_old _ (heapA_new _ hB)
  have hx2 : ((w.alloc (.cells #[.int .i64 ka, .int .i64 na, .string (mkB s1), .slice a1 la.length cap1] 26)).alloc (.cells #[.int .i64 ka, .int .i64 na, .string (mkB s1), .slice a2 lb.length cap2] 26)).heap[B + 1]? = some (.cells #[.int .i64 ka, .int .i64 na, .string (mkB s1), .slice a2 lb.length cap2] 26 (0, 0)) := heapA_new _ (by rw [sizeA, hB])
  have HX1 := Lib.hid hx1
  have HX2 := Lib.hid hx2
  have HW := Lib.hid (belowA2 w (.cells #[.int .i64 ka, .int .i64 na, .string (mkB s1), .slice a1 la.length cap1] 26) (.cells #[.int .i64 ka, .int .i64 na, .string (mkB s1), .slice a2 lb.length cap2] 26))
  have HBB := Lib.hid hB
  clear hx1 hx2 hB
  generalize (w.alloc _).alloc _ = W1 at *
  go_loopw [5] (fun vk wr => ∃ k : Nat, vk = .int .i64 k ∧ k ≤ la.length ∧ k ≤ lb.length ∧ Hid (Below w.heap.size w wr) ∧ Hid (Below W1.heap.size W1 wr) ∧ Hid (V = compareL (la.drop k) (lb.drop k))) (fun vk _ => la.length - (intOf vk).toNat)
  case atStart => exact ⟨0, rfl, Nat.zero_le _, Nat.zero_le _, HW, Below.refl _ _, HC⟩
  case round =>
    obtain ⟨k, rfl, hk1, hk2, HWR, HW1, HV⟩ := hrel
    have hy1 := block_keep HW1.out HX1.out
    have hy2 := block_keep HW1.out HX2.out
    obtain ⟨c0, c1, c2, c3⟩ := Box4.cells (v := .mk ka na s1 la) (sl := .slice a1 la.length cap1) (w := wr) (b := B) ⟨hy1⟩
    obtain ⟨d0, d1, d2, d3⟩ := Box4.cells (v := .mk ka na s1 lb) (sl := .slice a2 lb.length cap2) (w := wr) (b := B + 1) ⟨hy2⟩
    by_cases q1 : k < la.length ∧ k < lb.length
    case neg =>
      have hv := HV.out
      rw [cmpL_end q1 hk1 hk2] at hv
      have HV2 := Lib.hid hv
      clear hv hy1 hy2 HA HB HIH HV
      by_cases t1 : la.length < lb.length
      · have hd : decide (la.length < lb.length) = true := decide_eq_true t1
        have q2 : ¬ k < la.length := by omega
        go_wp2
        go_ret
        exact ⟨by rw [HV2.out, if_pos t1]; rfl, HWR.out⟩
      · have hd : decide (la.length < lb.length) = false := decide_eq_false t1
        by_cases t2 : lb.length < la.length
        · have hd2 : decide (lb.length < la.length) = true := decide_eq_true t2
          have q2 : ¬ k < lb.length := by omega
          have q3 : k < la.length := by omega
          go_wp2
          go_ret
          exact ⟨by rw [HV2.out, if_neg t1, if_pos t2]; rfl, HWR.out⟩
        · have hd2 : decide (lb.length < la.length) = false := decide_eq_false t2
          have q2 : ¬ k < la.length := by omega
          go_wp2
          go_ret
          exact ⟨by rw [HV2.out, if_neg t1, if_neg t2]; rfl, HWR.out⟩
    obtain ⟨q1, q2⟩ := q1
    obtain ⟨x, hx⟩ : ∃ x, la[k]? = some x := ⟨_, List.getElem?_eq_getElem q1⟩
    obtain ⟨y, hy⟩ : ∃ y, lb[k]? = some y := ⟨_, List.getElem?_eq_getElem q2⟩
    have hbw : Below w.heap.size w wr := HWR.out
    obtain ⟨-, -, -, b1, o1, rfl, -, -, hax⟩ := (HA.out.below hbw).at (by omega)
    obtain ⟨-, -, -, b2, o2, rfl, -, -, hbx⟩ := (HB.out.below hbw).at (by omega)
    rw [← HLA.out] at hax
    rw [← HLB.out] at hbx
    obtain ⟨sx, hsx, x0, x1, x2, x3⟩ := hax k x hx
    obtain ⟨sy, hsy, y0, y1, y2, y3⟩ := hbx k y hy
    have hlt : SizeOf.sizeOf x < SizeOf.sizeOf a := HSA.out k x (by rw [← HLA.out]; exact hx)
    have hN := HN.out
    have hcall := fun (p : BelowW wr) => HIH.out x y sx sy p.w (by omega) (hsx.below p.h) (hsy.below p.h)
    have hv := HV.out
    rw [cmpL_step hx hy] at hv
    have HV2 := Lib.hid hv
    unfold pvA at hcall
    generalize compareC x y = c at *
    have HCALL := Lib.hid hcall
    clear hcall hv hsx hsy hlt hN hax hbx hx hy HA HB HIH HV hy1 hy2 hbw HSA HLA HLB HN
    have u3 := BelowW.cell c3
    have v3 := BelowW.cell d3
    have e0 := BelowW.cell x0
    have e1 := BelowW.cell x1
    have e2 := BelowW.cell x2
    have e3 := BelowW.cell x3
    have r0 := BelowW.cell y0
    have r1 := BelowW.cell y1
    have r2 := BelowW.cell y2
    have r3 := BelowW.cell y3
    have hkl : (0 : Int) ≤ (k : Int) := by omega
    have hki : (k : Int) < (la.length : Int) := by omega
    have hkj : (k : Int) < (lb.length : Int) := by omega
    go_wp2
    refine wp_region_below (by kernel_rfl) (by kernel_rfl) ?_
    repeat (quiet_step ((go_at_call 19; with_reducible exact Calls.below_of (HCALL.out _))))
    refine wpQuiet_nil ?_
    rintro _ ⟨⟨w4, hb4⟩, rfl⟩
    have HW4 := Lib.hid (HWR.out.trans (hb4.mono HWR.out.size))
    have HW5 := Lib.hid (HW1.out.trans (hb4.mono HW1.out.size))
    clear u3 v3 e0 e1 e2 e3 r0 r1 r2 r3 x0 x1 x2 x3 y0 y1 y2 y3 c0 c1 c2 c3 d0 d1 d2 d3 hb4
    by_cases hc : c = 0
    · subst hc
      go_wp2
      go_roundw
      case rel => exact ⟨k + 1, by go_num, by omega, by omega, HW4, HW5, by rw [HV2.out]; rfl⟩
      case measure => simp [intOf]; omega
    · have hc1 : (c == 0) = false := by rw [beq_eq_false_iff_ne]; exact hc
      have hc2 : (c != 0) = true := by simp [bne, hc1]
      go_wp2
      go_ret
      exact ⟨by rw [HV2.out, if_pos hc]; rfl, HW4.out⟩

theorem compare_two {a b : PV} {sa sb : Value} {w : World} {F G : Nat → Prop} (ha : IsV w F a sa) (hb : IsV w G b sb) :
    Calls Tryz.prog 19 #[pvA a sa, pvA b sb] w fun e w' => e = .returned (.int .i64 (compareC a b)) ∧ Below w.heap.size w w' :=
  compare_any _ a b sa sb w (Nat.le_refl _) ha.any hb.any
set_option maxHeartbeats 2000000 in
theorem same_any {a b : PV} {sa sb : Value} {w : World} {F G : Nat → Prop} (ha : IsV w F a sa) (hb : IsV w G b sb) :
    Calls Tryz.prog 9 #[pvA a sa, pvA b sb] w fun e w' => e = .returned (.bool (compareC a b == 0)) ∧ Below w.heap.size w w' := by
  have HB0 := Lib.hid (belowA2 w (.cells #[.int .i64 a.kind, .int .i64 a.n, .string (mkB a.s), sa] 26) (.cells #[.int .i64 b.kind, .int .i64 b.n, .string (mkB b.s), sb] 26))
  have hc := compare_two (ha.below HB0.out) (hb.below HB0.out)
  unfold pvA at *
  have HC := Lib.hid hc
  clear hc ha hb
  generalize compareC a b = c at *
  generalize a.kind = a0 at *
  generalize a.n = a1 at *
  generalize mkB a.s = a2 at *
  generalize b.kind = b0 at *
  generalize b.n = b1 at *
  generalize mkB b.s = b2 at *
  go_enter Tryz.func9, Tryz.ntmps9
  go_wp2_with (go_at_call 19; refine HC.out.mono ?_; rintro e w' ⟨rfl, hb⟩)
  go_ret
  exact ⟨rfl, HB0.out.trans (hb.mono HB0.out.size)⟩
end Go.Proofs.YtnkodejgiabamaaGreat
/-
  What layer 12 keeps open, in memory.
-/
namespace Go.Proofs.YtnkodejgiabamaaGreat
open Go.RowKit

def ptrs (gs : List Nat) : List Value := gs.reverse.map fun g => .pointer (some ⟨g, 0, none⟩)
/-- The levels that are open (the last one ahead), in blocks gs; G: blocks that are not theirs. -/
def Lvs (w : World) (B : Nat) (F : Nat → Prop) : (Nat → Prop) → List Lv → List Nat → Prop
  | _, [], gs => gs = []
  | G, v :: st, gs => ∃ g t sl cs, gs = g :: t ∧ B ≤ g ∧ ¬ G g ∧ w.heap[g]? = some (.cells #[.bool v.dict, sl] 67 (0, 0)) ∧ w.ownsRow B 26 4 sl v.l.length cs ∧ IsVs w F v.l cs ∧
      (∀ b, sl.ownBlock = some b → ¬ F b ∧ ¬ G b) ∧ Lvs w B F (fun b => G b ∨ b = g ∨ sl.ownBlock = some b) st t

theorem owns_heap {w w' : World} {base e sz : Nat} {v : Value} {n : Nat} {xs : List Value} (h : w.ownsRow base e sz v n xs) (hk : ∀ b, v.ownBlock = some b → w'.heap[b]? = w.heap[b]?) : w'.ownsRow base e sz v n xs := by
  obtain ⟨h1, h2⟩ := h
  refine ⟨h1, ?_⟩
  rcases h2 with h2 | ⟨g, cap, cur, hv, hg, hh, r⟩
  · exact .inl h2
  · exact .inr ⟨g, cap, cur, hv, hg, by rw [hk g (by rw [hv]; rfl)]; exact hh, r⟩
theorem owns_type {w : World} {base e sz : Nat} {v : Value} {n : Nat} {xs : List Value} (h : w.ownsRow base e sz v n xs) {b : Nat} (hb : v.ownBlock = some b) : ∃ cs, w.heap[b]? = some (.cells cs e (0, 0)) := by
  rcases h.2 with ⟨rfl, _⟩ | ⟨g, cap, cur, rfl, hg, hh, r⟩
  · cases hb
  · cases hb; exact ⟨cur, hh⟩
theorem owns_slice {w : World} {base e sz : Nat} {v : Value} {n : Nat} {xs : List Value} (h : w.ownsRow base e sz v n xs) : ∃ a cap, v = .slice a n cap ∧ n ≤ cap ∧ cap ≤ maxLen := by
  obtain ⟨a, cap, rfl, hr, _⟩ := Row.of_owns h
  exact ⟨a, cap, rfl, hr.2.1, hr.2.2.1⟩
theorem lt_of_heap {w : World} {b : Nat} {o : Obj} (h : w.heap[b]? = some o) : b < w.heap.size := (Array.getElem?_eq_some_iff.1 h).1
theorem type_ne {w : World} {b c : Nat} {x y : Array Value} {t u : TypeId} {f1 f2 : Nat × Nat} (hb : w.heap[b]? = some (.cells x t f1)) (hc : w.heap[c]? = some (.cells y u f2)) (h : t ≠ u) : b ≠ c := by
  rintro rfl
  rw [hb] at hc
  injection hc with hc
  injection hc with _ h2 _
  exact h h2

/-- A block of a level, or of values. -/
def IsLV (w : World) (b : Nat) : Prop := (∃ cs, w.heap[b]? = some (.cells cs 67 (0, 0))) ∨ ∃ cs, w.heap[b]? = some (.cells cs 26 (0, 0))
theorem Lvs.keep' {w w' : World} {B : Nat} {F F' : Nat → Prop} (hF : Stays F w w') (hFF : ∀ b, F b → F' b) : ∀ {st : List Lv} {G G' : Nat → Prop} {gs : List Nat}, Lvs w B F G st gs →
    (∀ b, b < w.heap.size → ¬ G b → IsLV w b → w'.heap[b]? = w.heap[b]?) → (∀ b, F' b → F b ∨ G b ∨ w.heap.size ≤ b) → (∀ b, G' b → G b ∨ w.heap.size ≤ b) → Lvs w' B F' G' st gs
  | [], _, _, _, h, _, _, _ => h
  | v :: st, G, G', _, ⟨g, t, sl, cs, h1, h2, h3, h4, h5, h6, h7, h8⟩, hg, hF', hG' => by
    have hgl := lt_of_heap h4
    have hbl : ∀ b, sl.ownBlock = some b → b < w.heap.size := fun b hb => (h5.lt b hb).2
    refine ⟨g, t, sl, cs, h1, h2, fun h => ?_, ?_, owns_heap h5 fun b hb => hg b (hbl b hb) (h7 b hb).2 (.inr (owns_type h5 hb)), IsVs.keep hF hFF _ h6, fun b hb => ⟨fun h => ?_, fun h => ?_⟩, ?_⟩
    · rcases hG' g h with h | h
      · exact h3 h
      · omega
    · rw [hg g hgl h3 (.inl ⟨_, h4⟩)]; exact h4
    · rcases hF' b h with h | h | h
      · exact (h7 b hb).1 h
      · exact (h7 b hb).2 h
      · have := hbl b hb; omega
    · rcases hG' b h with h | h
      · exact (h7 b hb).2 h
      · have := hbl b hb; omega
    · refine Lvs.keep' hF hFF h8 (fun b hb hn => hg b hb fun h => hn (.inl h)) (fun b h => ?_) (fun b h => ?_)
      · rcases hF' b h with h | h | h
        · exact .inl h
        · exact .inr (.inl (.inl h))
        · exact .inr (.inr h)
      · rcases h with h | h | h
        · rcases hG' b h with h | h
          · exact .inl (.inl h)
          · exact .inr h
        · exact .inl (.inr (.inl h))
        · exact .inl (.inr (.inr h))
theorem Lvs.keep {w w' : World} {B : Nat} {F F' : Nat → Prop} (hF : Stays F w w') (hFF : ∀ b, F b → F' b) {st : List Lv} {G G' : Nat → Prop} {gs : List Nat} (h : Lvs w B F G st gs)
    (hg : ∀ b, b < w.heap.size → ¬ G b → w'.heap[b]? = w.heap[b]?) (hF' : ∀ b, F' b → F b ∨ G b ∨ w.heap.size ≤ b) (hG' : ∀ b, G' b → G b ∨ w.heap.size ≤ b) : Lvs w' B F' G' st gs :=
  h.keep' hF hFF (fun b h1 h2 _ => hg b h1 h2) hF' hG'
theorem Lvs.len {w : World} {B : Nat} {F : Nat → Prop} : ∀ {st : List Lv} {G : Nat → Prop} {gs : List Nat}, Lvs w B F G st gs → gs.length = st.length
  | [], _, _, h => by cases h; rfl
  | _ :: _, _, _, ⟨_, _, _, _, h1, _, _, _, _, _, _, h8⟩ => by subst h1; simp [h8.len]

/-- The stack at block p: bytes, a place, and what is open; from w0 on. F: blocks of values that are whole; G: blocks that are others'. -/
structure IsStk (w0 w : World) (F G : Nat → Prop) (p : Nat) (a : Option Addr) (cap : Nat) (bs : List UInt8) (last : Bool) (st : List Lv) (at_ : Int) (gs : List Nat) (osl : Value) : Prop where
  blk : w.heap[p]? = some (.cells #[.slice a bs.length cap, .int .i64 at_, .bool last, osl] 60 (0, 0))
  base : w0.heap.size ≤ p
  gp : ¬ G p
  own : w.ownsRow w0.heap.size 64 1 osl st.length (ptrs gs)
  go : ∀ b, osl.ownBlock = some b → ¬ G b
  lvs : Lvs w w0.heap.size F G st gs
  fb : ∀ b, F b → w0.heap.size ≤ b ∧ ¬ G b ∧ ∃ cs, w.heap[b]? = some (.cells cs 26 (0, 0))
  gb : ∀ b, G b → w0.heap.size ≤ b ∧ b < w.heap.size
  bel : Below w0.heap.size w0 w
  row : Row w0 1 a bs.length cap (bs.map u8C)
  small : bs.length ≤ 100000
  deep : st.length ≤ 64

section
variable {w0 w w' : World} {F F' G G' : Nat → Prop} {p : Nat} {a : Option Addr} {cap : Nat} {bs : List UInt8} {last : Bool} {st : List Lv} {at_ : Int} {gs : List Nat} {osl : Value}
theorem IsStk.lt (h : IsStk w0 w F G p a cap bs last st at_ gs osl) : p < w.heap.size := lt_of_heap h.blk
/-- What the others do; values that are whole are more. -/
theorem IsStk.frame' (h : IsStk w0 w F G p a cap bs last st at_ gs osl) (hk : Keeps G w w') (hG' : ∀ b, G' b → G b ∨ (w.heap.size ≤ b ∧ b < w'.heap.size)) (hFF : ∀ b, F b → F' b) (hF' : ∀ b, F' b → F b ∨ (w.heap.size ≤ b ∧ ¬ G' b ∧ ∃ cs, w'.heap[b]? = some (.cells cs 26 (0, 0)))) :
    IsStk w0 w' F' G' p a cap bs last st at_ gs osl := by
  have hsz := h.bel.size
  have hp := h.lt
  have hFl : ∀ b, F b → b < w.heap.size := fun b hb => by obtain ⟨_, _, cs, hc⟩ := h.fb b hb; exact lt_of_heap hc
  have hol : ∀ b, osl.ownBlock = some b → b < w.heap.size := fun b hb => (h.own.lt b hb).2
  refine ⟨by rw [hk.block p hp h.gp]; exact h.blk, h.base, fun h1 => ?_, owns_heap h.own fun b hb => hk.block b (hol b hb) (h.go b hb), fun b hb h1 => ?_, ?_, fun b hb => ?_, fun b hb => ?_, ?_, h.row, h.small, h.deep⟩
  · rcases hG' p h1 with h1 | h1
    · exact h.gp h1
    · omega
  · rcases hG' b h1 with h1 | h1
    · exact h.go b hb h1
    · have := hol b hb; omega
  · refine h.lvs.keep ⟨hk.size, fun b hb hf => hk.block b hb (h.fb b hf).2.1⟩ hFF (fun b hb hn => hk.block b hb hn) (fun b hb => ?_) (fun b hb => ?_)
    · rcases hF' b hb with h1 | h1
      · exact .inl h1
      · exact .inr (.inr h1.1)
    · exact (hG' b hb).imp id fun h => h.1
  · rcases hF' b hb with h1 | ⟨h1, h2, h3⟩
    · obtain ⟨h2, h3, cs, h4⟩ := h.fb b h1
      refine ⟨h2, fun h5 => ?_, cs, by rw [hk.block b (hFl b h1) h3]; exact h4⟩
      rcases hG' b h5 with h5 | h5
      · exact h3 h5
      · have := hFl b h1; omega
    · exact ⟨by omega, h2, h3⟩
  · have := hk.size
    rcases hG' b hb with h1 | h1
    · have := h.gb b h1; omega
    · omega
  · exact h.bel.trans ⟨hk.os, hk.tape, hk.output, hk.size, fun b hb => hk.block b (by omega) (fun h1 => by have := h.gb b h1; omega)⟩
theorem IsStk.frame (h : IsStk w0 w F G p a cap bs last st at_ gs osl) (hk : Keeps G w w') (hG' : ∀ b, G' b → G b ∨ (w.heap.size ≤ b ∧ b < w'.heap.size)) : IsStk w0 w' F G' p a cap bs last st at_ gs osl :=
  h.frame' hk hG' (fun _ h => h) (fun _ h => .inl h)
theorem IsStk.mono (h : IsStk w0 w F G p a cap bs last st at_ gs osl) (hb : Below w.heap.size w w') : IsStk w0 w' F G p a cap bs last st at_ gs osl :=
  h.frame ⟨hb.os, hb.tape, hb.output, hb.size, fun b h1 _ => hb.block b h1⟩ (fun _ h => .inl h)
theorem IsStk.cells (h : IsStk w0 w F G p a cap bs last st at_ gs osl) : (w.cell? ⟨p, 0, none⟩ = some (.slice a bs.length cap) ∧ w.cell? ⟨p, 1, none⟩ = some (.int .i64 at_) ∧ w.cell? ⟨p, 2, none⟩ = some (.bool last) ∧ w.cell? ⟨p, 3, none⟩ = some osl) ∧
    (w.frozen? ⟨p, 0, none⟩ = false ∧ w.frozen? ⟨p, 1, none⟩ = false ∧ w.frozen? ⟨p, 2, none⟩ = false ∧ w.frozen? ⟨p, 3, none⟩ = false) := cells4 h.blk
theorem IsStk.notF (h : IsStk w0 w F G p a cap bs last st at_ gs osl) {b : Nat} (hb : F b) : b ≠ p := by obtain ⟨_, _, cs, hc⟩ := h.fb b hb; exact type_ne hc h.blk (by decide)
/-- The stack's own block turns in its place alone. -/
theorem IsStk.setAt (h : IsStk w0 w F G p a cap bs last st at_ gs osl) (at2 : Int) : IsStk w0 (w.setCell ⟨p, 1, none⟩ (.int .i64 at2)) F G p a cap bs last st at2 gs osl := by
  have hk : ∀ b, b ≠ p → (w.setCell ⟨p, 1, none⟩ (.int .i64 at2)).heap[b]? = w.heap[b]? := fun b hb => heap_setCell_other _ _ _ _ hb
  have hs : (w.setCell ⟨p, 1, none⟩ (.int .i64 at2)).heap.size = w.heap.size := by simp [World.setCell]
  have hl : ∀ {st : List Lv} {G : Nat → Prop} {gs : List Nat}, Lvs w w0.heap.size F G st gs → Lvs (w.setCell ⟨p, 1, none⟩ (.int .i64 at2)) w0.heap.size F G st gs := by
    intro st
    induction st with
    | nil => exact fun h => h
    | cons v st ih =>
      rintro G gs ⟨g, t, sl, cs, h1, h2, h3, h4, h5, h6, h7, h8⟩
      exact ⟨g, t, sl, cs, h1, h2, h3, by rw [hk g (type_ne h4 h.blk (by decide))]; exact h4, owns_heap h5 fun b hb => hk b (by obtain ⟨cs, hc⟩ := owns_type h5 hb; exact type_ne hc h.blk (by decide)),
        IsVs.keep ⟨by omega, fun b _ hb => hk b (h.notF hb)⟩ (fun _ h => h) _ h6, h7, ih h8⟩
  exact ⟨heap_setCell_same w p 1 _ _ _ h.blk, h.base, h.gp, owns_heap h.own fun b hb => hk b (by obtain ⟨cs, hc⟩ := owns_type h.own hb; exact type_ne hc h.blk (by decide)), h.go, hl h.lvs, fun b hb => by
    obtain ⟨h1, h2, cs, h3⟩ := h.fb b hb
    exact ⟨h1, h2, cs, by rw [hk b (h.notF hb)]; exact h3⟩, fun b hb => by rw [hs]; exact h.gb b hb, h.bel.trans ((Below.refl _ _).setCell h.base _), h.row, h.small, h.deep⟩
theorem IsStk.drewN (h : IsStk w0 w F G p a cap bs last st at_ gs osl) (q : Nat) : IsStk w0 (w.drewN q) F G p a cap bs last st at_ gs osl := h.mono (below_drewN (Below.refl _ _) q)
theorem IsStk.alloc (h : IsStk w0 w F G p a cap bs last st at_ gs osl) (o : Obj) : IsStk w0 (w.alloc o) F G p a cap bs last st at_ gs osl := h.mono (belowA w o)
theorem IsStk.bytes (h : IsStk w0 w F G p a cap bs last st at_ gs osl) : Row w 1 a bs.length cap (bs.map u8C) := h.row.mono h.bel
/-- Blocks that are new are others', too. -/
theorem IsStk.res (h : IsStk w0 w F G p a cap bs last st at_ gs osl) (hb : Below w.heap.size w w') (hG' : ∀ b, G' b → G b ∨ (w.heap.size ≤ b ∧ b < w'.heap.size)) : IsStk w0 w' F G' p a cap bs last st at_ gs osl :=
  h.frame ⟨hb.os, hb.tape, hb.output, hb.size, fun b h1 _ => hb.block b h1⟩ hG'
/-- One of the others' blocks turns. -/
theorem IsStk.set (h : IsStk w0 w F G p a cap bs last st at_ gs osl) {r : Nat} (hr : G r) (i : Nat) (v : Value) : IsStk w0 (w.setCell ⟨r, i, none⟩ v) F G p a cap bs last st at_ gs osl :=
  h.frame ((Keeps.refl G w).setCell (a := ⟨r, i, none⟩) (.inl hr) v) (fun _ h => .inl h)
theorem IsStk.set8 (h : IsStk w0 w F G p a cap bs last st at_ gs osl) {r : Nat} (hr : G r) (y0 y1 y2 y3 y4 y5 y6 y7 : Value) :
    IsStk w0 ((((((((w.setCell ⟨r, 0, none⟩ y0).setCell ⟨r, 1, none⟩ y1).setCell ⟨r, 2, none⟩ y2).setCell ⟨r, 3, none⟩ y3).setCell ⟨r, 4, none⟩ y4).setCell ⟨r, 5, none⟩ y5).setCell ⟨r, 6, none⟩ y6).setCell ⟨r, 7, none⟩ y7) F G p a cap bs last st at_ gs osl :=
  (((((((h.set hr _ _).set hr _ _).set hr _ _).set hr _ _).set hr _ _).set hr _ _).set hr _ _).set hr _ _
theorem IsStk.set4 (h : IsStk w0 w F G p a cap bs last st at_ gs osl) {r : Nat} (hr : G r) (y0 y1 y2 y3 : Value) :
    IsStk w0 ((((w.setCell ⟨r, 0, none⟩ y0).setCell ⟨r, 1, none⟩ y1).setCell ⟨r, 2, none⟩ y2).setCell ⟨r, 3, none⟩ y3) F G p a cap bs last st at_ gs osl :=
  (((h.set hr _ _).set hr _ _).set hr _ _).set hr _ _
theorem IsStk.give (h : IsStk w0 w F G p a cap bs last st at_ gs osl) (hG : ∀ b, G' b → G b) : IsStk w0 w F G' p a cap bs last st at_ gs osl := h.frame (Keeps.refl G w) fun b hb => .inl (hG b hb)
end
theorem keeps_below {w w' : World} {S : Nat → Prop} (h : Below w.heap.size w w') : Keeps S w w' := ⟨h.os, h.tape, h.output, h.size, fun b hb _ => h.block b hb⟩

section
variable {w0 w w' : World} {F G : Nat → Prop} {p : Nat} {a : Option Addr} {cap : Nat} {bs : List UInt8} {last : Bool} {st : List Lv} {at_ : Int}
/-- The stack, whatever lies where. -/
def Stk (w0 w : World) (F G : Nat → Prop) (p : Nat) (a : Option Addr) (cap : Nat) (bs : List UInt8) (last : Bool) (st : List Lv) (at_ : Int) : Prop := ∃ gs osl, IsStk w0 w F G p a cap bs last st at_ gs osl
/-- What a step leaves: the others' blocks as they were, and the values that are whole. -/
structure Nxt (w0 w : World) (F G : Nat → Prop) (p : Nat) (a : Option Addr) (cap : Nat) (bs : List UInt8) (last : Bool) (st : List Lv) (at_ : Int) (F' : Nat → Prop) (w' : World) : Prop where
  stk : Stk w0 w' F' G p a cap bs last st at_
  sg : Stays G w w'
  sf : Stays F w w'
  ff : ∀ b, F b → F' b
end
end Go.Proofs.YtnkodejgiabamaaGreat
/-
  Walks of layer 12: what was opened last; the next token.
-/
namespace Go.Proofs.YtnkodejgiabamaaGreat
open Go.RowKit

section
variable {w w' : World} {p q u o0 o1 o2 r : Nat} {x0 x1 x2 : Value}
/-- Three cells that are read. -/
def S3 (w : World) (p o0 : Nat) (x0 : Value) (q o1 : Nat) (x1 : Value) (u o2 : Nat) (x2 : Value) : Prop := w.cell? ⟨p, o0, none⟩ = some x0 ∧ w.cell? ⟨q, o1, none⟩ = some x1 ∧ w.cell? ⟨u, o2, none⟩ = some x2
theorem S3.below (h : S3 w p o0 x0 q o1 x1 u o2 x2) (hb : Below w.heap.size w w') : S3 w' p o0 x0 q o1 x1 u o2 x2 := ⟨cell?_keep hb h.1, cell?_keep hb h.2.1, cell?_keep hb h.2.2⟩
theorem S3.alloc (h : S3 w p o0 x0 q o1 x1 u o2 x2) (o : Obj) : S3 (w.alloc o) p o0 x0 q o1 x1 u o2 x2 := h.below (belowA w o)
theorem S3.drew (h : S3 w p o0 x0 q o1 x1 u o2 x2) : S3 w.drew p o0 x0 q o1 x1 u o2 x2 := h
theorem S3.set8 (h : S3 w p o0 x0 q o1 x1 u o2 x2) (hp : p ≠ r) (hq : q ≠ r) (hu : u ≠ r) (y0 y1 y2 y3 y4 y5 y6 y7 : Value) :
    S3 ((((((((w.setCell ⟨r, 0, none⟩ y0).setCell ⟨r, 1, none⟩ y1).setCell ⟨r, 2, none⟩ y2).setCell ⟨r, 3, none⟩ y3).setCell ⟨r, 4, none⟩ y4).setCell ⟨r, 5, none⟩ y5).setCell ⟨r, 6, none⟩ y6).setCell ⟨r, 7, none⟩ y7) p o0 x0 q o1 x1 u o2 x2 :=
  ⟨(set8_cell hp _ _ _ _ _ _ _ _ _).trans h.1, (set8_cell hq _ _ _ _ _ _ _ _ _).trans h.2.1, (set8_cell hu _ _ _ _ _ _ _ _ _).trans h.2.2⟩
end

/-- A token in a new block. -/
structure TkM (w W : World) (r : Nat) (cs : Array Value) : Prop where
  bel : Below w.heap.size w W
  blk : W.heap[r]? = some (.cells cs 45 (0, 0))
  new : w.heap.size ≤ r

section
variable {w0 w w' : World} {F F' G : Nat → Prop} {p : Nat} {a : Option Addr} {cap : Nat} {bs : List UInt8} {last : Bool} {st : List Lv} {at_ : Int} {gs : List Nat} {osl : Value}

set_option maxRecDepth 8000 in
set_option maxHeartbeats 4000000 in
theorem pnext_any (h : IsStk w0 w F G p a cap bs last st at_ gs osl) : Calls Tryz.prog 21 #[.pointer (some ⟨p, 0, none⟩)] w fun e w' =>
    e = .returned (.tuple #[.agg (tokN (nextV bs at_ last).1 (nextV bs at_ last).2.1 (nextV bs at_ last).2.2.1), .int .i64 (nextV bs at_ last).2.2.2]) ∧
    IsStk w0 w' F G p a cap bs last st (if (nextV bs at_ last).2.2.2 = 0 then (nextV bs at_ last).2.2.1 else at_) gs osl ∧ Keeps (fun b => b = p) w w' := by
  have HN := Lib.hid (fun (W : World) (hb : Below w.heap.size w W) => next_any (h.bytes.mono hb) h.small at_ last)
  generalize nextV bs at_ last = V at *
  unfold NextEnd tokN at HN
  obtain ⟨x, f, t, er⟩ := V
  simp only at HN ⊢
  unfold tokN
  generalize x.kind = a0 at *
  generalize x.vk = a1 at *
  generalize x.vn = a2 at *
  generalize mkB x.vs = s1 at *
  generalize mkB x.s = s2 at *
  have HS := Lib.hid h
  have hpw := h.lt
  clear h
  go_enter Tryz.func21, Tryz.ntmps21
  go_wp2
  have HB1 := Lib.hid (belowA w (.cells #[.int .i64 0, .int .i64 0, .int .i64 0, .int .i64 0, .int .i64 0, .string ⟨#[]⟩, .slice none 0 0, .string ⟨#[]⟩] 45))
  have HS1 := Lib.hid (HS.out.mono HB1.out)
  have HR1 := Lib.hid (heapA_new (w := w) (b := w.heap.size) (.cells #[.int .i64 0, .int .i64 0, .int .i64 0, .int .i64 0, .int .i64 0, .string ⟨#[]⟩, .slice none 0 0, .string ⟨#[]⟩] 45) rfl)
  generalize w.alloc _ = W1 at *
  obtain ⟨r, hr⟩ : ∃ r, r = w.heap.size := ⟨_, rfl⟩
  have hpr0 : p ≠ r := by omega
  rw [← hr] at HR1 ⊢
  have HRR := Lib.hid hr
  clear hr hpw
  obtain ⟨⟨c0, c1, c2, c3⟩, f0, f1, f2, f3⟩ := HS1.out.cells
  have HA1 := Lib.hid (fun o : Obj => (belowA W1 o).drew)
  have HA2 := Lib.hid (fun o : Obj => HB1.out.trans ((HA1.out o).mono (show w.heap.size ≤ W1.heap.size from HB1.out.size)))
  have HC0 : Hid (S3 W1 p 0 (.slice a bs.length cap) p 1 (.int .i64 at_) p 2 (.bool last)) := Lib.hid ⟨c0, c1, c2⟩
  have hpr : p ≠ W1.heap.size := Nat.ne_of_lt HS1.out.lt
  have HR1L := Lib.hid (show r < W1.heap.size from lt_of_heap HR1.out)
  go_region_held3 (fun w' => w'.cell? ⟨p, 0, none⟩ = some (.slice a bs.length cap) ∧ w'.cell? ⟨p, 1, none⟩ = some (.int .i64 at_) ∧ w'.cell? ⟨p, 2, none⟩ = some (.bool last))
    ((show S3 _ p 0 (.slice a bs.length cap) p 1 (.int .i64 at_) p 2 (.bool last); (first
      | (with_reducible exact HC0.out.drew)
      | (with_reducible exact HC0.out)
      | (with_reducible exact (HC0.out.alloc _).drew)
      | (with_reducible exact Hid.out (by assumption))
      | (with_reducible exact S3.alloc (Hid.out (by assumption)) _)
      | (with_reducible exact S3.set8 (Hid.out (by assumption)) hpr hpr hpr _ _ _ _ _ _ _ _))))
    ((go_at_call 13; first
      | ((with_reducible refine (HN.out _ HB1.out.drew).mono ?_); rintro e wN ⟨rfl, hbN⟩; have hbM : Below W1.heap.size W1 wN := (Below.refl _ _).drew.trans hbN; have HSN := Lib.hid (HC0.out.below hbM))
      | ((with_reducible refine (HN.out _ (HA2.out _)).mono ?_); rintro e wN ⟨rfl, hbN⟩; have hbM : Below W1.heap.size W1 wN := (HA1.out _).trans (hbN.mono (HA1.out _).size); have HSN := Lib.hid (HC0.out.below hbM); have HZ := Lib.hid (block_keep hbN (heapA_new (w := W1) (b := W1.heap.size) (.cells #[.int .i64 0, .int .i64 0, .int .i64 0, .int .i64 0, .int .i64 0, .string ⟨#[]⟩, .slice none 0 0, .string ⟨#[]⟩] 45) rfl)); obtain ⟨⟨z0, z1, z2, z3, z4, z5, z6, z7⟩, y0, y1, y2, y3, y4, y5, y6, y7⟩ := cells8 HZ.out)))
  all_goals
    first
      | (obtain ⟨W2, hW2⟩ : ∃ W2, W2 = wN.alloc (.cells #[.int .i64 a0, .int .i64 f, .int .i64 t, .int .i64 a1, .int .i64 a2, .string s1, .slice none 0 0, .string s2] 45) := ⟨_, rfl⟩
         rw [← hW2]
         have HT := Lib.hid (show TkM W1 W2 wN.heap.size #[.int .i64 a0, .int .i64 f, .int .i64 t, .int .i64 a1, .int .i64 a2, .string s1, .slice none 0 0, .string s2] from ⟨by rw [hW2]; exact hbM.alloc hbM.size _, by rw [hW2]; exact heapA_new _ rfl, hbM.size⟩)
         obtain ⟨r2, hr2⟩ : ∃ r2, r2 = wN.heap.size := ⟨_, rfl⟩
         rw [← hr2] at HT ⊢)
      | (obtain ⟨W2, hW2⟩ : ∃ W2, W2 = ((((((((wN.setCell ⟨W1.heap.size, 0, none⟩ (.int .i64 a0)).setCell ⟨W1.heap.size, 1, none⟩ (.int .i64 f)).setCell ⟨W1.heap.size, 2, none⟩ (.int .i64 t)).setCell ⟨W1.heap.size, 3, none⟩ (.int .i64 a1)).setCell ⟨W1.heap.size, 4, none⟩ (.int .i64 a2)).setCell ⟨W1.heap.size, 5, none⟩ (.string s1)).setCell ⟨W1.heap.size, 6, none⟩ (.slice none 0 0)).setCell ⟨W1.heap.size, 7, none⟩ (.string s2)) := ⟨_, rfl⟩
         rw [← hW2]
         have HT := Lib.hid (show TkM W1 W2 W1.heap.size #[.int .i64 a0, .int .i64 f, .int .i64 t, .int .i64 a1, .int .i64 a2, .string s1, .slice none 0 0, .string s2] from ⟨by rw [hW2]; exact below_set8 hbM (Nat.le_refl _) _ _ _ _ _ _ _ _, by rw [hW2]; exact set8 HZ.out _ _ _ _ _ _ _ _, Nat.le_refl _⟩)
         clear z0 z1 z2 z3 z4 z5 z6 z7 y0 y1 y2 y3 y4 y5 y6 y7 HZ
         obtain ⟨r2, hr2⟩ : ∃ r2, r2 = W1.heap.size := ⟨_, rfl⟩
         rw [← hr2] at HT ⊢)
    clear hW2 hr2 hbN hbM HSN
    have HS2 := Lib.hid (HS1.out.mono HT.out.bel)
    have HR2 := Lib.hid (block_keep HT.out.bel HR1.out)
    have hp2 : p ≠ r2 := by have := HT.out.new; have := HS1.out.lt; omega
    have hr22 : r ≠ r2 := by have := HT.out.new; have := HR1L.out; omega
    have HB2 := Lib.hid (HB1.out.trans (HT.out.bel.mono HB1.out.size))
    clear c0 c1 c2 c3 f0 f1 f2 f3 hpr
    obtain ⟨⟨c0, c1, c2, c3⟩, f0, f1, f2, f3⟩ := HS2.out.cells
    obtain ⟨⟨k0, k1, k2, k3, k4, k5, k6, k7⟩, m0, m1, m2, m3, m4, m5, m6, m7⟩ := cells8 HT.out.blk
    obtain ⟨⟨g0, g1, g2, g3, g4, g5, g6, g7⟩, l0, l1, l2, l3, l4, l5, l6, l7⟩ := cells8 HR2.out
    by_cases her : er = 0
    · subst her
      go_wp2
      refine bodyPost_ret (results_val rfl _ _ r 45 _ (0, 0) _ rfl (set8 ((heap_setCell_other _ _ _ _ (Ne.symm hpr0)).trans HR2.out) _ _ _ _ _ _ _ _) Tryz.underlying45 rfl infoTok _ rfl) rfl ?_
      refine ⟨rfl, ?_, ?_⟩
      · exact (((HS.out.res (G' := fun b => G b ∨ b = r) HB2.out (fun b hb => hb.imp id fun e => by rw [e]; exact ⟨Nat.le_of_eq HRR.out.symm, lt_of_heap HR2.out⟩)).setAt t).set8 (.inr rfl) _ _ _ _ _ _ _ _).give fun b hb => .inl hb
      · exact keeps_set8 (Keeps.setCell (S := fun b => b = p) (a := ⟨p, 1, none⟩) (keeps_below HB2.out) (.inl rfl) _) (Nat.le_of_eq HRR.out.symm) _ _ _ _ _ _ _ _
    · have e1 : (er == 0) = false := by rw [beq_eq_false_iff_ne]; exact her
      go_wp2
      refine bodyPost_ret (results_val rfl _ _ r 45 _ (0, 0) _ rfl (set8 HR2.out _ _ _ _ _ _ _ _) Tryz.underlying45 rfl infoTok _ rfl) rfl ?_
      refine ⟨rfl, ?_, ?_⟩
      · exact ((HS.out.res (G' := fun b => G b ∨ b = r) HB2.out (fun b hb => hb.imp id fun e => by rw [e]; exact ⟨Nat.le_of_eq HRR.out.symm, lt_of_heap HR2.out⟩)).set8 (.inr rfl) _ _ _ _ _ _ _ _).give fun b hb => .inl hb
      · exact keeps_set8 (keeps_below HB2.out) (Nat.le_of_eq HRR.out.symm) _ _ _ _ _ _ _ _

def topP : List Nat → Option Addr
  | [] => none
  | g :: _ => some ⟨g, 0, none⟩
set_option maxRecDepth 8000 in
set_option maxHeartbeats 2000000 in
theorem top_any (h : IsStk w0 w F G p a cap bs last st at_ gs osl) : Calls Tryz.prog 23 #[.pointer (some ⟨p, 0, none⟩)] w fun e w' => e = .returned (.pointer (topP gs)) ∧ ∃ q, w' = w.drewN q := by
  have hl := h.lvs.len
  have hd := h.deep
  obtain ⟨ao, oc, rfl, hro, -⟩ := Row.of_owns h.own
  obtain ⟨⟨c0, c1, c2, c3⟩, f0, f1, f2, f3⟩ := h.cells
  cases gs with
  | nil =>
    have h0 : st.length = 0 := by simpa using hl.symm
    rw [h0] at c3
    clear hl hro h h0 hd
    go_enter Tryz.func23, Tryz.ntmps23
    go_wp2
    go_ret
    exact ⟨rfl, 0, rfl⟩
  | cons g t =>
    have h0 : st.length = t.length + 1 := by simpa using hl.symm
    rw [h0] at hro c3 hd
    obtain ⟨b, off, rfl, hb, hc⟩ := hro.2.2.2.2 (by omega)
    have hcell := hc t.length (.pointer (some ⟨g, 0, none⟩)) (by simp [ptrs])
    have hce : decide (t.length + 1 = 0) = false := by simp
    have hci : ((t.length : Int) + 1 == 0) = false := by rw [beq_eq_false_iff_ne]; omega
    have h1 : (0 : Int) ≤ (t.length : Int) + 1 - 1 := by omega
    have h2 : ((t.length : Int) + 1 - 1).toNat = t.length := by omega
    have h3 : IntKind.i64.wrap ((t.length : Int) + 1 - 1) = (t.length : Int) := by rw [IntWalk.i64_in _ (by omega)]; omega
    have h4 : (t.length : Int) < (t.length : Int) + 1 := by omega
    have h5 : (0 : Int) ≤ (t.length : Int) := by omega
    have h6 : ((t.length : Int)).toNat = t.length := by omega
    clear hc hro hl h h0
    unfold topP
    generalize t.length = n at *
    go_enter Tryz.func23, Tryz.ntmps23
    go_wp2
    go_quiet (fail)
    go_wp2
    go_ret
    exact ⟨rfl, _, rfl⟩
end
end Go.Proofs.YtnkodejgiabamaaGreat
