/-
  Our texts App to Lex3, in one.
-/
import Derived.Test.YtnkodejgiabamaaGreatPkW3
import Derived.Test.YtnkodejgiabamaaGreatProg
import Derived.BigQuiet
import Derived.Deep.QuietTactic
import Derived.Laws.RangeAny
import Derived.IntWalk
import Derived.Lib.Bytealg
import Derived.Lib.Builder
import Derived.Lib.UnsafeStr
import Derived.Lib.ByteType
/-
  'append' on a slice of the call's own, told more sharply: where the new value lies.
-/
namespace Go.Proofs.YtnkodejgiabamaaGreat
open Go.RowKit

/-- Where the one lies if not where the other lay: in memory that is new. -/
def NewAt (w : World) (v v' : Value) : Prop := ∀ b, v'.ownBlock = some b → v.ownBlock = some b ∨ w.heap.size ≤ b

theorem run_append_at {P : Program} (w : World) (base : Nat) (t ty e : TypeId) (i : TypeInfo) (z : Value) (size bytes : Nat) (ht : P.underlying t = some (.slice e)) (hi : P.info? e = some i) (hz : i.zero = some z)
    (hsize : i.size = size) (hby : i.bytes = bytes) (hzs : z.cells.size = size) (hsz : 0 < size)
    (v : Value) (n : Nat) (xs : List Value) (hown : w.ownsRow base e size v n xs)
    (a : Addr) (m c : Nat) (news : List Value) (hl : news.length = m * size) (hnews : ∀ j u, news[j]? = some u → w.cell? (a.add j) = some u) (h1 : ∀ u ∈ news, u.oneCell' = true)
    (h63 : n + m ≤ maxLen) (hbytes : (n + m) * bytes ≤ 140737488355328) (hbase : base ≤ w.heap.size) :
    ∃ v' w', (Builtin.append_ #[t, t] ty #[v, .slice (some a) m c]).run P w = .ok v' w' ∧ w'.ownsRow base e size v' (n + m) (xs ++ news) ∧ w.grownBy w' v.ownBlock ∧
      (v' = .slice none 0 0 ↔ v = .slice none 0 0 ∧ m = 0) ∧ NewAt w v v' := by
  obtain ⟨v', w', hr, h2, h3, h4⟩ := run_append_own (P := P) w base t ty e i z size bytes ht hi hz hsize hby hzs hsz v n xs hown a m c news hl hnews h1 h63 hbytes hbase
  refine ⟨v', w', hr, h2, h3, h4, ?_⟩
  have hsmall : n + m ≤ 9223372036854775807 := by simp only [maxLen] at h63; omega
  rcases hown.2 with ⟨rfl, hx⟩ | ⟨g, cap, cur, rfl, hbg, hg, hnc, hcm, hcs, htake⟩
  · obtain ⟨v2, w2, hr2, g2, _, _⟩ := run_append_own (P := P) w w.heap.size t ty e i z size bytes ht hi hz hsize hby hzs hsz _ n xs ⟨hown.1, .inl ⟨rfl, hx⟩⟩ a m c news hl hnews h1 h63 hbytes (Nat.le_refl _)
    rw [hr] at hr2
    simp only [Result.ok.injEq] at hr2
    obtain ⟨rfl, rfl⟩ := hr2
    exact fun b hb => .inr (g2.lt b hb).1
  · subst hsize hby
    by_cases hroom : n + m ≤ cap
    · have hfit : n * i.size + news.length ≤ cur.size := by rw [hl, hcs, ← Nat.add_mul]; exact Nat.mul_le_mul_right _ hroom
      have hr2 := run_append_room (P := P) w t ty e i ht hi g n cap cur hg a m c news hl hnews h1 hroom hfit
      rw [hr] at hr2
      simp only [Result.ok.injEq] at hr2
      obtain ⟨rfl, rfl⟩ := hr2
      exact fun b hb => .inl hb
    · have hr2 := run_append_grow (P := P) w t ty e i z ht hi hz ⟨g, 0, none⟩ n cap xs hown.1 (hown.cells (g := g) rfl) a m c news hl hnews (by omega) (by omega) (growslice_fits (by omega) hbytes)
      rw [hr] at hr2
      simp only [Result.ok.injEq] at hr2
      obtain ⟨rfl, rfl⟩ := hr2
      intro b hb
      simp [Value.ownBlock] at hb
      right; omega

/-- 'append(v, x...)', v the call's own, x whatever slice that reads as a row; where the new value lies. -/
theorem append_at {P : Program} {w : World} {ops : Array Oper} {rest : List Oper} {o : Oper} {a : Act} {Q : Exit → Act → World → Prop} {t e : TypeId} {z : Value} {size bytes : Nat} (T : ElemT P t e z size bytes)
    (hgd : o.guard = none) (s x : Operand) (ho : o.op = .call { callee := .builtin .append, args := #[s, x], argTypes := #[t, t] })
    (base : Nat) (v : Value) (n : Nat) (xs : List Value) (hs : a.eval s = v) (hown : w.ownsRow base e size v n xs)
    (ao : Option Addr) (m c : Nat) (news : List Value) (hx : a.eval x = .slice ao m c) (hr : Row w size ao m c news) (h1 : ∀ u ∈ news, u.oneCell' = true)
    (h63 : n + m ≤ maxLen) (hbytes : (n + m) * bytes ≤ 140737488355328) (hbase : base ≤ w.heap.size)
    (h : ∀ v' w', w'.ownsRow base e size v' (n + m) (xs ++ news) → w.grownBy w' v.ownBlock → NewAt w v v' → wpList P ops Q rest (a.put o.dst v') w') : wpList P ops Q (o :: rest) a w := by
  obtain ⟨i, hi, hz, hs', hb⟩ := info_parts T.info
  subst hb
  obtain ⟨r1, r2, r3, r4, r5⟩ := hr
  cases ao with
  | some ad =>
    refine wpList_plain hgd fun K hK => ?_
    obtain ⟨v', w', hrun, g2, g3, _, g5⟩ := run_append_at (P := P) w base t o.type e i z size i.bytes T.und hi hz hs' rfl T.cells T.pos v n xs hown ad m c news r1 (fun j u hj => by
      by_cases hm : 0 < m
      · obtain ⟨b, off, hab, _, hc⟩ := r5 hm
        obtain rfl := Option.some.inj hab
        rw [Addr.add_lit]; exact hc j u hj
      · obtain rfl : m = 0 := by omega
        have : news = [] := List.eq_nil_of_length_eq_zero (by simpa using r1)
        subst this; simp at hj) h1 h63 hbytes hbase
    unfold Oper.wp
    simp [execOp, ho, resolve, invoke, builtin, hs, hx, hrun, Result.andThen]
    exact hK _ _ (h v' w' g2 g3 g5)
  | none =>
    obtain rfl := r4 rfl
    obtain rfl : m = 0 := by omega
    have : news = [] := List.eq_nil_of_length_eq_zero (by simpa using r1)
    subst this
    refine wpList_plain hgd fun K hK => ?_
    have hrun := run_append_owned_none (P := P) w base t o.type e i size T.und hi v n xs hown
    unfold Oper.wp
    simp [execOp, ho, resolve, invoke, builtin, hs, hx, hrun, Result.andThen]
    exact hK _ _ (h v w (by simpa using hown) ⟨rfl, rfl, rfl, Nat.le_refl _, fun _ _ _ => rfl⟩ (fun b hb => .inl hb))

/-- What stays: all blocks but those that S knows. -/
structure Keeps (S : Nat → Prop) (w w' : World) : Prop where
  os : w'.os = w.os
  tape : w'.tape = w.tape
  output : w'.output = w.output
  size : w.heap.size ≤ w'.heap.size
  block : ∀ b, b < w.heap.size → ¬ S b → w'.heap[b]? = w.heap[b]?

theorem Keeps.refl (S : Nat → Prop) (w : World) : Keeps S w w := ⟨rfl, rfl, rfl, Nat.le_refl _, fun _ _ _ => rfl⟩
theorem Keeps.trans {S S' : Nat → Prop} {a b c : World} (h : Keeps S a b) (k : Keeps S' b c) (hS : ∀ x, S' x → S x ∨ a.heap.size ≤ x) : Keeps S a c :=
  ⟨k.os.trans h.os, k.tape.trans h.tape, k.output.trans h.output, Nat.le_trans h.size k.size, fun x hx hn => (k.block x (Nat.lt_of_lt_of_le hx h.size) (fun e => (hS x e).elim hn (fun h => by omega))).trans (h.block x hx hn)⟩
theorem Keeps.of_grown {S : Nat → Prop} {w w' : World} {row : Option Nat} (h : w.grownBy w' row) (hr : ∀ k, row = some k → S k) : Keeps S w w' :=
  ⟨h.os, h.tape, h.output, h.size, fun b hb hn => h.block b hb (fun e => hn (hr b e.symm))⟩
theorem Keeps.of_below {S : Nat → Prop} {w w' : World} {B : Nat} (h : Below B w w') (hS : ∀ b, B ≤ b → S b) : Keeps S w w' :=
  ⟨h.os, h.tape, h.output, h.size, fun b _ hn => h.block b (Nat.lt_of_not_le fun e => hn (hS b e))⟩
theorem Keeps.below {S : Nat → Prop} {w w' : World} {B : Nat} (h : Keeps S w w') (hB : B ≤ w.heap.size) (hS : ∀ b, S b → B ≤ b) : Below B w w' :=
  ⟨h.os, h.tape, h.output, h.size, fun b hb => h.block b (by omega) (fun e => by have := hS b e; omega)⟩
theorem Keeps.cell {S : Nat → Prop} {w w' : World} (h : Keeps S w w') {b o : Nat} {v : Value} (hc : w.cell? ⟨b, o, none⟩ = some v) (hn : ¬ S b) : w'.cell? ⟨b, o, none⟩ = some v := by
  have hlt : b < w.heap.size := World.block_lt_of_cell? w _ hc
  rw [World.cell?_of_block (w := w) (a := ⟨b, o, none⟩) (h.block b hlt hn)]; exact hc
theorem Keeps.obj {S : Nat → Prop} {w w' : World} (h : Keeps S w w') {b : Nat} {o : Obj} (hc : w.heap[b]? = some o) (hn : ¬ S b) : w'.heap[b]? = some o := by
  rw [h.block b (Array.getElem?_eq_some_iff.1 hc).1 hn]; exact hc
theorem Row.keeps {S : Nat → Prop} {w w' : World} {sz : Nat} {a : Option Addr} {n cap : Nat} {xs : List Value} (h : Row w sz a n cap xs) (hk : Keeps S w w') (hne : ∀ x, a = some x → ¬ S x.block) : Row w' sz a n cap xs := by
  obtain ⟨h1, h2, h3, h4, h5⟩ := h
  refine ⟨h1, h2, h3, h4, fun hn => ?_⟩
  obtain ⟨b, off, ha, hlt, hc⟩ := h5 hn
  exact ⟨b, off, ha, Nat.lt_of_lt_of_le hlt hk.size, fun j u hj => hk.cell (hc j u hj) (hne _ ha)⟩
theorem owns_keeps {S : Nat → Prop} {w w' : World} {base e sz : Nat} {v : Value} {n : Nat} {xs : List Value} (h : w.ownsRow base e sz v n xs) (hk : Keeps S w w') (hne : ∀ b, v.ownBlock = some b → ¬ S b) : w'.ownsRow base e sz v n xs := by
  obtain ⟨h1, h2⟩ := h
  refine ⟨h1, ?_⟩
  rcases h2 with h2 | ⟨g, cap, cur, hv, hg, hh, r⟩
  · exact .inl h2
  · exact .inr ⟨g, cap, cur, hv, hg, hk.obj hh (hne g (by rw [hv]; rfl)), r⟩
theorem Keeps.weaken {S S' : Nat → Prop} {w w' : World} (h : Keeps S w w') (hS : ∀ b, S b → S' b) : Keeps S' w w' := ⟨h.os, h.tape, h.output, h.size, fun b hb hn => h.block b hb (fun e => hn (hS b e))⟩
theorem Keeps.drewN {S : Nat → Prop} {w w' : World} (h : Keeps S w w') (q : Nat) : Keeps S w (w'.drewN q) := ⟨h.os, h.tape, h.output, h.size, h.block⟩
theorem Keeps.alloc {S : Nat → Prop} {w w' : World} (h : Keeps S w w') (o : Obj) : Keeps S w (w'.alloc o) :=
  ⟨h.os, h.tape, h.output, by rw [sizeA]; have := h.size; omega, fun b hb hn => (Below.heap_alloc w' o b (Nat.lt_of_lt_of_le hb h.size)).trans (h.block b hb hn)⟩
theorem Keeps.setCell {S : Nat → Prop} {w w' : World} (h : Keeps S w w') {a : Addr} (ha : S a.block ∨ w.heap.size ≤ a.block) (v : Value) : Keeps S w (w'.setCell a v) :=
  ⟨h.os, h.tape, h.output, by simpa [World.setCell] using h.size, fun b hb hn => (heap_setCell_other w' a b v (fun e => by rcases ha with h1 | h1; exact hn (e ▸ h1); omega)).trans (h.block b hb hn)⟩
theorem Keeps.grown {S : Nat → Prop} {w w' w2 : World} {row : Option Nat} (h : Keeps S w w') (hg : w'.grownBy w2 row) (hr : ∀ k, row = some k → S k ∨ w.heap.size ≤ k) : Keeps S w w2 :=
  h.trans (Keeps.of_grown (S := fun k => row = some k) hg fun _ hk => hk) hr
end Go.Proofs.YtnkodejgiabamaaGreat
/-
  Walks of layer 9: digits' number; are all digits; may a number be.
-/
namespace Go.Proofs.YtnkodejgiabamaaGreat
open Go.RowKit

def digitI (r : Int) : Int := if r < 48 ∨ 57 < r then -1 else r - 48

theorem digit_any (r : Int) (w : World) (h0 : 0 ≤ r) (h1 : r ≤ 2147483647) :
    Calls Tryz.prog 92 #[.int .i32 r] w fun e w' => e = .returned (.int .i64 (digitI r)) ∧ w = w' := by
  obtain ⟨V, hV⟩ : ∃ V, V = digitI r := ⟨_, rfl⟩
  rw [← hV]
  unfold digitI at hV
  by_cases h2 : r < 48
  · rw [if_pos (.inl h2)] at hV
    have HV := Lib.hid hV
    clear hV
    go_enter Tryz.func92, Tryz.ntmps92
    go_wp2
    go_ret
    exact ⟨ret_int HV.out.symm, rfl⟩
  · have h2d : decide (r < 48) = false := by simpa using h2
    by_cases h3 : 57 < r
    · rw [if_pos (.inr h3)] at hV
      have HV := Lib.hid hV
      clear hV
      go_enter Tryz.func92, Tryz.ntmps92
      go_wp2
      go_ret
      exact ⟨ret_int HV.out.symm, rfl⟩
    · rw [if_neg (by omega)] at hV
      have HV := Lib.hid hV
      have h3d : decide (57 < r) = false := by simpa using h3
      have h2' : 48 ≤ r := by omega
      have h3' : r ≤ 57 := by omega
      clear hV h2 h3
      go_enter Tryz.func92, Tryz.ntmps92
      go_wp2
      go_ret
      exact ⟨ret_int HV.out.symm, rfl⟩

/-- A string's bytes. -/
abbrev bl (s : ByteArray) : List UInt8 := s.data.toList
theorem bl_len (s : ByteArray) : (bl s).length = s.size := Array.length_toList
theorem bl_get (s : ByteArray) (k : Nat) (h : k < s.size) : (bl s)[k]'(by rw [bl_len]; exact h) = s[k] := rfl
theorem bl_take (s : ByteArray) (k : Nat) (h : k < s.size) : (bl s).take (k + 1) = (bl s).take k ++ [s[k]] := by
  rw [List.take_succ_eq_append_getElem (by rw [bl_len]; exact h)]; rfl
theorem bl_drop (s : ByteArray) (k : Nat) (h : k < s.size) : (bl s).drop k = s[k] :: (bl s).drop (k + 1) := by
  rw [List.drop_eq_getElem_cons (by rw [bl_len]; exact h)]; rfl
theorem bl_mem (s : ByteArray) (k : Nat) (h : k < s.size) : s[k] ∈ bl s := by rw [← bl_get s k h]; exact List.getElem_mem _
theorem toL (s : ByteArray) : s.toList = bl s := ByteArray.toList_eq s

theorem dec_yes (s : ByteArray) (k : Nat) (h : k < s.size) (hd : isDg s[k] = true) : Utf8.decode s k = (s[k].toNat, 1) := by
  rw [isDg_iff] at hd; exact decode_ascii s k h (by omega)
theorem dec_no (s : ByteArray) (k : Nat) (h : k < s.size) (hd : isDg s[k] = false) : digitI (Utf8.decode s k).1 = -1 := by
  rw [isDg_no] at hd
  unfold digitI
  by_cases h2 : s[k].toNat < 128
  · rw [decode_ascii s k h h2, if_pos]
    simp only; omega
  · have := (decode_high s k h (by omega)).1
    rw [if_pos]; omega

theorem iterPos_of (w : World) (s : ByteArray) (k : Nat) : (w.iter s k).iterPos w.heap.size = k := World.iterPos_iter w s k
theorem below_iter (w : World) (s : ByteArray) (k : Nat) : Below w.heap.size w (w.iter s k) := belowA w _

def DigEnd (V : Int × Int) (w : World) (e : Ending) (w' : World) : Prop := e = .returned (.tuple #[.int .i64 V.1, .int .i64 V.2]) ∧ Below w.heap.size w w'

set_option maxHeartbeats 1000000 in
theorem digits_any (s : ByteArray) (w : World) :
    Calls Tryz.prog 79 #[.string s] w (DigEnd (digitsV (bl s)) w) := by
  obtain ⟨V, hV⟩ : ∃ V, V = digitsV (bl s) := ⟨_, rfl⟩
  rw [← hV]
  have HV := Lib.hid hV
  clear hV
  by_cases he : s.toList = []
  · have HE := Lib.hid (show V = (0, 11) by rw [HV.out, ← toL, he]; exact digitsV_nil)
    go_enter Tryz.func79, Tryz.ntmps79
    go_wp2
    go_ret2
    exact ⟨by rw [HE.out]; rfl, Below.refl _ _⟩
  have he2 : s.toList.isEmpty = false := by simpa using he
  have hne : bl s ≠ [] := by rw [← toL]; exact he
  have HNE := Lib.hid hne
  clear he hne
  go_enter Tryz.func79, Tryz.ntmps79
  go_wp2
  go_loopw [4, 5] (fun n o wr => ∃ (k : Nat) (N : Int) (ov : Bool), k ≤ s.size ∧ n = .int .i64 N ∧ o = .bool ov ∧ wr = w.iter s k ∧ 0 ≤ N ∧ N ≤ 2147483647 ∧ Hid (((bl s).take k).all isDg = true) ∧ Hid (ov = decide (2147483647 < valD ((bl s).take k))) ∧ Hid (ov = false → N = (valD ((bl s).take k) : Nat)))
    (fun _ _ wr => s.size - wr.iterPos w.heap.size)
  case atStart => exact ⟨0, 0, false, Nat.zero_le _, rfl, rfl, rfl, by omega, by omega, Lib.hid rfl, Lib.hid rfl, Lib.hid fun _ => rfl⟩
  case round =>
    obtain ⟨k, N, ov, hk, rfl, rfl, rfl, hN0, hN1, HA, HO, HN⟩ := hrel
    by_cases hlt : k < s.size
    · have hnx := fun ty => run_next_any (P := Tryz.prog) w s k ty hlt
      have hle := decode_le s k
      by_cases hd : isDg s[k] = true
      · rw [dec_yes s k hlt hd] at hnx hle
        have hd1 := isDg_iff.1 hd
        have HDV := Lib.hid (dgV_int hd)
        have HD9 := dgV_le hd
        have HTA := Lib.hid (show ((bl s).take (k + 1)).all isDg = true by rw [bl_take s k hlt]; exact all_snoc _ _ HA.out hd)
        have HTV := Lib.hid (show valD ((bl s).take (k + 1)) = 10 * valD ((bl s).take k) + dgV s[k] by rw [bl_take s k hlt]; exact valD_snoc _ _)
        have HDI := Lib.hid (show digitI ((s[k].toNat : Nat) : Int) = (dgV s[k] : Nat) by unfold digitI; rw [if_neg (by omega), dgV_int hd])
        generalize dgV s[k] = d at *
        generalize s[k].toNat = c at *
        clear hd
        simp only at hnx hle
        cases ov
        · have hval := HN.out rfl
          have HVAL := Lib.hid hval
          clear hval
          by_cases hov : (2147483647 - (d : Int)) / 10 < N
          · have HOV2 := Lib.hid (show true = decide (2147483647 < valD ((bl s).take (k + 1))) by
              have h1 := HVAL.out
              rw [HTV.out, eq_comm, decide_eq_true_iff]; omega)
            go_wp2_with (go_at_call 92; refine (digit_any _ _ (by omega) (by omega)).mono ?_; rintro e w' ⟨rfl, rfl⟩; rw [HDI.out])
            go_roundw
            case rel => exact ⟨k + 1, N, true, by omega, rfl, rfl, rfl, hN0, hN1, HTA, HOV2, Lib.hid (fun h => by cases h)⟩
            case measure => simp; omega
          · have HOV2 := Lib.hid (show false = decide (2147483647 < valD ((bl s).take (k + 1))) by
              have h1 := HVAL.out
              rw [HTV.out, eq_comm, decide_eq_false_iff_not]; omega)
            have HVL2 := Lib.hid (show 10 * N + (d : Int) = ((valD ((bl s).take (k + 1)) : Nat) : Int) by rw [HTV.out, HVAL.out]; omega)
            have hovd : decide ((2147483647 - (d : Int)) / 10 < N) = false := by simpa using hov
            go_wp2_with (go_at_call 92; refine (digit_any _ _ (by omega) (by omega)).mono ?_; rintro e w' ⟨rfl, rfl⟩; rw [HDI.out])
            go_roundw
            case rel => exact ⟨k + 1, 10 * N + d, false, by omega, rfl, rfl, rfl, by omega, by omega, HTA, HOV2, Lib.hid (fun _ => HVL2.out)⟩
            case measure => simp; omega
        · have HOV2 := Lib.hid (show true = decide (2147483647 < valD ((bl s).take (k + 1))) by
            have h1 := HO.out
            rw [eq_comm, decide_eq_true_iff] at h1
            rw [HTV.out, eq_comm, decide_eq_true_iff]; omega)
          go_wp2_with (go_at_call 92; refine (digit_any _ _ (by omega) (by omega)).mono ?_; rintro e w' ⟨rfl, rfl⟩; rw [HDI.out])
          go_roundw
          case rel => exact ⟨k + 1, N, true, by omega, rfl, rfl, rfl, hN0, hN1, HTA, HOV2, Lib.hid (fun h => by cases h)⟩
          case measure => simp; omega
      · have hd2 : isDg s[k] = false := by simpa using hd
        have HDI := Lib.hid (dec_no s k hlt hd2)
        have h128 : 0 ≤ (Utf8.decode s k).1 := by omega
        have HF := Lib.hid (show V = (0, 11) by rw [HV.out]; exact digitsV_form (all_false (bl_mem s k hlt) hd2))
        clear hd hd2
        go_wp2_with (go_at_call 92; refine (digit_any _ _ (by omega) (by omega)).mono ?_; rintro e w' ⟨rfl, rfl⟩; rw [HDI.out])
        go_ret2
        exact ⟨by rw [HF.out]; rfl, below_iter _ _ _⟩
    · obtain rfl : k = s.size := by omega
      have hnx := fun ty => run_next_end (P := Tryz.prog) w s s.size ty hlt
      have htk : (bl s).take s.size = bl s := by rw [← bl_len]; exact List.take_length
      have HT := Lib.hid htk
      clear htk
      cases ov
      · have HR := Lib.hid (show V = (N, 0) by
          have h1 := HA.out; have h2 := HO.out; have h3 := HN.out rfl
          rw [HT.out] at h1 h2 h3
          rw [eq_comm, decide_eq_false_iff_not] at h2
          rw [HV.out, digitsV_ok HNE.out h1 (by omega), h3])
        go_wp2
        go_ret2
        exact ⟨by rw [HR.out]; rfl, below_iter _ _ _⟩
      · have HR := Lib.hid (show V = (0, 5) by
          have h1 := HA.out; have h2 := HO.out
          rw [HT.out] at h1 h2
          rw [eq_comm, decide_eq_true_iff] at h2
          rw [HV.out, digitsV_over HNE.out h1 h2])
        go_wp2
        go_ret2
        exact ⟨by rw [HR.out]; rfl, below_iter _ _ _⟩

set_option maxHeartbeats 1000000 in
theorem all_any (s : ByteArray) (w : World) :
    Calls Tryz.prog 78 #[.string s] w fun e w' => e = .returned (.bool ((bl s).all isDg)) ∧ Below w.heap.size w w' := by
  obtain ⟨V, hV⟩ : ∃ V, V = (bl s).all isDg := ⟨_, rfl⟩
  rw [← hV]
  have HV := Lib.hid hV
  clear hV
  go_enter Tryz.func78, Tryz.ntmps78
  go_wp2
  go_loopw [] (fun wr => ∃ k : Nat, k ≤ s.size ∧ wr = w.iter s k ∧ Hid (((bl s).take k).all isDg = true)) (fun wr => s.size - wr.iterPos w.heap.size)
  case atStart => exact ⟨0, Nat.zero_le _, rfl, Lib.hid rfl⟩
  case round =>
    obtain ⟨k, hk, rfl, HA⟩ := hrel
    by_cases hlt : k < s.size
    · have hnx := fun ty => run_next_any (P := Tryz.prog) w s k ty hlt
      have hle := decode_le s k
      by_cases hd : isDg s[k] = true
      · rw [dec_yes s k hlt hd] at hnx hle
        have hd1 := isDg_iff.1 hd
        have hd9 := dgV_le hd
        have HTA := Lib.hid (show ((bl s).take (k + 1)).all isDg = true by rw [bl_take s k hlt]; exact all_snoc _ _ HA.out hd)
        have HDI := Lib.hid (show digitI ((s[k].toNat : Nat) : Int) = (dgV s[k] : Nat) by unfold digitI; rw [if_neg (by omega), dgV_int hd])
        generalize dgV s[k] = d at *
        generalize s[k].toNat = c at *
        clear hd
        simp only at hnx hle
        go_wp2_with (go_at_call 92; refine (digit_any _ _ (by omega) (by omega)).mono ?_; rintro e w' ⟨rfl, rfl⟩; rw [HDI.out])
        go_roundw
        case rel => exact ⟨k + 1, by omega, rfl, HTA⟩
        case measure => simp; omega
      · have hd2 : isDg s[k] = false := by simpa using hd
        have HDI := Lib.hid (dec_no s k hlt hd2)
        have HF := Lib.hid (show V = false by rw [HV.out]; exact all_false (bl_mem s k hlt) hd2)
        clear hd hd2
        go_wp2_with (go_at_call 92; refine (digit_any _ _ (by omega) (by omega)).mono ?_; rintro e w' ⟨rfl, rfl⟩; rw [HDI.out])
        go_ret
        exact ⟨ret_bool (HF.out).symm, below_iter _ _ _⟩
    · obtain rfl : k = s.size := by omega
      have hnx := fun ty => run_next_end (P := Tryz.prog) w s s.size ty hlt
      have htk : (bl s).take s.size = bl s := by rw [← bl_len]; exact List.take_length
      have HR := Lib.hid (show V = true by rw [HV.out, ← htk]; exact HA.out)
      clear htk
      go_wp2
      go_ret
      exact ⟨ret_bool (HR.out).symm, below_iter _ _ _⟩
end Go.Proofs.YtnkodejgiabamaaGreat
/-
  Walks of layer 9: what it calls of package strings (a prefix of one byte, a cut at one byte).
-/
namespace Go.Proofs.YtnkodejgiabamaaGreat
open Go.RowKit

theorem idx_none : ∀ (l : List UInt8) (c : UInt8), Lib.indexByte l c = -1 → c ∉ l
  | [], _, _ => by simp
  | b :: l, c, h => by
    have hg := Lib.indexByte_ge l c
    unfold Lib.indexByte at h
    split at h
    · omega
    · rename_i hb
      split at h
      · rename_i h1
        have := idx_none l c (by simpa using h1)
        simp at hb
        simp [this, Ne.symm hb]
      · rename_i h1
        simp at h1; omega
theorem idx_some : ∀ (l : List UInt8) (c : UInt8) (i : Nat), Lib.indexByte l c = (i : Int) → ∃ w t, l = w ++ c :: t ∧ w.length = i ∧ c ∉ w
  | [], _, _, h => by unfold Lib.indexByte at h; omega
  | b :: l, c, i, h => by
    have hg := Lib.indexByte_ge l c
    unfold Lib.indexByte at h
    split at h
    · rename_i hb
      have : b = c := by simpa using hb
      exact ⟨[], l, by simp [this], by simp; omega, by simp⟩
    · rename_i hb
      split at h
      · omega
      · rename_i h1
        simp at h1
        obtain ⟨w, t, e1, e2, e3⟩ := idx_some l c (i - 1) (by omega)
        simp at hb
        exact ⟨b :: w, t, by simp [e1], by simp; omega, by simp [e3, Ne.symm hb]⟩

set_option maxRecDepth 100000 in
set_option maxHeartbeats 1000000 in
theorem sidx_any (s : ByteArray) (c : Int) (w : World) :
    Calls Tryz.prog 89 #[.string s, .int .u8 c] w fun e w' => e = .returned (.int .i64 (Lib.indexByte (bl s) c.toNat.toUInt8)) ∧ w = w' := by
  go_enter Tryz.func89, Tryz.ntmps89
  go_wp2
  rw [run_callFunc_extern Tryz.func96 (by kernel_rfl) (by kernel_rfl) (by kernel_rfl) (e := Extern.BytealgIndexByte.indexByte) (by kernel_rfl), Lib.run_indexByteString]
  simp only [Result.andThen]
  rw [Oper.upon_value]
  go_wp2
  go_ret
  exact ⟨rfl, rfl⟩

set_option maxHeartbeats 1000000 in
theorem sidx2_any (s : ByteArray) (c : Int) (w : World) :
    Calls Tryz.prog 75 #[.string s, .int .u8 c] w fun e w' => e = .returned (.int .i64 (Lib.indexByte (bl s) c.toNat.toUInt8)) ∧ w = w' := by
  go_enter Tryz.func75, Tryz.ntmps75
  go_wp2_with (go_at_call 89; refine (sidx_any _ _ _).mono ?_; rintro e w' ⟨rfl, rfl⟩)
  go_ret
  exact ⟨rfl, rfl⟩

set_option maxHeartbeats 1000000 in
theorem index46_any (s : ByteArray) (w : World) :
    Calls Tryz.prog 97 #[.string s, .string ⟨#[46]⟩] w fun e w' => e = .returned (.int .i64 (Lib.indexByte (bl s) 46)) ∧ w = w' := by
  obtain ⟨V, hV⟩ : ∃ V, V = Lib.indexByte (bl s) 46 := ⟨_, rfl⟩
  rw [← hV]
  have HV := Lib.hid hV
  clear hV
  by_cases h : s.toList = [46]
  · have HE := Lib.hid (show V = 0 by rw [HV.out, ← toL, h]; rfl)
    go_enter Tryz.func97, Tryz.ntmps97
    go_wp2
    go_ret
    exact ⟨ret_int HE.out.symm, rfl⟩
  · have h2 : ([46] == s.toList) = false := by rw [beq_eq_false_iff_ne]; exact fun e => h e.symm
    clear h
    go_enter Tryz.func97, Tryz.ntmps97
    go_wp2_with (go_at_call 89; refine (sidx_any _ _ _).mono ?_; rintro e w' ⟨rfl, rfl⟩)
    go_ret
    exact ⟨ret_int HV.out.symm, rfl⟩

def CutEnd (s : ByteArray) (w : World) (e : Ending) (w' : World) : Prop :=
  ∃ W R : ByteArray, e = .returned (.tuple #[.string W, .string R, .bool (hasPt (bl s))]) ∧ bl W = wholeOf (bl s) ∧ bl R = restOf (bl s) ∧ W.size ≤ s.size ∧ R.size ≤ s.size ∧ ∃ q, w' = w.drewN q

theorem bl_ext (s : ByteArray) (i j : Nat) : bl (s.extract i j) = ((bl s).drop i).take (j - i) := by
  unfold bl; rw [ByteArray.data_extract, Array.toList_extract]
theorem bl_to (s : ByteArray) (i : Nat) : bl (s.extract 0 i) = (bl s).take i := by rw [bl_ext]; rfl
theorem bl_from (s : ByteArray) (i : Nat) : bl (s.extract i s.size) = (bl s).drop i := by
  rw [bl_ext, List.take_of_length_le]
  rw [List.length_drop, bl_len]; exact Nat.le_refl _

theorem ret_tup3 {a b a' b' : ByteArray} {p p' : Bool} (h1 : a = a') (h2 : b = b') (h3 : p = p') : Ending.returned (.tuple #[.string a, .string b, .bool p]) = Ending.returned (.tuple #[.string a', .string b', .bool p']) := by rw [h1, h2, h3]

set_option maxHeartbeats 1000000 in
theorem cut1_any (s : ByteArray) (w : World) (hs : s.size ≤ 4611686018427387904) :
    Calls Tryz.prog 91 #[.string s, .string ⟨#[46]⟩] w (CutEnd s w) := by
  have hge := Lib.indexByte_ge (bl s) 46
  by_cases hneg : Lib.indexByte (bl s) 46 = -1
  · have hn := idx_none _ _ hneg
    obtain ⟨t1, t2, t3⟩ := tw_none (bl s) (fun x hx e => hn (e ▸ hx))
    have HT := Lib.hid (And.intro t1 (And.intro t2 t3))
    clear t1 t2 t3 hn hge
    go_enter Tryz.func91, Tryz.ntmps91
    go_wp2_with (go_at_call 97; refine (index46_any _ _).mono ?_; rintro e w' ⟨rfl, rfl⟩; rw [hneg])
    go_ret3
    exact ⟨s, ⟨#[]⟩, ret_tup3 rfl rfl HT.out.2.2.symm, HT.out.1.symm, HT.out.2.1.symm, Nat.le_refl _, Nat.zero_le _, 0, rfl⟩
  · obtain ⟨i, hi⟩ := Int.eq_ofNat_of_zero_le (show 0 ≤ Lib.indexByte (bl s) 46 by omega)
    obtain ⟨a, t, e1, e2, e3⟩ := idx_some _ _ _ hi
    have hlen := congrArg List.length e1
    rw [bl_len] at hlen
    simp only [List.length_append, List.length_cons, e2] at hlen
    have hlt : i < s.size := by omega
    obtain ⟨t1, t2, t3⟩ := tw_app a t (fun x hx e => e3 (e ▸ hx))
    have h1 : bl (s.extract 0 i) = wholeOf (bl s) := by rw [bl_to, e1, t1, ← e2]; simp
    have h2 : bl (s.extract (i + 1) s.size) = restOf (bl s) := by
      rw [bl_from, e1, t2, ← e2, List.drop_append, Nat.add_sub_cancel_left, List.drop_of_length_le (by omega)]; rfl
    have HT := Lib.hid (And.intro h1 (And.intro h2 (show hasPt (bl s) = true by rw [e1]; exact t3)))
    have HI := Lib.hid hi
    clear t1 t2 t3 h1 h2 e1 e2 e3 hlen hge hi hneg
    go_enter Tryz.func91, Tryz.ntmps91
    go_wp2_with (go_at_call 97; refine (index46_any _ _).mono ?_; rintro e w' ⟨rfl, rfl⟩; rw [HI.out])
    go_quiet (fail)
    go_wp2
    go_ret3
    exact ⟨_, _, ret_tup3 rfl rfl HT.out.2.2.symm, HT.out.1, HT.out.2.1, by rw [ByteArray.size_extract]; omega, by rw [ByteArray.size_extract]; omega, _, rfl⟩

set_option maxHeartbeats 1000000 in
theorem cut_any (s : ByteArray) (w : World) (hs : s.size ≤ 4611686018427387904) :
    Calls Tryz.prog 77 #[.string s, .string ⟨#[46]⟩] w (CutEnd s w) := by
  have HC := Lib.hid (fun W => cut1_any s W hs)
  go_enter Tryz.func77, Tryz.ntmps77
  go_wp2_with (go_at_call 91; refine (HC.out _).mono ?_; rintro e w' ⟨W, R, rfl, h1, h2, h3, h4, q, rfl⟩; have H1 := Lib.hid h1; have H2 := Lib.hid h2; clear h1 h2)
  go_ret3
  exact ⟨W, R, rfl, H1.out, H2.out, h3, h4, q, rfl⟩

def hd1 (s : ByteArray) (c : UInt8) : Bool := decide ((bl s).head? = some c)
set_option maxHeartbeats 1000000 in
theorem pre1_any (s : ByteArray) (c : UInt8) (w : World) (hs : s.size ≤ 4611686018427387904) :
    Calls Tryz.prog 90 #[.string s, .string ⟨#[c]⟩] w fun e w' => e = .returned (.bool (hd1 s c)) ∧ w = w' := by
  by_cases h0 : 0 < s.size
  · have hx : (s.extract 0 1).toList = [s[0]] := by
      rw [toL, bl_to]
      have := bl_take s 0 h0
      simpa using this
    have HV := Lib.hid (show hd1 s c = (s[0] == c) by
      unfold hd1
      have h1 := bl_drop s 0 h0
      rw [List.drop_zero] at h1
      rw [h1, List.head?_cons, Bool.eq_iff_iff]
      simp)
    have h1 : (1 : Int) ≤ s.size := by omega
    have h1d : decide (1 ≤ s.size) = true := decide_eq_true (by omega)
    go_enter Tryz.func90, Tryz.ntmps90
    go_wp2
    go_ret
    exact ⟨ret_bool HV.out.symm, rfl⟩
  · have h1 : ¬ (1 : Int) ≤ s.size := by omega
    have h1d : decide ((1 : Int) ≤ s.size) = false := by simpa using h1
    have h1e : decide (1 ≤ s.size) = false := decide_eq_false (by omega)
    have HV := Lib.hid (show hd1 s c = false by
      unfold hd1
      have h1 : bl s = [] := List.eq_nil_of_length_eq_zero (by rw [bl_len]; omega)
      rw [h1]; rfl)
    go_enter Tryz.func90, Tryz.ntmps90
    go_wp2
    go_ret
    exact ⟨ret_bool HV.out.symm, rfl⟩
set_option maxHeartbeats 1000000 in
theorem pre_any (s : ByteArray) (c : UInt8) (w : World) (hs : s.size ≤ 4611686018427387904) :
    Calls Tryz.prog 76 #[.string s, .string ⟨#[c]⟩] w fun e w' => e = .returned (.bool (hd1 s c)) ∧ w = w' := by
  have HC := Lib.hid (fun W => pre1_any s c W hs)
  go_enter Tryz.func76, Tryz.ntmps76
  go_wp2_with (go_at_call 90; refine (HC.out _).mono ?_; rintro e w' ⟨rfl, rfl⟩)
  go_ret
  exact ⟨rfl, rfl⟩
end Go.Proofs.YtnkodejgiabamaaGreat
/-
  Walks of layer 10: bytes' kinds, in the program and in the reference.
-/
namespace Go.Proofs.YtnkodejgiabamaaGreat
open Go.RowKit

def spI (x : Int) : Bool := decide (x = 0 ∨ x = 9 ∨ x = 10 ∨ x = 12 ∨ x = 13 ∨ x = 32)
def dlI (x : Int) : Bool := decide (x = 40 ∨ x = 41 ∨ x = 60 ∨ x = 62 ∨ x = 91 ∨ x = 93 ∨ x = 123 ∨ x = 125 ∨ x = 47 ∨ x = 37)
theorem u8_eq (c : UInt8) (n : Nat) (hn : n < 256) : c = UInt8.ofNat n ↔ (c.toNat : Int) = (n : Int) := by
  constructor
  · rintro rfl; rw [UInt8.toNat_ofNat']; omega
  · intro h; apply UInt8.toNat_inj.1; rw [UInt8.toNat_ofNat']; omega
theorem spI_eq (c : UInt8) : isSp c = spI c.toNat := by
  unfold isSp spI
  rw [Bool.eq_iff_iff]
  simp only [Bool.or_eq_true, beq_iff_eq, decide_eq_true_iff, or_assoc]
  rw [show c = 0 ↔ _ from u8_eq c 0 (by omega), show c = 9 ↔ _ from u8_eq c 9 (by omega), show c = 10 ↔ _ from u8_eq c 10 (by omega), show c = 12 ↔ _ from u8_eq c 12 (by omega), show c = 13 ↔ _ from u8_eq c 13 (by omega), show c = 32 ↔ _ from u8_eq c 32 (by omega)]
  rfl
theorem dlI_eq (c : UInt8) : isDl c = dlI c.toNat := by
  unfold isDl dlI
  rw [Bool.eq_iff_iff]
  simp only [Bool.or_eq_true, beq_iff_eq, decide_eq_true_iff, or_assoc]
  rw [show c = 40 ↔ _ from u8_eq c 40 (by omega), show c = 41 ↔ _ from u8_eq c 41 (by omega), show c = 60 ↔ _ from u8_eq c 60 (by omega), show c = 62 ↔ _ from u8_eq c 62 (by omega), show c = 91 ↔ _ from u8_eq c 91 (by omega), show c = 93 ↔ _ from u8_eq c 93 (by omega), show c = 123 ↔ _ from u8_eq c 123 (by omega), show c = 125 ↔ _ from u8_eq c 125 (by omega), show c = 47 ↔ _ from u8_eq c 47 (by omega), show c = 37 ↔ _ from u8_eq c 37 (by omega)]
  rfl
def rgI (x : Int) : Bool := !spI x && !dlI x
theorem rgI_eq (c : UInt8) : isRg c = rgI c.toNat := by unfold isRg rgI; rw [spI_eq, dlI_eq]
def hexI (x : Int) : Int := if 48 ≤ x ∧ x ≤ 57 then x - 48 else if 97 ≤ x ∧ x ≤ 102 then x - 87 else if 65 ≤ x ∧ x ≤ 70 then x - 55 else -1
theorem hexI_eq (c : UInt8) : hexD c = hexI c.toNat := by
  unfold hexD hexI
  repeat' split
  all_goals omega

set_option maxHeartbeats 1000000 in
theorem sp_37 (x : Int) (w : World) : Calls Tryz.prog 37 #[.int .u8 x] w fun e w' => e = .returned (.bool (spI x)) ∧ w = w' := by
  obtain ⟨V, hV⟩ : ∃ V, V = spI x := ⟨_, rfl⟩
  rw [← hV]
  have HV := Lib.hid hV
  clear hV
  by_cases h : x = 0 ∨ x = 9 ∨ x = 10 ∨ x = 12 ∨ x = 13 ∨ x = 32
  · have HL := Lib.hid (show V = true by rw [HV.out]; exact decide_eq_true h)
    rcases h with rfl | rfl | rfl | rfl | rfl | rfl
    all_goals
      go_enter Tryz.func37, Tryz.ntmps37
      go_wp2
      go_ret
      exact ⟨ret_bool HL.out.symm, rfl⟩
  · have HL := Lib.hid (show V = false by rw [HV.out]; exact decide_eq_false h)
    have e0 : (x == 0) = false := by rw [beq_eq_false_iff_ne]; omega
    have e1 : (x == 9) = false := by rw [beq_eq_false_iff_ne]; omega
    have e2 : (x == 10) = false := by rw [beq_eq_false_iff_ne]; omega
    have e3 : (x == 12) = false := by rw [beq_eq_false_iff_ne]; omega
    have e4 : (x == 13) = false := by rw [beq_eq_false_iff_ne]; omega
    have e5 : (x == 32) = false := by rw [beq_eq_false_iff_ne]; omega
    clear h
    go_enter Tryz.func37, Tryz.ntmps37
    go_wp2
    go_ret
    exact ⟨ret_bool HL.out.symm, rfl⟩
set_option maxHeartbeats 1000000 in
theorem sp_48 (x : Int) (w : World) : Calls Tryz.prog 48 #[.int .u8 x] w fun e w' => e = .returned (.bool (spI x)) ∧ w = w' := by
  obtain ⟨V, hV⟩ : ∃ V, V = spI x := ⟨_, rfl⟩
  rw [← hV]
  have HV := Lib.hid hV
  clear hV
  by_cases h : x = 0 ∨ x = 9 ∨ x = 10 ∨ x = 12 ∨ x = 13 ∨ x = 32
  · have HL := Lib.hid (show V = true by rw [HV.out]; exact decide_eq_true h)
    rcases h with rfl | rfl | rfl | rfl | rfl | rfl
    all_goals
      go_enter Tryz.func48, Tryz.ntmps48
      go_wp2
      go_ret
      exact ⟨ret_bool HL.out.symm, rfl⟩
  · have HL := Lib.hid (show V = false by rw [HV.out]; exact decide_eq_false h)
    have e0 : (x == 0) = false := by rw [beq_eq_false_iff_ne]; omega
    have e1 : (x == 9) = false := by rw [beq_eq_false_iff_ne]; omega
    have e2 : (x == 10) = false := by rw [beq_eq_false_iff_ne]; omega
    have e3 : (x == 12) = false := by rw [beq_eq_false_iff_ne]; omega
    have e4 : (x == 13) = false := by rw [beq_eq_false_iff_ne]; omega
    have e5 : (x == 32) = false := by rw [beq_eq_false_iff_ne]; omega
    clear h
    go_enter Tryz.func48, Tryz.ntmps48
    go_wp2
    go_ret
    exact ⟨ret_bool HL.out.symm, rfl⟩
theorem space_any (x : Int) (w : World) : Calls Tryz.prog 37 #[.int .u8 x] w fun e w' => e = .returned (.bool (spI x)) ∧ w = w' := sp_37 x w
theorem rspace_any (x : Int) (w : World) : Calls Tryz.prog 48 #[.int .u8 x] w fun e w' => e = .returned (.bool (spI x)) ∧ w = w' := sp_48 x w

set_option maxHeartbeats 1000000 in
theorem rdelim_any (x : Int) (w : World) : Calls Tryz.prog 32 #[.int .u8 x] w fun e w' => e = .returned (.bool (dlI x)) ∧ w = w' := by
  obtain ⟨V, hV⟩ : ∃ V, V = dlI x := ⟨_, rfl⟩
  rw [← hV]
  have HV := Lib.hid hV
  clear hV
  by_cases h : x = 40 ∨ x = 41 ∨ x = 60 ∨ x = 62 ∨ x = 91 ∨ x = 93 ∨ x = 123 ∨ x = 125 ∨ x = 47 ∨ x = 37
  · have HL := Lib.hid (show V = true by rw [HV.out]; exact decide_eq_true h)
    rcases h with rfl | rfl | rfl | rfl | rfl | rfl | rfl | rfl | rfl | rfl
    all_goals
      go_enter Tryz.func32, Tryz.ntmps32
      go_wp2
      go_ret
      exact ⟨ret_bool HL.out.symm, rfl⟩
  · have HL := Lib.hid (show V = false by rw [HV.out]; exact decide_eq_false h)
    have e0 : (x == 40) = false := by rw [beq_eq_false_iff_ne]; omega
    have e1 : (x == 41) = false := by rw [beq_eq_false_iff_ne]; omega
    have e2 : (x == 60) = false := by rw [beq_eq_false_iff_ne]; omega
    have e3 : (x == 62) = false := by rw [beq_eq_false_iff_ne]; omega
    have e4 : (x == 91) = false := by rw [beq_eq_false_iff_ne]; omega
    have e5 : (x == 93) = false := by rw [beq_eq_false_iff_ne]; omega
    have e6 : (x == 123) = false := by rw [beq_eq_false_iff_ne]; omega
    have e7 : (x == 125) = false := by rw [beq_eq_false_iff_ne]; omega
    have e8 : (x == 47) = false := by rw [beq_eq_false_iff_ne]; omega
    have e9 : (x == 37) = false := by rw [beq_eq_false_iff_ne]; omega
    clear h
    go_enter Tryz.func32, Tryz.ntmps32
    go_wp2
    go_ret
    exact ⟨ret_bool HL.out.symm, rfl⟩

theorem dl_idx (c : UInt8) : decide (0 ≤ Lib.indexByte [40, 41, 60, 62, 91, 93, 123, 125, 47, 37] c) = dlI c.toNat := by
  rw [← dlI_eq]
  have hg := Lib.indexByte_ge [40, 41, 60, 62, 91, 93, 123, 125, 47, 37] c
  by_cases h : Lib.indexByte [40, 41, 60, 62, 91, 93, 123, 125, 47, 37] c = -1
  · have := idx_none _ _ h
    rw [h]
    simp at this
    simp [isDl, this]
  · obtain ⟨i, hi⟩ := Int.eq_ofNat_of_zero_le (show 0 ≤ Lib.indexByte [40, 41, 60, 62, 91, 93, 123, 125, 47, 37] c by omega)
    obtain ⟨a, t, e, -, -⟩ := idx_some _ _ _ hi
    have hm : c ∈ ([40, 41, 60, 62, 91, 93, 123, 125, 47, 37] : List UInt8) := by rw [e]; simp
    rw [hi, decide_eq_true (by omega)]
    simp at hm
    rcases hm with rfl | rfl | rfl | rfl | rfl | rfl | rfl | rfl | rfl | rfl <;> rfl
theorem u8_back (c : UInt8) : ((c.toNat : Int)).toNat.toUInt8 = c := by simp

set_option maxHeartbeats 1000000 in
theorem delim_any (c : UInt8) (w : World) : Calls Tryz.prog 56 #[.int .u8 c.toNat] w fun e w' => e = .returned (.bool (dlI c.toNat)) ∧ w = w' := by
  have HV := Lib.hid (dl_idx c)
  have hS := fun W => sidx2_any ⟨#[40, 41, 60, 62, 91, 93, 123, 125, 47, 37]⟩ (c.toNat : Int) W
  rw [u8_back] at hS
  have hS2 : ∀ W, Calls Tryz.prog 75 #[.string ⟨#[40, 41, 60, 62, 91, 93, 123, 125, 47, 37]⟩, .int .u8 c.toNat] W fun e w' => e = .returned (.int .i64 (Lib.indexByte [40, 41, 60, 62, 91, 93, 123, 125, 47, 37] c)) ∧ W = w' := hS
  have HS := Lib.hid hS2
  clear hS hS2
  generalize dlI c.toNat = V at *
  generalize Lib.indexByte [40, 41, 60, 62, 91, 93, 123, 125, 47, 37] c = I at *
  go_enter Tryz.func56, Tryz.ntmps56
  go_wp2_with (go_at_call 75; refine (HS.out _).mono ?_; rintro e w' ⟨rfl, rfl⟩)
  go_ret
  exact ⟨ret_bool HV.out, rfl⟩

set_option maxHeartbeats 1000000 in
theorem regular_any (c : UInt8) (w : World) : Calls Tryz.prog 38 #[.int .u8 c.toNat] w fun e w' => e = .returned (.bool (rgI c.toNat)) ∧ w = w' := by
  have HV := Lib.hid (show rgI c.toNat = (!spI c.toNat && !dlI c.toNat) from rfl)
  have HS := Lib.hid (fun W => space_any c.toNat W)
  have HD := Lib.hid (fun W => delim_any c W)
  generalize dlI c.toNat = b at *
  generalize spI c.toNat = a at *
  generalize rgI c.toNat = V at *
  cases a
  all_goals
    go_enter Tryz.func38, Tryz.ntmps38
    go_wp2_with (first
      | (go_at_call 37; refine (HS.out _).mono ?_; rintro e w' ⟨rfl, rfl⟩)
      | (go_at_call 56; refine (HD.out _).mono ?_; rintro e w' ⟨rfl, rfl⟩))
    go_ret
    exact ⟨ret_bool (by rw [HV.out]; rfl), rfl⟩

set_option maxHeartbeats 1000000 in
theorem hx_65 (x : Int) (w : World) (h0 : 0 ≤ x) (h1 : x ≤ 255) : Calls Tryz.prog 65 #[.int .u8 x] w fun e w' => e = .returned (.int .i64 (hexI x)) ∧ w = w' := by
  obtain ⟨V, hV⟩ : ∃ V, V = hexI x := ⟨_, rfl⟩
  rw [← hV]
  unfold hexI at hV
  have d48 : ∀ b, decide (48 ≤ x) = b → decide (48 ≤ x) = b := fun _ h => h
  by_cases ha : 48 ≤ x
  · by_cases hb : x ≤ 57
    · rw [if_pos ⟨ha, hb⟩] at hV
      have HV := Lib.hid hV
      clear hV
      go_enter Tryz.func65, Tryz.ntmps65
      go_wp2
      go_ret
      exact ⟨ret_int (by rw [HV.out]), rfl⟩
    · rw [if_neg (by omega)] at hV
      have hbd : decide (x ≤ 57) = false := by simpa using hb
      by_cases hc : 97 ≤ x
      · by_cases hd : x ≤ 102
        · rw [if_pos ⟨hc, hd⟩] at hV
          have HV := Lib.hid hV
          clear hV hb
          go_enter Tryz.func65, Tryz.ntmps65
          go_wp2
          go_ret
          exact ⟨ret_int (by have := HV.out; omega), rfl⟩
        · rw [if_neg (by omega), if_neg (by omega)] at hV
          have hdd : decide (x ≤ 102) = false := by simpa using hd
          have he : 65 ≤ x := by omega
          have hfd : decide (x ≤ 70) = false := by simp; omega
          have HV := Lib.hid hV
          clear hV hb hd
          go_enter Tryz.func65, Tryz.ntmps65
          go_wp2
          go_ret
          exact ⟨ret_int (by rw [HV.out]), rfl⟩
      · rw [if_neg (by omega)] at hV
        have hcd : decide (97 ≤ x) = false := by simpa using hc
        by_cases he : 65 ≤ x
        · by_cases hf : x ≤ 70
          · rw [if_pos ⟨he, hf⟩] at hV
            have HV := Lib.hid hV
            clear hV hb hc
            go_enter Tryz.func65, Tryz.ntmps65
            go_wp2
            go_ret
            exact ⟨ret_int (by have := HV.out; omega), rfl⟩
          · rw [if_neg (by omega)] at hV
            have hfd : decide (x ≤ 70) = false := by simpa using hf
            have HV := Lib.hid hV
            clear hV hb hc hf
            go_enter Tryz.func65, Tryz.ntmps65
            go_wp2
            go_ret
            exact ⟨ret_int (by rw [HV.out]), rfl⟩
        · rw [if_neg (by omega)] at hV
          have hed : decide (65 ≤ x) = false := by simpa using he
          have HV := Lib.hid hV
          clear hV hb hc he
          go_enter Tryz.func65, Tryz.ntmps65
          go_wp2
          go_ret
          exact ⟨ret_int (by rw [HV.out]), rfl⟩
  · rw [if_neg (by omega), if_neg (by omega), if_neg (by omega)] at hV
    have had : decide (48 ≤ x) = false := by simpa using ha
    have hcd : decide (97 ≤ x) = false := decide_eq_false (by omega)
    have hed : decide (65 ≤ x) = false := decide_eq_false (by omega)
    have HV := Lib.hid hV
    clear hV ha d48
    go_enter Tryz.func65, Tryz.ntmps65
    go_wp2
    go_ret
    exact ⟨ret_int (by rw [HV.out]), rfl⟩
set_option maxHeartbeats 1000000 in
theorem hx_49 (x : Int) (w : World) (h0 : 0 ≤ x) (h1 : x ≤ 255) : Calls Tryz.prog 49 #[.int .u8 x] w fun e w' => e = .returned (.int .i64 (hexI x)) ∧ w = w' := by
  obtain ⟨V, hV⟩ : ∃ V, V = hexI x := ⟨_, rfl⟩
  rw [← hV]
  unfold hexI at hV
  have d48 : ∀ b, decide (48 ≤ x) = b → decide (48 ≤ x) = b := fun _ h => h
  by_cases ha : 48 ≤ x
  · by_cases hb : x ≤ 57
    · rw [if_pos ⟨ha, hb⟩] at hV
      have HV := Lib.hid hV
      clear hV
      go_enter Tryz.func49, Tryz.ntmps49
      go_wp2
      go_ret
      exact ⟨ret_int (by rw [HV.out]), rfl⟩
    · rw [if_neg (by omega)] at hV
      have hbd : decide (x ≤ 57) = false := by simpa using hb
      by_cases hc : 97 ≤ x
      · by_cases hd : x ≤ 102
        · rw [if_pos ⟨hc, hd⟩] at hV
          have HV := Lib.hid hV
          clear hV hb
          go_enter Tryz.func49, Tryz.ntmps49
          go_wp2
          go_ret
          exact ⟨ret_int (by have := HV.out; omega), rfl⟩
        · rw [if_neg (by omega), if_neg (by omega)] at hV
          have hdd : decide (x ≤ 102) = false := by simpa using hd
          have he : 65 ≤ x := by omega
          have hfd : decide (x ≤ 70) = false := by simp; omega
          have HV := Lib.hid hV
          clear hV hb hd
          go_enter Tryz.func49, Tryz.ntmps49
          go_wp2
          go_ret
          exact ⟨ret_int (by rw [HV.out]), rfl⟩
      · rw [if_neg (by omega)] at hV
        have hcd : decide (97 ≤ x) = false := by simpa using hc
        by_cases he : 65 ≤ x
        · by_cases hf : x ≤ 70
          · rw [if_pos ⟨he, hf⟩] at hV
            have HV := Lib.hid hV
            clear hV hb hc
            go_enter Tryz.func49, Tryz.ntmps49
            go_wp2
            go_ret
            exact ⟨ret_int (by have := HV.out; omega), rfl⟩
          · rw [if_neg (by omega)] at hV
            have hfd : decide (x ≤ 70) = false := by simpa using hf
            have HV := Lib.hid hV
            clear hV hb hc hf
            go_enter Tryz.func49, Tryz.ntmps49
            go_wp2
            go_ret
            exact ⟨ret_int (by rw [HV.out]), rfl⟩
        · rw [if_neg (by omega)] at hV
          have hed : decide (65 ≤ x) = false := by simpa using he
          have HV := Lib.hid hV
          clear hV hb hc he
          go_enter Tryz.func49, Tryz.ntmps49
          go_wp2
          go_ret
          exact ⟨ret_int (by rw [HV.out]), rfl⟩
  · rw [if_neg (by omega), if_neg (by omega), if_neg (by omega)] at hV
    have had : decide (48 ≤ x) = false := by simpa using ha
    have hcd : decide (97 ≤ x) = false := decide_eq_false (by omega)
    have hed : decide (65 ≤ x) = false := decide_eq_false (by omega)
    have HV := Lib.hid hV
    clear hV ha d48
    go_enter Tryz.func49, Tryz.ntmps49
    go_wp2
    go_ret
    exact ⟨ret_int (by rw [HV.out]), rfl⟩
theorem hex_any (c : UInt8) (w : World) : Calls Tryz.prog 65 #[.int .u8 c.toNat] w fun e w' => e = .returned (.int .i64 (hexD c)) ∧ w = w' := by
  rw [hexI_eq]; exact hx_65 _ w (by omega) (by have := c.toNat_lt; omega)
theorem rhex_any (c : UInt8) (w : World) : Calls Tryz.prog 49 #[.int .u8 c.toNat] w fun e w' => e = .returned (.int .i64 (hexD c)) ∧ w = w' := by
  rw [hexI_eq]; exact hx_49 _ w (by omega) (by have := c.toNat_lt; omega)
theorem rcut_any (last : Bool) (w : World) : Calls Tryz.prog 50 #[.bool last] w fun e w' => e = .returned (.int .i64 (openE last)) ∧ w = w' := by
  have HV := Lib.hid (show openE last = if last = true then 10 else 6 by unfold openE; cases last <;> rfl)
  generalize openE last = V at *
  cases last
  all_goals
    go_enter Tryz.func50, Tryz.ntmps50
    go_wp2
    go_ret
    exact ⟨ret_int (by rw [HV.out]; rfl), rfl⟩
end Go.Proofs.YtnkodejgiabamaaGreat
/-
  What the given frame tells of an argument, in our words: a slice of numbers, of bytes, reads as a row.
-/
namespace Go.Proofs.YtnkodejgiabamaaGreat
open Go.RowKit

theorem row_arg {k : IntKind} {w : World} {a : Option Addr} {len cap : Nat} {zs : List Int}
    (h : (a = none ∧ len = 0 ∧ cap = 0 ∧ zs = []) ∨ ∃ x, a = some x ∧ len ≤ cap ∧ cap ≤ maxLen ∧ zs.length = cap ∧ (∀ i, i < zs.length → w.cell? (x.add i) = some (.int k (zs.getD i 0))) ∧ ∀ n ∈ zs, (Lit.int k n).wf = true) :
    Row w 1 a len cap ((zs.take len).map (Value.int k)) ∧ (∀ n ∈ zs.take len, (Lit.int k n).wf = true) ∧ (zs.take len).length = len := by
  rcases h with ⟨rfl, rfl, rfl, rfl⟩ | ⟨x, rfl, hl, hm, hz, hc, hw⟩
  · exact ⟨Row.nil w 1, by simp, by simp⟩
  · refine ⟨⟨by simp; omega, hl, hm, fun h => (by cases h), fun hn => ?_⟩, fun n hn => hw n (List.mem_of_mem_take hn), by simp; omega⟩
    have h0 := hc 0 (by omega)
    have hb := World.block_lt_of_cell? w _ h0
    obtain ⟨b, off, spot⟩ := x
    have hspot : spot = none := by simpa [Addr.add] using World.cell?_spot h0
    subst hspot
    refine ⟨b, off, rfl, by simpa [Addr.add] using hb, fun j u hj => ?_⟩
    have hj2 : j < len := by
      have := (List.getElem?_eq_some_iff.1 hj).1
      simp at this; omega
    have h1 := hc j (by omega)
    rw [Addr.add_lit] at h1
    rw [h1, ← hj]
    simp [hj2, List.getD, show j < zs.length by omega]

theorem below_drewN {B : Nat} {a w : World} (h : Below B a w) (n : Nat) : Below B a (w.drewN n) := ⟨h.os, h.tape, h.output, h.size, h.block⟩

theorem wf_i64_bd {n : Int} (h : (Lit.int .i64 n).wf = true) : -9223372036854775808 ≤ n ∧ n ≤ 9223372036854775807 := by
  simp [Lit.wf, IntKind.min, IntKind.max, IntKind.signed, IntKind.bits] at h; omega

theorem row_bytes {w : World} {a : Option Addr} {len cap : Nat} {zs : List Int}
    (h : (a = none ∧ len = 0 ∧ cap = 0 ∧ zs = []) ∨ ∃ x, a = some x ∧ len ≤ cap ∧ cap ≤ maxLen ∧ zs.length = cap ∧ (∀ i, i < zs.length → w.cell? (x.add i) = some (.int .u8 (zs.getD i 0))) ∧ ∀ n ∈ zs, (Lit.int .u8 n).wf = true) :
    ∃ bs : List UInt8, bs.length = len ∧ Row w 1 a bs.length cap (bs.map fun b => Value.int .u8 b.toNat) := by
  obtain ⟨hr, hw, hl⟩ := row_arg h
  refine ⟨(zs.take len).map fun n => UInt8.ofNat n.toNat, by simpa using hl, ?_⟩
  have e : ((zs.take len).map fun n => UInt8.ofNat n.toNat).map (fun b => Value.int .u8 b.toNat) = (zs.take len).map (Value.int .u8) := by
    rw [List.map_map]
    refine List.map_congr_left fun n hn => ?_
    have := hw n hn
    simp [Lit.wf, IntKind.min, IntKind.max, IntKind.signed, IntKind.bits] at this
    simp
    omega
  rw [e, List.length_map, hl]
  exact hr
end Go.Proofs.YtnkodejgiabamaaGreat
/-
  Walks of layer 10: the scanner in memory: what it looks at, what it puts together.
-/
namespace Go.Proofs.YtnkodejgiabamaaGreat
open Go.RowKit

def u8C (b : UInt8) : Value := .int .u8 b.toNat
/-- What a scanner looks at: a slice of bytes; whether they are the last ones. -/
structure Src where
  a : Option Addr
  cap : Nat
  bs : List UInt8
  last : Bool
def scV (X : Src) (ad v : Value) (k : Nat) : Array Value := #[ad, v, .slice X.a X.bs.length X.cap, .int .i64 k, .bool X.last]

/-- A scanner in block p; S knows it, and what it has put together. -/
structure IsSc (w : World) (S : Nat → Prop) (p : Nat) (X : Src) (out : List UInt8) (k : Nat) (ad v : Value) : Prop where
  blk : w.heap[p]? = some (.cells (scV X ad v k) 74 (0, 0))
  ad_ : ad = .pointer none ∨ ad = .pointer (some ⟨p, 0, none⟩)
  row : w.ownsRow (p + 1) 5 1 v out.length (out.map u8C)
  at_ : ∀ b, v.ownBlock = some b → S b
  own : S p
  lt : ∀ b, S b → p ≤ b ∧ b < w.heap.size
  src : Row w 1 X.a X.bs.length X.cap (X.bs.map u8C)
  srcb : ∀ x, X.a = some x → x.block < p
  le : k ≤ X.bs.length
  small : X.bs.length ≤ 100000
  outl : out.length ≤ k
  nil_ : out = [] → v = .slice none 0 0
def ScQ (w : World) (S : Nat → Prop) (p : Nat) (X : Src) (out : List UInt8) (k : Nat) : Prop := ∃ ad v, IsSc w S p X out k ad v
/-- What a call leaves of a scanner. -/
def ScNext (w : World) (S : Nat → Prop) (p : Nat) (X : Src) (out : List UInt8) (k : Nat) (w' : World) : Prop := ∃ S', ScQ w' S' p X out k ∧ Keeps S w w' ∧ ∀ b, S' b → S b ∨ w.heap.size ≤ b

theorem ScNext.refl {w : World} {S : Nat → Prop} {p : Nat} {X : Src} {out : List UInt8} {k : Nat} (h : ScQ w S p X out k) : ScNext w S p X out k w := ⟨S, h, Keeps.refl _ _, fun _ h => .inl h⟩
theorem ScNext.trans {w w1 w2 : World} {S S1 : Nat → Prop} {p : Nat} {X : Src} {out : List UInt8} {k : Nat} (hk : Keeps S w w1) (hs : ∀ b, S1 b → S b ∨ w.heap.size ≤ b) (h2 : ScNext w1 S1 p X out k w2) : ScNext w S p X out k w2 := by
  obtain ⟨S2, q, k2, s⟩ := h2
  exact ⟨S2, q, hk.trans k2 hs, fun b hb => (s b hb).elim (hs b) (fun h => .inr (Nat.le_trans hk.size h))⟩
theorem IsSc.keep {w w' : World} {S : Nat → Prop} {p : Nat} {X : Src} {out : List UInt8} {k : Nat} {ad v : Value} (h : IsSc w S p X out k ad v) (hb : Below w.heap.size w w') : IsSc w' S p X out k ad v :=
  ⟨block_keep hb h.blk, h.ad_, ownsRow_keep h.row hb, h.at_, h.own, fun b hS => ⟨(h.lt b hS).1, Nat.lt_of_lt_of_le (h.lt b hS).2 hb.size⟩, h.src.mono hb, h.srcb, h.le, h.small, h.outl, h.nil_⟩
theorem ScQ.keep {w w' : World} {S : Nat → Prop} {p : Nat} {X : Src} {out : List UInt8} {k : Nat} (h : ScQ w S p X out k) (hb : Below w.heap.size w w') : ScQ w' S p X out k := by
  obtain ⟨ad, v, h⟩ := h; exact ⟨ad, v, h.keep hb⟩
theorem ScQ.drewN {w : World} {S : Nat → Prop} {p : Nat} {X : Src} {out : List UInt8} {k : Nat} (h : ScQ w S p X out k) (q : Nat) : ScQ (w.drewN q) S p X out k := h.keep (below_drewN (Below.refl _ _) q)
theorem IsSc.cells {w : World} {S : Nat → Prop} {p : Nat} {X : Src} {out : List UInt8} {k : Nat} {ad v : Value} (h : IsSc w S p X out k ad v) :
    w.cell? ⟨p, 0, none⟩ = some ad ∧ w.cell? ⟨p, 1, none⟩ = some v ∧ w.cell? ⟨p, 2, none⟩ = some (.slice X.a X.bs.length X.cap) ∧ w.cell? ⟨p, 3, none⟩ = some (.int .i64 k) ∧ w.cell? ⟨p, 4, none⟩ = some (.bool X.last) := by
  refine ⟨?_, ?_, ?_, ?_, ?_⟩ <;> (rw [cell_of_row w p _ _ _ _ h.blk]; rfl)
theorem IsSc.free {w : World} {S : Nat → Prop} {p : Nat} {X : Src} {out : List UInt8} {k : Nat} {ad v : Value} (h : IsSc w S p X out k ad v) (j : Nat) : w.frozen? ⟨p, j, none⟩ = false := frozen_of_row w p j _ _ h.blk
theorem IsSc.byte {w : World} {S : Nat → Prop} {p : Nat} {X : Src} {out : List UInt8} {k : Nat} {ad v : Value} (h : IsSc w S p X out k ad v) (hk : k < X.bs.length) :
    ∃ b off, X.a = some ⟨b, off, none⟩ ∧ w.cell? ⟨b, off + k, none⟩ = some (u8C (X.bs.getD k 0)) := by
  obtain ⟨b, off, ha, _, hc⟩ := h.src.at 0 k hk
  exact ⟨b, off, ha, hc k hk⟩

/-- The place is moved. -/
theorem IsSc.move {w : World} {S : Nat → Prop} {p : Nat} {X : Src} {out : List UInt8} {k : Nat} {ad v : Value} (h : IsSc w S p X out k ad v) (k' : Nat) (hk : k' ≤ X.bs.length) (hk2 : k ≤ k') : ScNext w S p X out k' (w.setCell ⟨p, 3, none⟩ (.int .i64 k')) := by
  have hb : w.heap[p]? = some (.cells (scV X ad v k) 74 (0, 0)) := h.blk
  have hp := (h.lt p h.own).2
  refine ⟨S, ⟨ad, v, ⟨?_, h.ad_, ?_, h.at_, h.own, fun b hS => by have := h.lt b hS; simpa using this, ?_, h.srcb, hk, h.small, by have := h.outl; omega, h.nil_⟩⟩, (Keeps.refl S w).setCell (.inl h.own) _, fun _ hS => .inl hS⟩
  · rw [heap_setCell_same _ _ 3 _ _ _ hb]; rfl
  · exact ownsRow_setCell_other h.row (a := ⟨p, 3, none⟩) (fun e => by have := (h.row.lt p e).1; omega) _
  · exact h.src.keeps (S := fun b => b = p) ((Keeps.refl (fun b => b = p) w).setCell (a := ⟨p, 3, none⟩) (.inl rfl) _) (fun x hx e => by have := h.srcb x hx; omega)

def peekV (X : Src) (k : Nat) : Value := if k < X.bs.length then .tuple #[u8C (X.bs.getD k 0), .bool true] else .tuple #[.int .u8 0, .bool false]
set_option maxHeartbeats 1000000 in
theorem peek_any {w : World} {S : Nat → Prop} {p : Nat} {X : Src} {out : List UInt8} {k : Nat} (h : ScQ w S p X out k) :
    Calls Tryz.prog 58 #[.pointer (some ⟨p, 0, none⟩)] w fun e w' => e = .returned (peekV X k) ∧ ∃ q, w' = w.drewN q := by
  obtain ⟨ad, v, h⟩ := h
  obtain ⟨c0, c1, c2, c3, c4⟩ := h.cells
  have hsm := h.small
  have hle := h.le
  obtain ⟨V, hV⟩ : ∃ V, V = peekV X k := ⟨_, rfl⟩
  rw [← hV]
  unfold peekV at hV
  by_cases hk : k < X.bs.length
  · obtain ⟨b, off, ha, hc⟩ := h.byte hk
    rw [if_pos hk] at hV
    have HV := Lib.hid hV
    rw [ha] at c2
    unfold u8C at hc HV
    generalize (X.bs.getD k 0).toNat = x at *
    generalize X.bs.length = n at *
    have hkd : decide ((n : Int) ≤ k) = false := decide_eq_false (by omega)
    have hki : (k : Int) < n := by omega
    clear hV h ha
    go_enter Tryz.func58, Tryz.ntmps58
    go_wp2
    go_quiet (fail)
    go_wp2
    go_quiet (fail)
    go_wp2
    go_ret2
    exact ⟨by rw [HV.out]; rfl, by simp only [World.drewN_drewN]; exact ⟨_, rfl⟩⟩
  · rw [if_neg hk] at hV
    have HV := Lib.hid hV
    generalize X.bs.length = n at *
    have hkd : decide ((n : Int) ≤ k) = true := decide_eq_true (by omega)
    clear hV h
    go_enter Tryz.func58, Tryz.ntmps58
    go_wp2
    go_quiet (fail)
    go_wp2
    go_ret2
    exact ⟨by rw [HV.out]; rfl, _, rfl⟩
theorem open_any {w : World} {S : Nat → Prop} {p : Nat} {X : Src} {out : List UInt8} {k : Nat} (h : ScQ w S p X out k) :
    Calls Tryz.prog 59 #[.pointer (some ⟨p, 0, none⟩)] w fun e w' => e = .returned (.int .i64 (openE X.last)) ∧ w = w' := by
  obtain ⟨ad, v, h⟩ := h
  obtain ⟨-, -, -, -, c4⟩ := h.cells
  have HV := Lib.hid (show openE X.last = if X.last = true then 10 else 6 by unfold openE; cases X.last <;> rfl)
  clear h
  generalize openE X.last = V at *
  generalize X.last = l at *
  cases l
  all_goals
    go_enter Tryz.func59, Tryz.ntmps59
    go_wp2
    go_ret
    exact ⟨ret_int (by rw [HV.out]; rfl), rfl⟩
end Go.Proofs.YtnkodejgiabamaaGreat
/-
  Walks of layer 10: a byte is put behind what a scanner has put together; what it has put together.
-/
namespace Go.Proofs.YtnkodejgiabamaaGreat
open Go.RowKit

theorem infoBuilder : (Tryz.prog.info? 72).map (·.size) = some 2 := by kernel_rfl
theorem liesBuilder : liesAt Tryz.prog Tryz.prog.depth 74 (5 / Tryz.prog.cellsOf 74) 0 72 1 = true := by kernel_rfl
theorem EByte : ElemT Tryz.prog 22 5 (.int .u8 0) 1 1 := ⟨Tryz.underlying22, by kernel_rfl, rfl, by omega⟩
theorem cellsByte : Tryz.prog.cellsOf 5 = 1 := by kernel_rfl

/-- What copyCheck leaves. -/
def Chk (w : World) (S : Nat → Prop) (p : Nat) (X : Src) (out : List UInt8) (k : Nat) (v : Value) (e : Ending) (w' : World) : Prop :=
  e = .returned (.tuple #[]) ∧ IsSc w' S p X out k (.pointer (some ⟨p, 0, none⟩)) v ∧ Keeps S w w' ∧ w'.heap.size = w.heap.size

theorem IsSc.mark {w : World} {S : Nat → Prop} {p : Nat} {X : Src} {out : List UInt8} {k : Nat} {ad v : Value} (h : IsSc w S p X out k ad v) :
    IsSc (w.setCell ⟨p, 0, none⟩ (.pointer (some ⟨p, 0, none⟩))) S p X out k (.pointer (some ⟨p, 0, none⟩)) v := by
  have hp := (h.lt p h.own).2
  refine ⟨?_, .inr rfl, ownsRow_setCell_other h.row (a := ⟨p, 0, none⟩) (fun e => by have := (h.row.lt p e).1; omega) _, h.at_, h.own, fun b hS => by have := h.lt b hS; simpa using this, ?_, h.srcb, h.le, h.small, h.outl, h.nil_⟩
  · rw [heap_setCell_same _ _ 0 _ _ _ h.blk]; rfl
  · exact h.src.keeps (S := fun b => b = p) ((Keeps.refl (fun b => b = p) w).setCell (a := ⟨p, 0, none⟩) (.inl rfl) _) (fun x hx e => by have := h.srcb x hx; omega)

set_option maxRecDepth 100000 in
set_option maxHeartbeats 1000000 in
theorem copyCheck_any {w : World} {S : Nat → Prop} {p : Nat} {X : Src} {out : List UInt8} {k : Nat} {ad v : Value} (h : IsSc w S p X out k ad v) :
    Calls Tryz.prog 83 #[.pointer (some ⟨p, 0, none⟩)] w (Chk w S p X out k v) := by
  obtain ⟨j, hj, hjs⟩ := Option.map_eq_some_iff.1 infoBuilder
  obtain ⟨c0, -⟩ := h.cells
  have hfz := h.free 0
  have hsh : w.shape? p = some (74, 5) := by have := h.blk; simp [World.shape?, this, scV]
  rcases h.ad_ with rfl | rfl
  · have HM := Lib.hid h.mark
    have HK := Lib.hid ((Keeps.refl S w).setCell (a := ⟨p, 0, none⟩) (.inl h.own) (.pointer (some ⟨p, 0, none⟩)))
    clear h
    go_enter Tryz.func83, Tryz.ntmps83
    go_wp2
    rw [Lib.run_to_unsafe w ⟨p, 0, none⟩ Tryz.underlying70 Tryz.underlying131 hj (by rw [hjs]; decide) hsh (Nat.succ_pos 4)]
    simp only [Result.andThen]
    rw [Oper.upon_value]
    go_wp2
    rw [run_callFunc_extern Tryz.func93 (by kernel_rfl) (by kernel_rfl) (by kernel_rfl) (e := Extern.AbiNoEscape.same) (by kernel_rfl)]
    rw [Lib.run_noEscape]
    simp only [Result.andThen]
    rw [Oper.upon_value]
    go_wp2
    rw [Lib.run_from_unsafe w ⟨p, 0, none⟩ Tryz.underlying131 Tryz.underlying70 hj hsh liesBuilder]
    simp only [Result.andThen]
    rw [Oper.upon_value]
    go_wp2
    go_end0
    exact ⟨rfl, HM.out, HK.out, by simp⟩
  · have HM := Lib.hid h
    clear h
    go_enter Tryz.func83, Tryz.ntmps83
    go_wp2
    rw [Lib.run_neq_ptr_same w _ Tryz.underlying70 hj]
    go_wp2
    go_end0
    exact ⟨rfl, HM.out, Keeps.refl _ _, rfl⟩

theorem IsSc.put {w w2 : World} {S : Nat → Prop} {p : Nat} {X : Src} {out : List UInt8} {k : Nat} {v v' : Value} (c : UInt8) (hk : out.length < k) (h : IsSc w S p X out k (.pointer (some ⟨p, 0, none⟩)) v) (o : Obj)
    (hr : w2.ownsRow (p + 1) 5 1 v' (out.length + 1) (out.map u8C ++ [u8C c])) (hg : (w.alloc o).grownBy w2 v.ownBlock) (hn : NewAt (w.alloc o) v v') :
    ScNext w S p X (out ++ [c]) k (w2.setCell ⟨p, 1, none⟩ v') := by
  have hp := (h.lt p h.own).2
  have hvb : ∀ b, v.ownBlock = some b → p < b := fun b hb => (h.row.lt b hb).1
  have h1 : w2.heap[p]? = some (.cells (scV X (.pointer (some ⟨p, 0, none⟩)) v k) 74 (0, 0)) :=
    (hg.block p (by rw [sizeA]; omega) (fun e => by have := hvb p e.symm; omega)).trans ((Below.heap_alloc w o p hp).trans h.blk)
  have hk1 : Keeps S w w2 := ((Keeps.refl S w).alloc o).grown hg (fun k hk => .inl (h.at_ k hk))
  have hk2 := hk1.setCell (a := ⟨p, 1, none⟩) (.inl h.own) v'
  have hsz := hk2.size
  refine ⟨fun b => S b ∨ (p ≤ b ∧ w.heap.size ≤ b ∧ b < (w2.setCell ⟨p, 1, none⟩ v').heap.size), ⟨.pointer (some ⟨p, 0, none⟩), v', ⟨?_, .inr rfl, ?_, fun b hb => ?_, .inl h.own, fun b hb => ?_, ?_, h.srcb, h.le, h.small, by simp; omega, fun e => by simp at e⟩⟩, hk2, fun b hb => ?_⟩
  · rw [heap_setCell_same _ _ 1 _ _ _ h1]; rfl
  · have := ownsRow_setCell_other hr (a := ⟨p, 1, none⟩) (fun e => by have := (hr.lt p e).1; omega) v'
    simpa using this
  · have hlt := (hr.lt b hb)
    rcases hn b hb with h2 | h2
    · exact .inl (h.at_ b h2)
    · rw [sizeA] at h2
      exact .inr ⟨by omega, by omega, by simpa using hlt.2⟩
  · rcases hb with hb | hb
    · have := h.lt b hb; omega
    · exact ⟨hb.1, hb.2.2⟩
  · exact h.src.keeps hk2 (fun x hx e => by have h1 := h.srcb x hx; have h2 := (h.lt x.block e).1; omega)
  · rcases hb with hb | hb
    · exact .inl hb
    · exact .inr hb.2.1

set_option maxRecDepth 100000 in
set_option maxHeartbeats 1000000 in
theorem writeByte_any {w : World} {S : Nat → Prop} {p : Nat} {X : Src} {out : List UInt8} {k : Nat} (h : ScQ w S p X out k) (c : UInt8) (x : Int) (hx : x = (c.toNat : Int)) (hk : out.length < k) :
    Calls Tryz.prog 64 #[.pointer (some ⟨p, 0, none⟩), .int .u8 x] w fun e w' => e = .returned .nilIface ∧ ScNext w S p X (out ++ [c]) k w' := by
  obtain ⟨ad, v, h⟩ := h
  have HC := Lib.hid (copyCheck_any h)
  unfold Chk at HC
  have hXC : Value.int .u8 x = u8C c := by rw [hx]; rfl
  have HX := Lib.hid hXC
  have hsm := h.small
  have hle := h.le
  have hol := h.outl
  clear h hx hXC
  go_enter Tryz.func64, Tryz.ntmps64
  go_wp2_with fail
  refine HC.out.mono ?_
  rintro e w1 ⟨rfl, h1, hk1, hs1⟩
  have H1 := Lib.hid h1
  have HK1 := Lib.hid hk1
  have HS1 := Lib.hid hs1
  obtain ⟨-, c1, -⟩ := h1.cells
  have hf1 := h1.free 1
  have hp1 := (h1.lt p h1.own).2
  clear h1 hk1 hs1
  go_wp2_with (at_builtin; refine append_at EByte rfl (.tmp 11) (.tmp 13) rfl (p + 1) _ out.length _ rfl (H1.out.row.alloc _) _ 1 _ _ rfl (row_new1 _ _ _) (one_mem rfl) (by unfold maxLen; omega) (by omega) (by rw [sizeA]; omega) ?_; intro v' w2 hO2 hg2 hn2; obtain ⟨a', cap', hv', -⟩ := Row.of_owns hO2; subst hv'; rw [HX.out] at hO2; have HN := Lib.hid (H1.out.put c hk _ hO2 hg2 hn2); have hp2 : p < w2.heap.size := (by have := hg2.size; rw [sizeA] at this; omega); have hfz2 : w2.frozen? ⟨p, 1, none⟩ = false := (frozen_of_row w2 p 1 _ _ ((hg2.block p (by rw [sizeA]; omega) (fun e => by have := (H1.out.row.lt p e.symm).1; omega)).trans ((Below.heap_alloc w1 _ p hp1).trans H1.out.blk))); have hc2 : w2.cell? ⟨p, 1, none⟩ = some v := ((cell_of_row w2 p 1 _ _ _ ((hg2.block p (by rw [sizeA]; omega) (fun e => by have := (H1.out.row.lt p e.symm).1; omega)).trans ((Below.heap_alloc w1 _ p hp1).trans H1.out.blk))).trans rfl); clear hO2 hg2 hn2)
  go_ret
  exact ⟨rfl, ScNext.trans HK1.out (fun b hb => .inl hb) HN.out⟩
end Go.Proofs.YtnkodejgiabamaaGreat
