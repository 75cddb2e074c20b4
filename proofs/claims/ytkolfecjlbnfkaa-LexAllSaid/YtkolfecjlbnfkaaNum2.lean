/-
  Walks of layer 9: what it calls of package strings (a prefix of one byte, a cut at one byte).
-/
import Derived.Test.YtkolfecjlbnfkaaNum
import Derived.Lib.Bytealg
namespace Go.Proofs.Ytkolfecjlbnfkaa
open Go.RowKit

theorem idx_none : ∀ (l : List UInt8) (c : UInt8), Lib.indexByte l c = -1 → c ∉ l
  | [], _, _ => by simp
  | b :: l, c, h => by
    have hg := Lib.indexByte_ge l c
    unfold Lib.indexByte at h
    split at h
    · omega
    · rename_i hb
      split at h
      · rename_i h1
        have := idx_none l c (by simpa using h1)
        simp at hb
        simp [this, Ne.symm hb]
      · rename_i h1
        simp at h1; omega
theorem idx_some : ∀ (l : List UInt8) (c : UInt8) (i : Nat), Lib.indexByte l c = (i : Int) → ∃ w t, l = w ++ c :: t ∧ w.length = i ∧ c ∉ w
  | [], _, _, h => by unfold Lib.indexByte at h; omega
  | b :: l, c, i, h => by
    have hg := Lib.indexByte_ge l c
    unfold Lib.indexByte at h
    split at h
    · rename_i hb
      have : b = c := by simpa using hb
      exact ⟨[], l, by simp [this], by simp; omega, by simp⟩
    · rename_i hb
      split at h
      · omega
      · rename_i h1
        simp at h1
        obtain ⟨w, t, e1, e2, e3⟩ := idx_some l c (i - 1) (by omega)
        simp at hb
        exact ⟨b :: w, t, by simp [e1], by simp; omega, by simp [e3, Ne.symm hb]⟩

set_option maxHeartbeats 1000000 in
theorem sidx_any (s : ByteArray) (c : Int) (w : World) :
    Calls Try.prog 37 #[.string s, .int .u8 c] w fun e w' => e = .returned (.int .i64 (Lib.indexByte (bl s) c.toNat.toUInt8)) ∧ w = w' := by
  go_enter Try.func37, Try.ntmps37
  go_wp2
  rw [run_callFunc_extern Try.func48 (by kernel_rfl) (by kernel_rfl) (by kernel_rfl) (e := Extern.BytealgIndexByte.indexByte) (by kernel_rfl), Lib.run_indexByteString]
  simp only [Result.andThen]
  rw [Oper.upon_value]
  go_wp2
  go_ret
  exact ⟨rfl, rfl⟩

set_option maxHeartbeats 1000000 in
theorem sidx2_any (s : ByteArray) (c : Int) (w : World) :
    Calls Try.prog 26 #[.string s, .int .u8 c] w fun e w' => e = .returned (.int .i64 (Lib.indexByte (bl s) c.toNat.toUInt8)) ∧ w = w' := by
  go_enter Try.func26, Try.ntmps26
  go_wp2_with (go_at_call 37; refine (sidx_any _ _ _).mono ?_; rintro e w' ⟨rfl, rfl⟩)
  go_ret
  exact ⟨rfl, rfl⟩

set_option maxHeartbeats 1000000 in
theorem index46_any (s : ByteArray) (w : World) :
    Calls Try.prog 62 #[.string s, .string ⟨#[46]⟩] w fun e w' => e = .returned (.int .i64 (Lib.indexByte (bl s) 46)) ∧ w = w' := by
  obtain ⟨V, hV⟩ : ∃ V, V = Lib.indexByte (bl s) 46 := ⟨_, rfl⟩
  rw [← hV]
  have HV := Lib.hid hV
  clear hV
  by_cases h : s.toList = [46]
  · have HE := Lib.hid (show V = 0 by rw [HV.out, ← toL, h]; rfl)
    go_enter Try.func62, Try.ntmps62
    go_wp2
    go_ret
    exact ⟨ret_int HE.out.symm, rfl⟩
  · have h2 : ([46] == s.toList) = false := by rw [beq_eq_false_iff_ne]; exact fun e => h e.symm
    clear h
    go_enter Try.func62, Try.ntmps62
    go_wp2_with (go_at_call 37; refine (sidx_any _ _ _).mono ?_; rintro e w' ⟨rfl, rfl⟩)
    go_ret
    exact ⟨ret_int HV.out.symm, rfl⟩

def CutEnd (s : ByteArray) (w : World) (e : Ending) (w' : World) : Prop :=
  ∃ W R : ByteArray, e = .returned (.tuple #[.string W, .string R, .bool (hasPt (bl s))]) ∧ bl W = wholeOf (bl s) ∧ bl R = restOf (bl s) ∧ W.size ≤ s.size ∧ R.size ≤ s.size ∧ ∃ q, w' = w.drewN q

theorem bl_ext (s : ByteArray) (i j : Nat) : bl (s.extract i j) = ((bl s).drop i).take (j - i) := by
  unfold bl; rw [ByteArray.data_extract, Array.toList_extract]
theorem bl_to (s : ByteArray) (i : Nat) : bl (s.extract 0 i) = (bl s).take i := by rw [bl_ext]; rfl
theorem bl_from (s : ByteArray) (i : Nat) : bl (s.extract i s.size) = (bl s).drop i := by
  rw [bl_ext, List.take_of_length_le]
  rw [List.length_drop, bl_len]; exact Nat.le_refl _

theorem ret_tup3 {a b a' b' : ByteArray} {p p' : Bool} (h1 : a = a') (h2 : b = b') (h3 : p = p') : Ending.returned (.tuple #[.string a, .string b, .bool p]) = Ending.returned (.tuple #[.string a', .string b', .bool p']) := by rw [h1, h2, h3]

set_option maxHeartbeats 1000000 in
theorem cut1_any (s : ByteArray) (w : World) (hs : s.size ≤ 4611686018427387904) :
    Calls Try.prog 59 #[.string s, .string ⟨#[46]⟩] w (CutEnd s w) := by
  have hge := Lib.indexByte_ge (bl s) 46
  by_cases hneg : Lib.indexByte (bl s) 46 = -1
  · have hn := idx_none _ _ hneg
    obtain ⟨t1, t2, t3⟩ := tw_none (bl s) (fun x hx e => hn (e ▸ hx))
    have HT := Lib.hid (And.intro t1 (And.intro t2 t3))
    clear t1 t2 t3 hn hge
    go_enter Try.func59, Try.ntmps59
    go_wp2_with (go_at_call 62; refine (index46_any _ _).mono ?_; rintro e w' ⟨rfl, rfl⟩; rw [hneg])
    go_ret3
    exact ⟨s, ⟨#[]⟩, ret_tup3 rfl rfl HT.out.2.2.symm, HT.out.1.symm, HT.out.2.1.symm, Nat.le_refl _, Nat.zero_le _, 0, rfl⟩
  · obtain ⟨i, hi⟩ := Int.eq_ofNat_of_zero_le (show 0 ≤ Lib.indexByte (bl s) 46 by omega)
    obtain ⟨a, t, e1, e2, e3⟩ := idx_some _ _ _ hi
    have hlen := congrArg List.length e1
    rw [bl_len] at hlen
    simp only [List.length_append, List.length_cons, e2] at hlen
    have hlt : i < s.size := by omega
    obtain ⟨t1, t2, t3⟩ := tw_app a t (fun x hx e => e3 (e ▸ hx))
    have h1 : bl (s.extract 0 i) = wholeOf (bl s) := by rw [bl_to, e1, t1, ← e2]; simp
    have h2 : bl (s.extract (i + 1) s.size) = restOf (bl s) := by
      rw [bl_from, e1, t2, ← e2, List.drop_append, Nat.add_sub_cancel_left, List.drop_of_length_le (by omega)]; rfl
    have HT := Lib.hid (And.intro h1 (And.intro h2 (show hasPt (bl s) = true by rw [e1]; exact t3)))
    have HI := Lib.hid hi
    clear t1 t2 t3 h1 h2 e1 e2 e3 hlen hge hi hneg
    go_enter Try.func59, Try.ntmps59
    go_wp2_with (go_at_call 62; refine (index46_any _ _).mono ?_; rintro e w' ⟨rfl, rfl⟩; rw [HI.out])
    go_quiet (fail)
    go_wp2
    go_ret3
    exact ⟨_, _, ret_tup3 rfl rfl HT.out.2.2.symm, HT.out.1, HT.out.2.1, by rw [ByteArray.size_extract]; omega, by rw [ByteArray.size_extract]; omega, _, rfl⟩

set_option maxHeartbeats 1000000 in
theorem cut_any (s : ByteArray) (w : World) (hs : s.size ≤ 4611686018427387904) :
    Calls Try.prog 50 #[.string s, .string ⟨#[46]⟩] w (CutEnd s w) := by
  have HC := Lib.hid (fun W => cut1_any s W hs)
  go_enter Try.func50, Try.ntmps50
  go_wp2_with (go_at_call 59; refine (HC.out _).mono ?_; rintro e w' ⟨W, R, rfl, h1, h2, h3, h4, q, rfl⟩; have H1 := Lib.hid h1; have H2 := Lib.hid h2; clear h1 h2)
  go_ret3
  exact ⟨W, R, rfl, H1.out, H2.out, h3, h4, q, rfl⟩

def hd1 (s : ByteArray) (c : UInt8) : Bool := decide ((bl s).head? = some c)
set_option maxHeartbeats 1000000 in
theorem pre1_any (s : ByteArray) (c : UInt8) (w : World) (hs : s.size ≤ 4611686018427387904) :
    Calls Try.prog 58 #[.string s, .string ⟨#[c]⟩] w fun e w' => e = .returned (.bool (hd1 s c)) ∧ w = w' := by
  by_cases h0 : 0 < s.size
  · have hx : (s.extract 0 1).toList = [s[0]] := by
      rw [toL, bl_to]
      have := bl_take s 0 h0
      simpa using this
    have HV := Lib.hid (show hd1 s c = (s[0] == c) by
      unfold hd1
      have h1 := bl_drop s 0 h0
      rw [List.drop_zero] at h1
      rw [h1, List.head?_cons, Bool.eq_iff_iff]
      simp)
    have h1 : (1 : Int) ≤ s.size := by omega
    have h1d : decide (1 ≤ s.size) = true := decide_eq_true (by omega)
    go_enter Try.func58, Try.ntmps58
    go_wp2
    go_ret
    exact ⟨ret_bool HV.out.symm, rfl⟩
  · have h1 : ¬ (1 : Int) ≤ s.size := by omega
    have h1d : decide ((1 : Int) ≤ s.size) = false := by simpa using h1
    have h1e : decide (1 ≤ s.size) = false := decide_eq_false (by omega)
    have HV := Lib.hid (show hd1 s c = false by
      unfold hd1
      have h1 : bl s = [] := List.eq_nil_of_length_eq_zero (by rw [bl_len]; omega)
      rw [h1]; rfl)
    go_enter Try.func58, Try.ntmps58
    go_wp2
    go_ret
    exact ⟨ret_bool HV.out.symm, rfl⟩
set_option maxHeartbeats 1000000 in
theorem pre_any (s : ByteArray) (c : UInt8) (w : World) (hs : s.size ≤ 4611686018427387904) :
    Calls Try.prog 49 #[.string s, .string ⟨#[c]⟩] w fun e w' => e = .returned (.bool (hd1 s c)) ∧ w = w' := by
  have HC := Lib.hid (fun W => pre1_any s c W hs)
  go_enter Try.func49, Try.ntmps49
  go_wp2_with (go_at_call 58; refine (HC.out _).mono ?_; rintro e w' ⟨rfl, rfl⟩)
  go_ret
  exact ⟨rfl, rfl⟩
end Go.Proofs.Ytkolfecjlbnfkaa
