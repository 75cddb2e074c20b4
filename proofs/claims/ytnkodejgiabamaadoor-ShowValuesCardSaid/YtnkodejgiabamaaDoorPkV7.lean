/-
  Our texts Num2 to Num3, in one.
-/
import Derived.Test.YtnkodejgiabamaaDoorPkV6
import Derived.Lib.Bytealg
/-
  Walks of layer 9: what it calls of package strings (a prefix of one byte, a cut at one byte).
-/
namespace Go.Proofs.YtnkodejgiabamaaDoor
open Go.RowKit

theorem idx_none : ∀ (l : List UInt8) (c : UInt8), Lib.indexByte l c = -1 → c ∉ l
  | [], _, _ => by simp
  | b :: l, c, h => by
    have hg := Lib.indexByte_ge l c
    unfold Lib.indexByte at h
    split at h
    · omega
    · rename_i hb
      split at h
      · rename_i h1
        have := idx_none l c (by simpa using h1)
        simp at hb
        simp [this, Ne.symm hb]
      · rename_i h1
        simp at h1; omega
theorem idx_some : ∀ (l : List UInt8) (c : UInt8) (i : Nat), Lib.indexByte l c = (i : Int) → ∃ w t, l = w ++ c :: t ∧ w.length = i ∧ c ∉ w
  | [], _, _, h => by unfold Lib.indexByte at h; omega
  | b :: l, c, i, h => by
    have hg := Lib.indexByte_ge l c
    unfold Lib.indexByte at h
    split at h
    · rename_i hb
      have : b = c := by simpa using hb
      exact ⟨[], l, by simp [this], by simp; omega, by simp⟩
    · rename_i hb
      split at h
      · omega
      · rename_i h1
        simp at h1
        obtain ⟨w, t, e1, e2, e3⟩ := idx_some l c (i - 1) (by omega)
        simp at hb
        exact ⟨b :: w, t, by simp [e1], by simp; omega, by simp [e3, Ne.symm hb]⟩

set_option maxRecDepth 100000 in
set_option maxHeartbeats 1000000 in
theorem sidx_any (s : ByteArray) (c : Int) (w : World) :
    Calls Tryd.prog 64 #[.string s, .int .u8 c] w fun e w' => e = .returned (.int .i64 (Lib.indexByte (bl s) c.toNat.toUInt8)) ∧ w = w' := by
  go_enter Tryd.func64, Tryd.ntmps64
  go_wp2
  rw [run_callFunc_extern Tryd.func75 (by kernel_rfl) (by kernel_rfl) (by kernel_rfl) (e := Extern.BytealgIndexByte.indexByte) (by kernel_rfl), Lib.run_indexByteString]
  simp only [Result.andThen]
  rw [Oper.upon_value]
  go_wp2
  go_ret
  exact ⟨rfl, rfl⟩

set_option maxHeartbeats 1000000 in
theorem sidx2_any (s : ByteArray) (c : Int) (w : World) :
    Calls Tryd.prog 47 #[.string s, .int .u8 c] w fun e w' => e = .returned (.int .i64 (Lib.indexByte (bl s) c.toNat.toUInt8)) ∧ w = w' := by
  go_enter Tryd.func47, Tryd.ntmps47
  go_wp2_with (go_at_call 64; refine (sidx_any _ _ _).mono ?_; rintro e w' ⟨rfl, rfl⟩)
  go_ret
  exact ⟨rfl, rfl⟩

def CutEnd (s : ByteArray) (w : World) (e : Ending) (w' : World) : Prop :=
  ∃ W R : ByteArray, e = .returned (.tuple #[.string W, .string R, .bool (hasPt (bl s))]) ∧ bl W = wholeOf (bl s) ∧ bl R = restOf (bl s) ∧ W.size ≤ s.size ∧ R.size ≤ s.size ∧ ∃ q, w' = w.drewN q

theorem bl_ext (s : ByteArray) (i j : Nat) : bl (s.extract i j) = ((bl s).drop i).take (j - i) := by
  unfold bl; rw [ByteArray.data_extract, Array.toList_extract]
theorem bl_to (s : ByteArray) (i : Nat) : bl (s.extract 0 i) = (bl s).take i := by rw [bl_ext]; rfl
theorem bl_from (s : ByteArray) (i : Nat) : bl (s.extract i s.size) = (bl s).drop i := by
  rw [bl_ext, List.take_of_length_le]
  rw [List.length_drop, bl_len]; exact Nat.le_refl _

theorem ret_tup3 {a b a' b' : ByteArray} {p p' : Bool} (h1 : a = a') (h2 : b = b') (h3 : p = p') : Ending.returned (.tuple #[.string a, .string b, .bool p]) = Ending.returned (.tuple #[.string a', .string b', .bool p']) := by rw [h1, h2, h3]

def hd1 (s : ByteArray) (c : UInt8) : Bool := decide ((bl s).head? = some c)
set_option maxHeartbeats 1000000 in
theorem pre1_any (s : ByteArray) (c : UInt8) (w : World) (hs : s.size ≤ 4611686018427387904) :
    Calls Tryd.prog 87 #[.string s, .string ⟨#[c]⟩] w fun e w' => e = .returned (.bool (hd1 s c)) ∧ w = w' := by
  by_cases h0 : 0 < s.size
  · have hx : (s.extract 0 1).toList = [s[0]] := by
      rw [toL, bl_to]
      have := bl_take s 0 h0
      simpa using this
    have HV := Lib.hid (show hd1 s c = (s[0] == c) by
      unfold hd1
      have h1 := bl_drop s 0 h0
      rw [List.drop_zero] at h1
      rw [h1, List.head?_cons, Bool.eq_iff_iff]
      simp)
    have h1 : (1 : Int) ≤ s.size := by omega
    have h1d : decide (1 ≤ s.size) = true := decide_eq_true (by omega)
    go_enter Tryd.func87, Tryd.ntmps87
    go_wp2
    go_ret
    exact ⟨ret_bool HV.out.symm, rfl⟩
  · have h1 : ¬ (1 : Int) ≤ s.size := by omega
    have h1d : decide ((1 : Int) ≤ s.size) = false := by simpa using h1
    have h1e : decide (1 ≤ s.size) = false := decide_eq_false (by omega)
    have HV := Lib.hid (show hd1 s c = false by
      unfold hd1
      have h1 : bl s = [] := List.eq_nil_of_length_eq_zero (by rw [bl_len]; omega)
      rw [h1]; rfl)
    go_enter Tryd.func87, Tryd.ntmps87
    go_wp2
    go_ret
    exact ⟨ret_bool HV.out.symm, rfl⟩
set_option maxHeartbeats 1000000 in
theorem pre_any (s : ByteArray) (c : UInt8) (w : World) (hs : s.size ≤ 4611686018427387904) :
    Calls Tryd.prog 78 #[.string s, .string ⟨#[c]⟩] w fun e w' => e = .returned (.bool (hd1 s c)) ∧ w = w' := by
  have HC := Lib.hid (fun W => pre1_any s c W hs)
  go_enter Tryd.func78, Tryd.ntmps78
  go_wp2_with (go_at_call 87; refine (HC.out _).mono ?_; rintro e w' ⟨rfl, rfl⟩)
  go_ret
  exact ⟨rfl, rfl⟩
end Go.Proofs.YtnkodejgiabamaaDoor
/-
  Walks of layer 10: bytes' kinds, in the program and in the reference.
-/
namespace Go.Proofs.YtnkodejgiabamaaDoor
open Go.RowKit

def spI (x : Int) : Bool := decide (x = 0 ∨ x = 9 ∨ x = 10 ∨ x = 12 ∨ x = 13 ∨ x = 32)
def dlI (x : Int) : Bool := decide (x = 40 ∨ x = 41 ∨ x = 60 ∨ x = 62 ∨ x = 91 ∨ x = 93 ∨ x = 123 ∨ x = 125 ∨ x = 47 ∨ x = 37)
theorem u8_eq (c : UInt8) (n : Nat) (hn : n < 256) : c = UInt8.ofNat n ↔ (c.toNat : Int) = (n : Int) := by
  constructor
  · rintro rfl; rw [UInt8.toNat_ofNat']; omega
  · intro h; apply UInt8.toNat_inj.1; rw [UInt8.toNat_ofNat']; omega
theorem spI_eq (c : UInt8) : isSp c = spI c.toNat := by
  unfold isSp spI
  rw [Bool.eq_iff_iff]
  simp only [Bool.or_eq_true, beq_iff_eq, decide_eq_true_iff, or_assoc]
  rw [show c = 0 ↔ _ from u8_eq c 0 (by omega), show c = 9 ↔ _ from u8_eq c 9 (by omega), show c = 10 ↔ _ from u8_eq c 10 (by omega), show c = 12 ↔ _ from u8_eq c 12 (by omega), show c = 13 ↔ _ from u8_eq c 13 (by omega), show c = 32 ↔ _ from u8_eq c 32 (by omega)]
  rfl
theorem dlI_eq (c : UInt8) : isDl c = dlI c.toNat := by
  unfold isDl dlI
  rw [Bool.eq_iff_iff]
  simp only [Bool.or_eq_true, beq_iff_eq, decide_eq_true_iff, or_assoc]
  rw [show c = 40 ↔ _ from u8_eq c 40 (by omega), show c = 41 ↔ _ from u8_eq c 41 (by omega), show c = 60 ↔ _ from u8_eq c 60 (by omega), show c = 62 ↔ _ from u8_eq c 62 (by omega), show c = 91 ↔ _ from u8_eq c 91 (by omega), show c = 93 ↔ _ from u8_eq c 93 (by omega), show c = 123 ↔ _ from u8_eq c 123 (by omega), show c = 125 ↔ _ from u8_eq c 125 (by omega), show c = 47 ↔ _ from u8_eq c 47 (by omega), show c = 37 ↔ _ from u8_eq c 37 (by omega)]
  rfl
def rgI (x : Int) : Bool := !spI x && !dlI x
theorem rgI_eq (c : UInt8) : isRg c = rgI c.toNat := by unfold isRg rgI; rw [spI_eq, dlI_eq]
def hexI (x : Int) : Int := if 48 ≤ x ∧ x ≤ 57 then x - 48 else if 97 ≤ x ∧ x ≤ 102 then x - 87 else if 65 ≤ x ∧ x ≤ 70 then x - 55 else -1
theorem hexI_eq (c : UInt8) : hexD c = hexI c.toNat := by
  unfold hexD hexI
  repeat' split
  all_goals omega

set_option maxHeartbeats 1000000 in
theorem rdelim_any (x : Int) (w : World) : Calls Tryd.prog 29 #[.int .u8 x] w fun e w' => e = .returned (.bool (dlI x)) ∧ w = w' := by
  obtain ⟨V, hV⟩ : ∃ V, V = dlI x := ⟨_, rfl⟩
  rw [← hV]
  have HV := Lib.hid hV
  clear hV
  by_cases h : x = 40 ∨ x = 41 ∨ x = 60 ∨ x = 62 ∨ x = 91 ∨ x = 93 ∨ x = 123 ∨ x = 125 ∨ x = 47 ∨ x = 37
  · have HL := Lib.hid (show V = true by rw [HV.out]; exact decide_eq_true h)
    rcases h with rfl | rfl | rfl | rfl | rfl | rfl | rfl | rfl | rfl | rfl
    all_goals
      go_enter Tryd.func29, Tryd.ntmps29
      go_wp2
      go_ret
      exact ⟨ret_bool HL.out.symm, rfl⟩
  · have HL := Lib.hid (show V = false by rw [HV.out]; exact decide_eq_false h)
    have e0 : (x == 40) = false := by rw [beq_eq_false_iff_ne]; omega
    have e1 : (x == 41) = false := by rw [beq_eq_false_iff_ne]; omega
    have e2 : (x == 60) = false := by rw [beq_eq_false_iff_ne]; omega
    have e3 : (x == 62) = false := by rw [beq_eq_false_iff_ne]; omega
    have e4 : (x == 91) = false := by rw [beq_eq_false_iff_ne]; omega
    have e5 : (x == 93) = false := by rw [beq_eq_false_iff_ne]; omega
    have e6 : (x == 123) = false := by rw [beq_eq_false_iff_ne]; omega
    have e7 : (x == 125) = false := by rw [beq_eq_false_iff_ne]; omega
    have e8 : (x == 47) = false := by rw [beq_eq_false_iff_ne]; omega
    have e9 : (x == 37) = false := by rw [beq_eq_false_iff_ne]; omega
    clear h
    go_enter Tryd.func29, Tryd.ntmps29
    go_wp2
    go_ret
    exact ⟨ret_bool HL.out.symm, rfl⟩

theorem dl_idx (c : UInt8) : decide (0 ≤ Lib.indexByte [40, 41, 60, 62, 91, 93, 123, 125, 47, 37] c) = dlI c.toNat := by
  rw [← dlI_eq]
  have hg := Lib.indexByte_ge [40, 41, 60, 62, 91, 93, 123, 125, 47, 37] c
  by_cases h : Lib.indexByte [40, 41, 60, 62, 91, 93, 123, 125, 47, 37] c = -1
  · have := idx_none _ _ h
    rw [h]
    simp at this
    simp [isDl, this]
  · obtain ⟨i, hi⟩ := Int.eq_ofNat_of_zero_le (show 0 ≤ Lib.indexByte [40, 41, 60, 62, 91, 93, 123, 125, 47, 37] c by omega)
    obtain ⟨a, t, e, -, -⟩ := idx_some _ _ _ hi
    have hm : c ∈ ([40, 41, 60, 62, 91, 93, 123, 125, 47, 37] : List UInt8) := by rw [e]; simp
    rw [hi, decide_eq_true (by omega)]
    simp at hm
    rcases hm with rfl | rfl | rfl | rfl | rfl | rfl | rfl | rfl | rfl | rfl <;> rfl
theorem u8_back (c : UInt8) : ((c.toNat : Int)).toNat.toUInt8 = c := by simp

set_option maxHeartbeats 1000000 in
theorem delim_any (c : UInt8) (w : World) : Calls Tryd.prog 59 #[.int .u8 c.toNat] w fun e w' => e = .returned (.bool (dlI c.toNat)) ∧ w = w' := by
  have HV := Lib.hid (dl_idx c)
  have hS := fun W => sidx2_any ⟨#[40, 41, 60, 62, 91, 93, 123, 125, 47, 37]⟩ (c.toNat : Int) W
  rw [u8_back] at hS
  have hS2 : ∀ W, Calls Tryd.prog 47 #[.string ⟨#[40, 41, 60, 62, 91, 93, 123, 125, 47, 37]⟩, .int .u8 c.toNat] W fun e w' => e = .returned (.int .i64 (Lib.indexByte [40, 41, 60, 62, 91, 93, 123, 125, 47, 37] c)) ∧ W = w' := hS
  have HS := Lib.hid hS2
  clear hS hS2
  generalize dlI c.toNat = V at *
  generalize Lib.indexByte [40, 41, 60, 62, 91, 93, 123, 125, 47, 37] c = I at *
  go_enter Tryd.func59, Tryd.ntmps59
  go_wp2_with (go_at_call 47; refine (HS.out _).mono ?_; rintro e w' ⟨rfl, rfl⟩)
  go_ret
  exact ⟨ret_bool HV.out, rfl⟩

end Go.Proofs.YtnkodejgiabamaaDoor
/-
  Show's writer: names and texts; what it has put together. (Printed by genshow.py.)
-/
namespace Go.Proofs.YtnkodejgiabamaaDoor
open Go.RowKit

def chF (c : UInt8) : List UInt8 := if c.toNat < 33 ∨ 126 < c.toNat ∨ c = 35 ∨ isDl c = true then 35 :: hexB c else [c]
theorem nameF_take : ∀ {l : List UInt8} {k : Nat} {c : UInt8}, l[k]? = some c → nameF (l.take (k + 1)) = nameF (l.take k) ++ chF c
  | [], _, _, h => by cases h
  | x :: l, 0, c, h => by
    have e : x = c := by simpa using h
    subst e
    simp [nameF, chF]
  | x :: l, k + 1, c, h => by
    have := nameF_take (l := l) (k := k) (c := c) (by simpa using h)
    simp only [List.take_succ_cons, nameF, this, List.append_assoc]
theorem nameF_len : ∀ l : List UInt8, (nameF l).length ≤ 3 * l.length
  | [] => Nat.le_refl _
  | c :: l => by
    have := nameF_len l
    simp only [nameF, List.length_append, List.length_cons]
    split
    · simp [hexB]; omega
    · simp; omega
theorem hexF_take : ∀ {l : List UInt8} {k : Nat} {c : UInt8}, l[k]? = some c → hexF (l.take (k + 1)) = hexF (l.take k) ++ hexB c
  | [], _, _, h => by cases h
  | x :: l, 0, c, h => by
    have e : x = c := by simpa using h
    subst e
    simp [hexF]
  | x :: l, k + 1, c, h => by
    have := hexF_take (l := l) (k := k) (c := c) (by simpa using h)
    simp only [List.take_succ_cons, hexF, this, List.append_assoc]
theorem hexF_len : ∀ l : List UInt8, (hexF l).length = 2 * l.length
  | [] => rfl
  | c :: l => by have := hexF_len l; simp [hexF, hexB, this]; omega
def brF (c : UInt8) : List UInt8 := if c = 40 ∨ c = 41 ∨ c = 92 then [92, c] else [c]
theorem bareF_take : ∀ {l : List UInt8} {k : Nat} {c : UInt8}, l[k]? = some c → bareF (l.take (k + 1)) = bareF (l.take k) ++ brF c
  | [], _, _, h => by cases h
  | x :: l, 0, c, h => by
    have e : x = c := by simpa using h
    subst e
    simp [bareF, brF]
  | x :: l, k + 1, c, h => by
    have := bareF_take (l := l) (k := k) (c := c) (by simpa using h)
    simp only [List.take_succ_cons, bareF, this, List.append_assoc]
theorem bareF_len : ∀ l : List UInt8, (bareF l).length ≤ 2 * l.length
  | [] => Nat.le_refl _
  | c :: l => by
    have := bareF_len l
    simp only [bareF, List.length_append, List.length_cons]
    split <;> (simp; omega)
theorem take_len_le (l : List UInt8) (k : Nat) : (l.take k).length ≤ l.length := by rw [List.length_take]; omega
theorem at_mkB {s : List UInt8} {k : Nat} (h : k < s.length) (h2 : k < (mkB s).size) : ((mkB s)[k]'h2).toNat = (s[k]'h).toNat := rfl
theorem eq35 {c : UInt8} : c = 35 ↔ c.toNat = 35 := by constructor <;> intro h; (subst h; rfl); (exact UInt8.toNat_inj.1 h)
theorem eqn {c : UInt8} (d : UInt8) : c = d ↔ c.toNat = d.toNat := ⟨fun h => by rw [h], fun h => UInt8.toNat_inj.1 h⟩

set_option maxRecDepth 8000 in
set_option maxHeartbeats 4000000 in
theorem nameW {w : World} {S : Nat → Prop} {p : Nat} {out : List UInt8} (h : WrQ w S p out) (s : List UInt8) (hl : out.length + 3 * s.length + 1 ≤ 10000000) :
    Calls Tryd.prog 39 #[.pointer (some ⟨p, 0, none⟩), .string (mkB s)] w fun e w' => e = .returned (.tuple #[]) ∧ WrNext w S p (out ++ 47 :: nameF s) w' := by
  have HA := Lib.hid (writeByteW h 47 47 rfl (by omega))
  have hsz : (mkB s).size = s.length := mkB_size s
  have hszi : ((mkB s).size : Int) = s.length := by rw [hsz]
  have HSZ := Lib.hid hsz
  have hm : (s.length : Int) ≤ 10000000 := by omega
  go_enter Tryd.func39, Tryd.ntmps39
  go_wp2_with fail
  refine HA.out.mono ?_
  rintro e w1 ⟨rfl, hN1⟩
  have HN1 := Lib.hid hN1
  clear hN1 HA
  go_wp2
  go_loopw [12] (fun vk wr => ∃ k : Nat, vk = .int .i64 k ∧ k ≤ s.length ∧ Hid (WrNext w S p ((out ++ [47]) ++ nameF (s.take k)) wr)) (fun vk _ => s.length - (intOf vk).toNat)
  case atStart => exact ⟨0, rfl, Nat.zero_le _, Lib.hid (by rw [List.take_zero]; simpa [nameF] using HN1.out)⟩
  case round =>
    obtain ⟨k, rfl, hk, HN⟩ := hrel
    by_cases q1 : k < s.length
    case neg =>
      have hd1 : decide (k < s.length) = false := decide_eq_false q1
      have hd2 : decide ((k : Int) < (s.length : Int)) = false := decide_eq_false (by omega)
      have hq2 : ¬ (k : Int) < (s.length : Int) := by omega
      have HE := Lib.hid (show WrNext w S p (out ++ 47 :: nameF s) wr by
        have h2 := HN.out
        rw [List.take_of_length_le (by omega), List.append_assoc] at h2
        exact h2)
      clear HN HN1
      go_wp2
      go_end0
      exact ⟨rfl, HE.out⟩
    have hd1 : decide (k < s.length) = true := decide_eq_true q1
    have hd2 : decide ((k : Int) < (s.length : Int)) = true := decide_eq_true (by omega)
    have hk0 : (0 : Int) ≤ (k : Int) := by omega
    have hk1 : (k : Int) < (s.length : Int) := by omega
    have hk2 : k < (mkB s).size := by omega
    obtain ⟨c, hc⟩ : ∃ c, c = s[k]'q1 := ⟨_, rfl⟩
    have hcs : s[k]? = some c := by rw [hc]; exact List.getElem?_eq_getElem q1
    have hT := nameF_take hcs
    have hlen : (nameF (s.take k)).length ≤ 3 * k := by
      have h1 := nameF_len (s.take k)
      rw [List.length_take] at h1
      omega
    have hol : ((out ++ [47]) ++ nameF (s.take k)).length + 3 ≤ 10000000 := by simp; omega
    obtain ⟨n, hn⟩ : ∃ n, n = c.toNat := ⟨_, rfl⟩
    have hat : ((mkB s)[k]'hk2).toNat = n := by rw [hn, hc]; exact at_mkB q1 hk2
    have HD := Lib.hid (fun W => delim_any c W)
    have HH := Lib.hid (fun (S1 : Nat → Prop) (W : World) (o : List UInt8) (hq : WrQ W S1 p o) (ho : o.length + 2 ≤ 10000000) => hexW hq c ho)
    have hdl : dlI (c.toNat : Int) = isDl c := (dlI_eq c).symm
    have hch : chF c = if n < 33 ∨ 126 < n ∨ n = 35 ∨ dlI (n : Int) = true then 35 :: hexB c else [c] := by
      unfold chF; rw [hn, hdl]; simp only [eq35]
    rw [← hn] at HD HH
    have HT := Lib.hid hT
    have HOL := Lib.hid hol
    have HNC := Lib.hid hn
    have HCH := Lib.hid hch
    clear hT hol hn hc hcs hdl hch hlen
    generalize dlI (n : Int) = d at *
    obtain ⟨S1, hq1, hk1', hs1⟩ := HN.out
    have HQ1 := Lib.hid hq1
    have HK1 := Lib.hid hk1'
    have HS1 := Lib.hid hs1
    clear hq1 hk1' hs1 HN HN1
    by_cases h1 : n < 33
    · have b1 : decide (n < 33) = true := decide_eq_true h1
      have b1' : decide ((n : Int) < 33) = true := decide_eq_true (by omega)
      have HCB := Lib.hid (show chF c = 35 :: hexB c by rw [HCH.out, if_pos (.inl h1)])
      clear HCH h1
      go_wp2_with (fail)
      refine (writeByteW HQ1.out 35 35 rfl (by have := HOL.out; omega)).mono ?_
      rintro e w2 ⟨rfl, hN2⟩
      obtain ⟨S2, hq2, hk2', hs2⟩ := hN2
      have HH2 := Lib.hid (HH.out S2 w2 _ hq2 (by have := HOL.out; simp at this ⊢; omega))
      clear hq2
      go_wp2_with fail
      refine HH2.out.mono ?_
      rintro e w3 ⟨rfl, hN3⟩
      have HN3 := Lib.hid (show WrNext w S p ((out ++ [47]) ++ nameF (s.take (k + 1))) w3 by
        rw [HT.out, HCB.out]
        have h3 := WrNext.trans HK1.out HS1.out (WrNext.trans hk2' hs2 hN3)
        rw [List.append_assoc _ [35]] at h3
        rw [← List.append_assoc (out ++ [47])]
        exact h3)
      clear hN3 hk2' hs2 HH2 HCB
      go_wp2
      go_roundw
      case rel => exact ⟨k + 1, by go_num, by omega, HN3⟩
      case measure => simp [intOf]; omega
    have b1 : decide (n < 33) = false := decide_eq_false h1
    have b1' : decide ((n : Int) < 33) = false := decide_eq_false (by omega)
    by_cases h2 : 126 < n
    · have b2 : decide (126 < n) = true := decide_eq_true h2
      have b2' : decide ((126 : Int) < (n : Int)) = true := decide_eq_true (by omega)
      have HCB := Lib.hid (show chF c = 35 :: hexB c by rw [HCH.out, if_pos (.inr (.inl h2))])
      clear HCH h1 h2
      go_wp2_with (fail)
      refine (writeByteW HQ1.out 35 35 rfl (by have := HOL.out; omega)).mono ?_
      rintro e w2 ⟨rfl, hN2⟩
      obtain ⟨S2, hq2, hk2', hs2⟩ := hN2
      have HH2 := Lib.hid (HH.out S2 w2 _ hq2 (by have := HOL.out; simp at this ⊢; omega))
      clear hq2
      go_wp2_with fail
      refine HH2.out.mono ?_
      rintro e w3 ⟨rfl, hN3⟩
      have HN3 := Lib.hid (show WrNext w S p ((out ++ [47]) ++ nameF (s.take (k + 1))) w3 by
        rw [HT.out, HCB.out]
        have h3 := WrNext.trans HK1.out HS1.out (WrNext.trans hk2' hs2 hN3)
        rw [List.append_assoc _ [35]] at h3
        rw [← List.append_assoc (out ++ [47])]
        exact h3)
      clear hN3 hk2' hs2 HH2 HCB
      go_wp2
      go_roundw
      case rel => exact ⟨k + 1, by go_num, by omega, HN3⟩
      case measure => simp [intOf]; omega
    have b2 : decide (126 < n) = false := decide_eq_false h2
    have b2' : decide ((126 : Int) < (n : Int)) = false := decide_eq_false (by omega)
    by_cases h3 : n = 35
    · have b3 : (n == 35) = true := by rw [h3]; rfl
      have b3' : ((n : Int) == 35) = true := by rw [h3]; rfl
      have HCB := Lib.hid (show chF c = 35 :: hexB c by rw [HCH.out, if_pos (.inr (.inr (.inl h3)))])
      clear HCH h1 h2
      have H3 := Lib.hid h3
      clear h3
      go_wp2_with (fail)
      refine (writeByteW HQ1.out 35 35 rfl (by have := HOL.out; omega)).mono ?_
      rintro e w2 ⟨rfl, hN2⟩
      obtain ⟨S2, hq2, hk2', hs2⟩ := hN2
      have HH2 := Lib.hid (HH.out S2 w2 _ hq2 (by have := HOL.out; simp at this ⊢; omega))
      clear hq2
      go_wp2_with fail
      refine HH2.out.mono ?_
      rintro e w3 ⟨rfl, hN3⟩
      have HN3 := Lib.hid (show WrNext w S p ((out ++ [47]) ++ nameF (s.take (k + 1))) w3 by
        rw [HT.out, HCB.out]
        have h3 := WrNext.trans HK1.out HS1.out (WrNext.trans hk2' hs2 hN3)
        rw [List.append_assoc _ [35]] at h3
        rw [← List.append_assoc (out ++ [47])]
        exact h3)
      clear hN3 hk2' hs2 HH2 HCB
      go_wp2
      go_roundw
      case rel => exact ⟨k + 1, by go_num, by omega, HN3⟩
      case measure => simp [intOf]; omega
    have b3 : (n == 35) = false := by rw [beq_eq_false_iff_ne]; exact h3
    have b3' : ((n : Int) == 35) = false := by rw [beq_eq_false_iff_ne]; omega
    cases d with
    | true =>
      have HCB := Lib.hid (show chF c = 35 :: hexB c by rw [HCH.out, if_pos (.inr (.inr (.inr rfl)))])
      clear HCH h1 h2 h3
      go_wp2_with (go_at_call 59; refine (HD.out _).mono ?_; rintro e w' ⟨rfl, rfl⟩)
      refine (writeByteW HQ1.out 35 35 rfl (by have := HOL.out; omega)).mono ?_
      rintro e w2 ⟨rfl, hN2⟩
      obtain ⟨S2, hq2, hk2', hs2⟩ := hN2
      have HH2 := Lib.hid (HH.out S2 w2 _ hq2 (by have := HOL.out; simp at this ⊢; omega))
      clear hq2
      go_wp2_with fail
      refine HH2.out.mono ?_
      rintro e w3 ⟨rfl, hN3⟩
      have HN3 := Lib.hid (show WrNext w S p ((out ++ [47]) ++ nameF (s.take (k + 1))) w3 by
        rw [HT.out, HCB.out]
        have h3 := WrNext.trans HK1.out HS1.out (WrNext.trans hk2' hs2 hN3)
        rw [List.append_assoc _ [35]] at h3
        rw [← List.append_assoc (out ++ [47])]
        exact h3)
      clear hN3 hk2' hs2 HH2 HCB
      go_wp2
      go_roundw
      case rel => exact ⟨k + 1, by go_num, by omega, HN3⟩
      case measure => simp [intOf]; omega
    | false =>
      have HCB := Lib.hid (show chF c = [c] by rw [HCH.out, if_neg (by rintro (h | h | h | h); exact h1 h; exact h2 h; exact h3 h; cases h)])
      clear HCH h1 h2 h3
      have HWB := Lib.hid (writeByteW HQ1.out c n (by rw [HNC.out]) (by have := HOL.out; omega))
      go_wp2_with (go_at_call 59; refine (HD.out _).mono ?_; rintro e w' ⟨rfl, rfl⟩)
      refine HWB.out.mono ?_
      rintro e w2 ⟨rfl, hN2⟩
      have HN3 := Lib.hid (show WrNext w S p ((out ++ [47]) ++ nameF (s.take (k + 1))) w2 by
        rw [HT.out, HCB.out, ← List.append_assoc (out ++ [47])]
        exact WrNext.trans HK1.out HS1.out hN2)
      clear hN2 HCB HWB
      go_wp2
      go_roundw
      case rel => exact ⟨k + 1, by go_num, by omega, HN3⟩
      case measure => simp [intOf]; omega
end Go.Proofs.YtnkodejgiabamaaDoor
/-
  Walks of layer 9: may a number be; millionths; the number of a text.
-/
namespace Go.Proofs.YtnkodejgiabamaaDoor
open Go.RowKit

/-- A value that has no parts. -/
def valC (k n : Int) (s : ByteArray) : Array Value := #[.int .i64 k, .int .i64 n, .string s, .slice none 0 0]
def noStr : ByteArray := ⟨#[]⟩

theorem size_app (a b : ByteArray) : (a ++ b).size = a.size + b.size := ByteArray.size_append
theorem bl_app (a b : ByteArray) : bl (a ++ b) = bl a ++ bl b := by unfold bl; rw [ByteArray.data_append, Array.toList_append]

/-- Is a text empty, and a row? -/
def bareV (s : ByteArray) (m : Nat) : Bool := decide (bl s = []) && decide (m = 0)
set_option maxHeartbeats 4000000 in
theorem check_any (k n : Int) (s : ByteArray) (a : Option Addr) (m c : Nat) (w : World) (hm : (m : Int) ≤ 9223372036854775807) :
    Calls Tryd.prog 53 #[.agg #[.int .i64 k, .int .i64 n, .string s, .slice a m c]] w fun e w' => e = .returned (.int .i64 (checkV k n (bareV s m))) ∧ Below w.heap.size w w' := by
  obtain ⟨V, hV⟩ : ∃ V, V = checkV k n (bareV s m) := ⟨_, rfl⟩
  rw [← hV]
  unfold checkV at hV
  by_cases hk : k = 2 ∨ k = 3
  · obtain ⟨L, hL⟩ : ∃ L : Int, L = if k = 2 then 2147483647 else 2147483647000000 := ⟨_, rfl⟩
    have hk2 : (k == 2) = decide (k = 2) := by by_cases h : k = 2 <;> simp [h]
    by_cases h1 : n < -L
    · have HV := Lib.hid (show V = 2 by rw [hV, if_neg]; rintro ⟨-, h | h⟩ <;> (rw [h.1] at hL; simp at hL; omega))
      have HB := Lib.hid (belowA w (.cells #[.int .i64 k, .int .i64 n, .string s, .slice a m c] 24))
      clear hV hk2
      rcases hk with rfl | rfl <;> (simp at hL; subst hL)
      all_goals
        go_enter Tryd.func53, Tryd.ntmps53
        go_wp2
        go_ret
        exact ⟨ret_int HV.out.symm, HB.out⟩
    · have h1d : decide (n < -L) = false := by simpa using h1
      by_cases h2 : L < n
      · have HV := Lib.hid (show V = 2 by rw [hV, if_neg]; rintro ⟨-, h | h⟩ <;> (rw [h.1] at hL; simp at hL; omega))
        have HB := Lib.hid (belowA w (.cells #[.int .i64 k, .int .i64 n, .string s, .slice a m c] 24))
        clear hV hk2 h1
        rcases hk with rfl | rfl <;> (simp at hL; subst hL)
        all_goals
          go_enter Tryd.func53, Tryd.ntmps53
          go_wp2
          go_ret
          exact ⟨ret_int HV.out.symm, HB.out⟩
      · have h2d : decide (L < n) = false := by simpa using h2
        by_cases h3 : s.toList = []
        · by_cases h4 : m = 0
          · have HV := Lib.hid (show V = 0 by
              rw [hV, if_pos]
              refine ⟨by unfold bareV; rw [← toL, h3, h4]; rfl, ?_⟩
              rcases hk with h | h <;> rw [h] at hL <;> simp at hL
              · exact .inl ⟨h, by omega, by omega⟩
              · exact .inr ⟨h, by omega, by omega⟩)
            have HB := Lib.hid (belowA w (.cells #[.int .i64 k, .int .i64 n, .string s, .slice a m c] 24))
            have h3e : s.toList.isEmpty = true := by rw [h3]; rfl
            clear hV hk2 h1 h2
            subst h4
            rcases hk with rfl | rfl <;> (simp at hL; subst hL)
            all_goals
              go_enter Tryd.func53, Tryd.ntmps53
              go_wp2
              go_ret
              exact ⟨ret_int HV.out.symm, HB.out⟩
          · have HV := Lib.hid (show V = 2 by rw [hV, if_neg]; rintro ⟨h, -⟩; unfold bareV at h; simp at h; exact h4 h.2)
            have HB := Lib.hid (belowA w (.cells #[.int .i64 k, .int .i64 n, .string s, .slice a m c] 24))
            have h3e : s.toList.isEmpty = true := by rw [h3]; rfl
            have h4' : (0 : Int) < m := by omega
            have h4'' : 0 < m := by omega
            clear hV hk2 h1 h2 h4
            rcases hk with rfl | rfl <;> (simp at hL; subst hL)
            all_goals
              go_enter Tryd.func53, Tryd.ntmps53
              go_wp2
              go_ret
              exact ⟨ret_int HV.out.symm, HB.out⟩
        · have HV := Lib.hid (show V = 2 by rw [hV, if_neg]; rintro ⟨h, -⟩; unfold bareV at h; rw [← toL] at h; simp at h; exact h3 h.1)
          have HB := Lib.hid (belowA w (.cells #[.int .i64 k, .int .i64 n, .string s, .slice a m c] 24))
          have h3e : s.toList.isEmpty = false := by simpa using h3
          clear hV hk2 h1 h2
          rcases hk with rfl | rfl <;> (simp at hL; subst hL)
          all_goals
            go_enter Tryd.func53, Tryd.ntmps53
            go_wp2
            go_ret
            exact ⟨ret_int HV.out.symm, HB.out⟩
  · have HV := Lib.hid (show V = 2 by rw [hV, if_neg]; rintro ⟨-, h | h⟩ <;> exact hk (by omega))
    have HB := Lib.hid (belowA w (.cells #[.int .i64 k, .int .i64 n, .string s, .slice a m c] 24))
    have hk2 : (k == 2) = false := by rw [beq_eq_false_iff_ne]; omega
    have hk3 : (k == 3) = false := by rw [beq_eq_false_iff_ne]; omega
    clear hV hk
    go_enter Tryd.func53, Tryd.ntmps53
    go_wp2
    go_ret
    exact ⟨ret_int HV.out.symm, HB.out⟩
end Go.Proofs.YtnkodejgiabamaaDoor
