/-
  Our texts DeG to Rd2, in one.
-/
import Derived.Test.YtkikhmdpcanidaaGreatPkE5
import Derived.Lib.Hide
import Derived.StillTailTactics
import Derived.Deep.DeepCutAuto
import Derived.BigQuiet
import Derived.Deep.QuietTactic
import Derived.Deep.RegionHeld3
set_option maxRecDepth 8000
set_option maxHeartbeats 8000000
namespace Go.Proofs.YtkikhmdpcanidaaGreat
theorem repL_app (o : List UInt8) {far : Nat} (h1 : 1 ≤ far) : ∀ (n : Nat) (m : List UInt8), far ≤ m.length → repL far n (o ++ m) = o ++ repL far n m
 | 0, _, _ => rfl
 | n + 1, m, h => by
   rw [repL, repL]
   have e : (o ++ m).getD ((o ++ m).length - far) 0 = m.getD (m.length - far) 0 := by
     rw [zcM _ _ _ _ (by rw [List.length_append]; omega), List.length_append, show o.length + m.length - far - o.length = m.length - far from by omega]
   rw [e, List.append_assoc, repL_app o h1 n _ (by rw [List.length_append]; omega)]
theorem expT_app (o : List UInt8) : ∀ {ts : List LT} {m r : List UInt8}, expT ts m = some r → expT ts (o ++ m) = some (o ++ r)
 | [], m, r, h => by cases h; rfl
 | t :: ts, m, r, h => by
   unfold expT at h ⊢
   split at h
   case isFalse => cases h
   rename_i hm
   rw [if_pos ⟨hm.1, by rw [List.length_append]; omega⟩]
   have e : t.put (o ++ m) = o ++ t.put m := by
     have hmay := hm.1
     unfold LT.may at hmay
     unfold LT.put
     by_cases h0 : t.len = 0
     · rw [if_pos h0, if_pos h0, List.append_assoc]
     · rw [if_neg h0] at hmay
       rw [if_neg h0, if_neg h0, repL_app o hmay.2.2.2.1 _ _ hm.2]
   rw [e]
   exact expT_app o h
theorem bits_pos {l d : List Int} {t : LT} (h : CodT l d t) : 1 ≤ (t.bits l d).length := by
 unfold CodT at h
 unfold LT.bits
 by_cases h0 : t.len = 0
 · rw [if_pos h0] at h ⊢
   rw [zax]; unfold lenN; omega
 · rw [if_neg h0] at h ⊢
   rw [List.length_append, zax]
   have := h.1
   unfold lenN; omega
theorem tokB_ge {l d : List Int} : ∀ {ts : List LT}, (∀ t ∈ ts, CodT l d t) → ts.length ≤ (tokB l d ts).length
 | [], _ => Nat.zero_le _
 | t :: ts, h => by
   have h1 := bits_pos (h t (List.mem_cons_self ..))
   have h2 := tokB_ge (fun u hu => h u (List.mem_cons_of_mem _ hu))
   rw [tokB, List.length_append, List.length_cons]; omega
theorem runB_ge {c : List Int} : ∀ {R : List (Nat × Nat)}, (∀ x ∈ R, 0 < c.getD x.1 0) → R.length ≤ (runB c R).length
 | [], _ => Nat.zero_le _
 | (s, v) :: R, h => by
   have h1 := h (s, v) (List.mem_cons_self ..)
   have h2 := runB_ge (fun u hu => h u (List.mem_cons_of_mem _ hu))
   dsimp only at h1
   rw [runB, List.length_append, List.length_append, zax, List.length_cons]; unfold lenN; omega
def zdI (p kind : Nat) (last : Bool) (b : List UInt8) (Z : List Bool) : Prop :=
 (kind = 0 ∧ b.length ≤ 65535 ∧ Z = stoB p last b) ∨ (kind = 1 ∧ ∃ ts, expT ts [] = some b ∧ Z = fixB last ts) ∨
 (kind = 2 ∧ ∃ ts la lb own c R, expT ts [] = some b ∧ DynOk la lb own c R ts ∧ Z = zci last la lb own c R ts)
theorem zdI.ok {bs : List UInt8} {most p kind : Nat} {last : Bool} {b o : List UInt8} {Z : List Bool} (h : zdI p kind last b Z) (hs : Sees bs p Z) (hm : o.length + b.length ≤ most) :
   BlkOk bs most (zbK bs) p (p + Z.length) last o (o ++ b) := by
 have hz := hs.1
 have hap : ∀ {ts : List LT}, expT ts [] = some b → expT ts o = some (o ++ b) := fun h => by
   have := expT_app o h
   rwa [List.append_nil] at this
 have hle : (o ++ b).length ≤ most := by rw [List.length_append]; exact hm
 rcases h with ⟨-, h1, rfl⟩ | ⟨-, ts, h1, rfl⟩ | ⟨-, ts, la, lb, own, c, R, h1, h2, rfl⟩
 · exact stored_sees hs h1 hm
 · refine fix_sees hs (hap h1) hle ?_
   have := tokB_ge (fun t ht => fix_cod (zbW h1 t ht))
   unfold fixB at hz
   rw [List.length_append] at hz
   unfold zbK; omega
 · have t1 := tokB_ge h2.ct
   have t2 := runB_ge (c := iL c) (R := R) (fun x hx => by rw [za2]; have := h2.cr x hx; omega)
   have hz2 := hz
   unfold zci at hz2
   simp only [List.length_append] at hz2
   exact dyn_sees hs h2 (hap h1) hle (by unfold zbK; omega) (by unfold zbK; omega)
theorem zdI.pos {p kind : Nat} {last : Bool} {b : List UInt8} {Z : List Bool} (h : zdI p kind last b Z) : 3 ≤ Z.length := by
 rcases h with ⟨-, h1, rfl⟩ | ⟨-, ts, h1, rfl⟩ | ⟨-, ts, la, lb, own, c, R, h1, h2, rfl⟩
 · unfold stoB; rw [List.length_append, zap]; omega
 · unfold fixB; rw [List.length_append, zap]; omega
 · unfold zci; rw [List.length_append, zap]; omega
inductive zbw : Nat → List (Nat × List UInt8) → List Bool → Prop where
 | one {p kind : Nat} {b : List UInt8} {Z : List Bool} : zdI p kind true b Z → zbw p [(kind, b)] Z
 | more {p kind : Nat} {b : List UInt8} {l : List (Nat × List UInt8)} {Z Y : List Bool} : zdI p kind false b Z → zbw (p + Z.length) l Y → zbw p ((kind, b) :: l) (Z ++ Y)
theorem zbw.ok {bs : List UInt8} {most p : Nat} {l : List (Nat × List UInt8)} {Z : List Bool} (h : zbw p l Z) : ∀ o : List UInt8, Sees bs p Z → o.length + (l.flatMap Prod.snd).length ≤ most →
   zfx bs most (zbK bs) l.length p (p + Z.length) o (o ++ l.flatMap Prod.snd) := by
 induction h with
 | one h1 =>
   intro o hs hm
   simp only [List.flatMap_cons, List.flatMap_nil, List.append_nil] at hm ⊢
   exact .one (h1.ok hs hm)
 | @more p kind b l Z Y h1 _ ih =>
   intro o hs hm
   simp only [List.flatMap_cons, List.length_append] at hm ⊢
   have e1 := h1.ok (most := most) (o := o) hs.left (by omega)
   have e2 := ih (o ++ b) hs.right (by rw [List.length_append]; omega)
   rw [Nat.add_assoc, List.append_assoc] at e2
   exact .more e1 e2
theorem zbw.len {p : Nat} {l : List (Nat × List UInt8)} {Z : List Bool} (h : zbw p l Z) : l.length ≤ Z.length := by
 induction h with
 | one h1 => have := h1.pos; simp only [List.length_singleton]; omega
 | more h1 _ ih => have := h1.pos; rw [List.length_append, List.length_cons]; omega
theorem zbw.end_ {bs : List UInt8} {most : Nat} {l : List (Nat × List UInt8)} {Z : List Bool} (h : zbw 0 l Z) (hw : za5 bs false Z) (hm : (l.flatMap Prod.snd).length ≤ most) :
   endI bs most = ⟨Z.length, 0, l.flatMap Prod.snd⟩ := by
 have h1 := h.ok (most := most) [] hw.sees (by simpa using hm)
 rw [Nat.zero_add, List.nil_append] at h1
 have h2 := h.len
 have h3 := hw.1
 unfold endI
 rw [h1.infl (zbK bs) (by unfold zbK; omega)]; rfl
theorem zbw.res {bs : List UInt8} {most : Nat} {l : List (Nat × List UInt8)} {Z : List Bool} (h : zbw 0 l Z) (hw : za5 bs false Z) (hm : (l.flatMap Prod.snd).length ≤ most) :
   (endI bs most).e = 0 ∧ resO (endI bs most) = l.flatMap Prod.snd ∧ resN (endI bs most) = bs.length := by
 rw [h.end_ hw hm]
 exact ⟨rfl, rfl, hw.1.symm⟩
def CutK (s' s : IS) : Prop := s' = s ∨ s'.e = 10
theorem CutK.refl (s : IS) : CutK s s := .inl rfl
theorem zfi {bs : List UInt8} {B : List Bool} (h : za5 bs false B) {k i : Nat} (hk : k < bs.length) (hi : i < 8) : (bs.getD k 0).toNat.testBit i = B.getD (8 * k + i) false := by
 rw [← h.2 (8 * k + i) (by omega)]
 unfold zaG zbj
 rw [if_neg (by decide), show (8 * k + i) / 8 = k from by omega, show (8 * k + i) % 8 = i from by omega, Nat.testBit_eq_decide_div_mod_eq]
 rfl
theorem byte_ext {x y : UInt8} (h : ∀ i, i < 8 → x.toNat.testBit i = y.toNat.testBit i) : x = y := by
 apply UInt8.toNat_inj.1
 apply Nat.eq_of_testBit_eq
 intro i
 by_cases hi : i < 8
 · exact h i hi
 · have hx : x.toNat < 2 ^ i := Nat.lt_of_lt_of_le x.toNat_lt (Nat.pow_le_pow_right (by omega) (by omega))
   have hy : y.toNat < 2 ^ i := Nat.lt_of_lt_of_le y.toNat_lt (Nat.pow_le_pow_right (by omega) (by omega))
   rw [Nat.testBit_lt_two_pow hx, Nat.testBit_lt_two_pow hy]
theorem wrote_inj {a b : List UInt8} {B : List Bool} (ha : za5 a false B) (hb : za5 b false B) : a = b := by
 have hl : a.length = b.length := by rw [ha.1, hb.1]
 apply List.ext_getElem hl
 intro k h1 h2
 apply byte_ext
 intro i hi
 have e1 := zfi ha h1 hi
 have e2 := zfi hb h2 hi
 rw [List.getD_eq_getElem?_getD, List.getElem?_eq_getElem h1] at e1
 rw [List.getD_eq_getElem?_getD, List.getElem?_eq_getElem h2] at e2
 exact e1.trans e2.symm
theorem byteB_get : ∀ (l : List UInt8) (k i : Nat), i < 8 → (zbq l).getD (8 * k + i) false = (l.getD k 0).toNat.testBit i
 | [], k, i, _ => by simp [zbq]
 | x :: l, 0, i, hi => by
   rw [zbq, zcr _ _ _ _ (by rw [zag]; omega), show 8 * 0 + i = i from by omega, zfF _ _ _ _ hi]; rfl
 | x :: l, k + 1, i, hi => by
   rw [zbq, zcM _ _ _ _ (by rw [zag]; omega), zag, show 8 * (k + 1) + i - 8 = 8 * k + i from by omega, byteB_get l k i hi]; rfl
theorem wrote_byteB (l : List UInt8) : za5 l false (zbq l) :=
 ⟨by rw [zb7]; omega, fun i hi => by
   have h := byteB_get l (i / 8) (i % 8) (by omega)
   rw [show 8 * (i / 8) + i % 8 = i from by omega] at h
   rw [h]
   unfold zaG zbj
   rw [if_neg (by decide), Nat.testBit_eq_decide_div_mod_eq]
   rfl⟩
theorem zer : ∀ a b : List UInt8, zbq (a ++ b) = zbq a ++ zbq b
 | [], b => rfl
 | x :: a, b => by rw [List.cons_append, zbq, zbq, zer a b, List.append_assoc]
theorem putL_n (x n m : Nat) : ∀ k, putL x false n k = putL x false m k
 | 0 => rfl
 | k + 1 => by rw [putL, putL, putL_n x n m k]; rfl
theorem putL_two (x n : Nat) (a : Nat) : ∀ k, putL x false n (a + k) = putL (x % 2 ^ a) false n a ++ putL (x / 2 ^ a) false n k
 | 0 => by
   rw [putL, List.append_nil, Nat.add_zero]
   have : ∀ k, k ≤ a → putL x false n k = putL (x % 2 ^ a) false n k := by
     intro k
     induction k with
     | zero => intro _; rfl
     | succ k ih =>
       intro hk
       rw [putL, putL, ih (by omega)]
       show _ ++ [x.testBit k] = _ ++ [(x % 2 ^ a).testBit k]
       rw [Nat.testBit_mod_two_pow]
       simp [show k < a from by omega]
   exact this a (Nat.le_refl _)
 | k + 1 => by
   rw [← Nat.add_assoc, putL, putL, putL_two x n a k, ← List.append_assoc]
   show _ ++ [x.testBit (a + k)] = _ ++ [(x / 2 ^ a).testBit k]
   rw [Nat.testBit_div_two_pow, Nat.add_comm k a]
theorem put16 (x : Nat) : putL x false 16 16 = putL (x % 256) false 8 8 ++ putL (x / 256) false 8 8 := by
 rw [show (16 : Nat) = 8 + 8 from rfl, putL_two x (8 + 8) 8 8]
 rw [putL_n (x % 2 ^ 8) (8 + 8) 8, putL_n (x / 2 ^ 8) (8 + 8) 8]
def zby (b : List UInt8) : List UInt8 := [1, UInt8.ofNat (b.length % 256), UInt8.ofNat (b.length / 256), UInt8.ofNat (255 - b.length % 256), UInt8.ofNat (255 - b.length / 256)] ++ b
theorem stoB_is {b : List UInt8} (h : b.length ≤ 65535) : stoB 0 true b = zbq (zby b) := by
 have e : ∀ x, x < 256 → (UInt8.ofNat x).toNat = x := fun x hx => by simp only [UInt8.toNat_ofNat']; exact Nat.mod_eq_of_lt hx
 unfold stoB zby
 rw [zer]
 simp only [zbq, List.append_nil]
 rw [e _ (by omega), e _ (by omega), e _ (by omega), e _ (by omega), put16 b.length, put16 (65535 - b.length)]
 have h0 : zcs true 0 ++ List.replicate ((0 + 10) / 8 * 8 - (0 + 3)) false = putL (1 : UInt8).toNat false 8 8 := by decide
 rw [← List.append_assoc, h0, show (65535 - b.length) % 256 = 255 - b.length % 256 from by omega, show (65535 - b.length) / 256 = 255 - b.length / 256 from by omega]
 simp only [List.append_assoc]
theorem zeh {bs b : List UInt8} (hw : za5 bs false (stoB 0 true b)) (h : b.length ≤ 65535) : bs = zby b := by
 rw [stoB_is h] at hw
 exact wrote_inj hw (wrote_byteB _)
theorem stoBy_len (b : List UInt8) : (zby b).length = b.length + 5 := by unfold zby; rw [List.length_append]; simp; omega
def adM : List UInt8 → Nat → Nat → Nat × Nat
 | [], a, b => (a, b)
 | x :: l, a, b => adM l ((a + x.toNat) % 65521) ((b + (a + x.toNat) % 65521) % 65521)
def adS : List UInt8 → Nat → Nat → Nat × Nat
 | [], a, b => (a, b)
 | x :: l, a, b => adS l (a + x.toNat) (b + (a + x.toNat))
theorem adM_mod : ∀ (l : List UInt8) (a b a2 b2 : Nat), a % 65521 = a2 % 65521 → b % 65521 = b2 % 65521 → (adM l a b).1 % 65521 = (adS l a2 b2).1 % 65521 ∧ (adM l a b).2 % 65521 = (adS l a2 b2).2 % 65521
 | [], _, _, _, _, h1, h2 => ⟨h1, h2⟩
 | x :: l, a, b, a2, b2, h1, h2 => by
   simp only [adM, adS]
   refine adM_mod l _ _ _ _ ?_ ?_
   · omega
   · omega
theorem adM_lt : ∀ (l : List UInt8) (a b : Nat), a < 65521 → b < 65521 → (adM l a b).1 < 65521 ∧ (adM l a b).2 < 65521
 | [], _, _, h1, h2 => ⟨h1, h2⟩
 | x :: l, a, b, _, _ => by
   simp only [adM]
   exact adM_lt l _ _ (Nat.mod_lt _ (by decide)) (Nat.mod_lt _ (by decide))
theorem adM_is (l : List UInt8) (a b : Nat) (ha : a < 65521) (hb : b < 65521) : adM l a b = ((adS l a b).1 % 65521, (adS l a b).2 % 65521) := by
 obtain ⟨h1, h2⟩ := adM_mod l a b a b rfl rfl
 obtain ⟨l1, l2⟩ := adM_lt l a b ha hb
 rw [Nat.mod_eq_of_lt l1] at h1
 rw [Nat.mod_eq_of_lt l2] at h2
 rw [← h1, ← h2]
theorem adS_le : ∀ (l : List UInt8) (a b : Nat), (adS l a b).1 ≤ a + 255 * l.length ∧ (adS l a b).2 ≤ b + l.length * (a + 255 * l.length)
 | [], a, b => by simp [adS]
 | x :: l, a, b => by
   have hx := x.toNat_lt
   obtain ⟨h1, h2⟩ := adS_le l (a + x.toNat) (b + (a + x.toNat))
   simp only [adS, List.length_cons]
   refine ⟨by omega, ?_⟩
   have h3 : l.length * (a + x.toNat + 255 * l.length) ≤ l.length * (a + 255 * (l.length + 1)) := Nat.mul_le_mul_left _ (by omega)
   have h4 : (l.length + 1) * (a + 255 * (l.length + 1)) = l.length * (a + 255 * (l.length + 1)) + (a + 255 * (l.length + 1)) := by rw [Nat.add_mul, Nat.one_mul]
   omega
theorem adS_fits (l : List UInt8) (a b : Nat) (h : l.length ≤ 2000) (ha : a ≤ 65521) (hb : b < 65521) : (adS l a b).1 < 4294967296 ∧ (adS l a b).2 < 4294967296 := by
 obtain ⟨h1, h2⟩ := adS_le l a b
 have h3 : l.length * (a + 255 * l.length) ≤ 2000 * (65521 + 255 * 2000) := Nat.mul_le_mul h (by omega)
 omega
def adV (l : List UInt8) : Nat := 65536 * (adM l 1 0).2 + (adM l 1 0).1
def by4 (x : Nat) : List UInt8 := [UInt8.ofNat (x / 16777216), UInt8.ofNat (x / 65536 % 256), UInt8.ofNat (x / 256 % 256), UInt8.ofNat (x % 256)]
theorem adV_lt (l : List UInt8) : adV l < 4294967296 := by
 have := adM_lt l 1 0 (by decide) (by decide)
 unfold adV; omega
def chkV (b : List UInt8) : Int :=
 if b.length < 2 then 10 else if (b.getD 0 0).toNat % 16 ≠ 8 ∨ 7 < (b.getD 0 0).toNat / 16 ∨ (b.getD 1 0).toNat / 32 % 2 ≠ 0 ∨ (256 * (b.getD 0 0).toNat + (b.getD 1 0).toNat) % 31 ≠ 0 then 11 else 0
noncomputable def unpV (b : List UInt8) (most : Nat) : List UInt8 × Nat × Int :=
 if chkV b ≠ 0 then ([], 0, chkV b) else if (endI (b.drop 2) most).e ≠ 0 then ([], 0, (endI (b.drop 2) most).e) else
 if b.length < resN (endI (b.drop 2) most) + 6 then ([], 0, 10) else
 if (b.drop (resN (endI (b.drop 2) most) + 2)).take 4 ≠ by4 (adV (resO (endI (b.drop 2) most))) then ([], 0, 12) else
 (resO (endI (b.drop 2) most), resN (endI (b.drop 2) most) + 6, 0)
theorem za5.more {p : List UInt8} {Z : List Bool} (h : za5 p false Z) (q : List UInt8) : Sees (p ++ q) 0 Z :=
 ⟨by have := h.1; rw [List.length_append]; omega, fun i hi => by
   have h1 := h.1
   have h2 := h.2 i (by omega)
   unfold bitF
   rw [Nat.zero_add, ← h2]
   unfold zaG
   rw [zcr _ _ _ _ (by omega)]⟩
theorem zbw.far {bs : List UInt8} {most : Nat} {l : List (Nat × List UInt8)} {Z : List Bool} (h : zbw 0 l Z) (hw : Sees bs 0 Z) (hm : (l.flatMap Prod.snd).length ≤ most) :
   endI bs most = ⟨Z.length, 0, l.flatMap Prod.snd⟩ := by
 have h1 := h.ok (most := most) [] hw (by simpa using hm)
 rw [Nat.zero_add, List.nil_append] at h1
 have h2 := h.len
 have h3 := hw.1
 unfold endI
 rw [h1.infl (zbK bs) (by unfold zbK; omega)]; rfl
theorem chk_head : ∀ q : List UInt8, chkV (0x78 :: 0x9c :: q) = 0 := fun q => by
 unfold chkV
 rw [if_neg (by simp)]
 show (if (0x78 : UInt8).toNat % 16 ≠ 8 ∨ 7 < (0x78 : UInt8).toNat / 16 ∨ (0x9c : UInt8).toNat / 32 % 2 ≠ 0 ∨ (256 * (0x78 : UInt8).toNat + (0x9c : UInt8).toNat) % 31 ≠ 0 then (11 : Int) else 0) = 0
 rw [if_neg (by decide)]
theorem zem (x : Nat) : (by4 x).length = 4 := rfl
theorem unp_sum {p b s behind : List UInt8} {most : Nat} {Z : List Bool} {l : List (Nat × List UInt8)} (h : zbw 0 l Z) (hl : l.flatMap Prod.snd = b) (hw : za5 p false Z) (hm : b.length ≤ most) (hs : s.length = 4) :
   unpV (0x78 :: 0x9c :: (p ++ (s ++ behind))) most = if s ≠ by4 (adV b) then ([], 0, 12) else (b, p.length + 6, 0) := by
 have he : endI (p ++ (s ++ behind)) most = ⟨Z.length, 0, b⟩ := by
   rw [h.far (hw.more _) (by rw [hl]; exact hm), hl]
 unfold unpV
 rw [chk_head, if_neg (by decide)]
 rw [show (0x78 :: 0x9c :: (p ++ (s ++ behind))).drop 2 = p ++ (s ++ behind) from rfl, he]
 have hn : resN ⟨Z.length, 0, b⟩ = p.length := hw.1.symm
 have ho : resO ⟨Z.length, 0, b⟩ = b := rfl
 rw [hn, ho]
 dsimp only
 have hd : ((0x78 :: 0x9c :: (p ++ (s ++ behind))).drop (p.length + 2)).take 4 = s := by
   show ((p ++ (s ++ behind)).drop p.length).take 4 = s
   rw [List.drop_left, List.take_left' hs]
 rw [if_neg (by simp), if_neg (by simp only [List.length_cons, List.length_append]; omega), hd]
theorem unp_back {p b behind : List UInt8} {most : Nat} {Z : List Bool} {l : List (Nat × List UInt8)} (h : zbw 0 l Z) (hl : l.flatMap Prod.snd = b) (hw : za5 p false Z) (hm : b.length ≤ most) :
   unpV (0x78 :: 0x9c :: (p ++ (by4 (adV b) ++ behind))) most = (b, p.length + 6, 0) := by
 rw [unp_sum h hl hw hm (zem _), if_neg (by simp)]
end Go.Proofs.YtkikhmdpcanidaaGreat
namespace Go.Proofs.YtkikhmdpcanidaaGreat
open Go.RowKit
def wrV (n : Nat) (high : Bool) (v : Value) (i : Nat) : Value := if i = 0 then .int .i64 n else if i = 1 then .bool high else if i = 2 then .bool true else v
structure IsWr (w : World) (S : Nat → Prop) (wb : Nat) (high : Bool) (bs : List UInt8) (n : Nat) (v : Value) : Prop where
 blk : w.heap[wb]? = some (.cells (fl 4 (wrV n high v)).toArray 86 (0, 0))
 row : w.ownsRow (wb + 1) 5 1 v bs.length (bs.map fun b => .int .u8 b.toNat)
 at_ : ∀ b, v.ownBlock = some b → S b
 own : S wb
 lt : ∀ b, S b → wb ≤ b ∧ b < w.heap.size
def WrQ (w : World) (S : Nat → Prop) (wb : Nat) (high : Bool) (B : List Bool) : Prop := ∃ bs v, IsWr w S wb high bs B.length v ∧ za5 bs high B
def zac (w : World) (S : Nat → Prop) (wb : Nat) (high : Bool) (B : List Bool) (w' : World) : Prop := ∃ S', WrQ w' S' wb high B ∧ zaa S w w' ∧ ∀ b, S' b → S b ∨ w.heap.size ≤ b
theorem zac.refl {w : World} {S : Nat → Prop} {wb : Nat} {high : Bool} {B : List Bool} (h : WrQ w S wb high B) : zac w S wb high B w := ⟨S, h, zaa.refl _ _, fun _ h => .inl h⟩
theorem zac.trans {w w1 w2 : World} {S S1 : Nat → Prop} {wb : Nat} {high : Bool} {B : List Bool} (hk : zaa S w w1) (hs : ∀ b, S1 b → S b ∨ w.heap.size ≤ b) (h2 : zac w1 S1 wb high B w2) : zac w S wb high B w2 := by
 obtain ⟨S2, q, k, s⟩ := h2
 exact ⟨S2, q, hk.trans k hs, fun b hb => (s b hb).elim (hs b) (fun h => .inr (Nat.le_trans hk.size h))⟩
theorem zd8 {w : World} {S : Nat → Prop} {wb : Nat} {high : Bool} {bs : List UInt8} {n : Nat} {v : Value} (h : IsWr w S wb high bs n v) :
   Calls Tryz.prog 56 #[.pointer (some ⟨wb, 0, none⟩)] w fun e w' => e = .returned (.bool false) ∧ w = w' := by
 have h2 := zan h.blk 2 (by omega)
 unfold wrV at h2
 simp only [if_pos, Nat.reduceEqDiff, if_false] at h2
 clear h
 go_enter Tryz.func56, Tryz.ntmps56
 go_wp2
 go_ret
 exact ⟨rfl, rfl⟩
structure Half (w : World) (S : Nat → Prop) (wb : Nat) (high : Bool) (B : List Bool) (bs : List UInt8) (n : Nat) (v : Value) (W : World) : Prop where
 blk : W.heap[wb]? = some (.cells (fl 4 (wrV n high v)).toArray 86 (0, 0))
 row : W.ownsRow (wb + 1) 5 1 v bs.length (bs.map fun b => .int .u8 b.toNat)
 at_ : ∀ b, v.ownBlock = some b → S b ∨ w.heap.size ≤ b
 keeps : zaa S w W
 room : Room bs high B
theorem half_end {w W W2 : World} {S : Nat → Prop} {wb : Nat} {high one : Bool} {B : List Bool} {bs bs2 : List UInt8} {n : Nat} {v : Value} (hw : WrQ w S wb high B) (h : Half w S wb high B bs n v W)
   (hW : W2.heap[wb]? = some (.cells (fl 4 (wrV (n + 1) high v)).toArray 86 (0, 0))) (hr : W2.ownsRow (wb + 1) 5 1 v bs2.length (bs2.map fun b => .int .u8 b.toNat)) (hk : zaa S w W2) (hn : n = B.length)
   (hq : za5 bs2 high (B ++ [one])) : zac w S wb high (B ++ [one]) W2 := by
 obtain ⟨bs0, v0, hw0, _⟩ := hw
 refine ⟨fun b => S b ∨ (wb ≤ b ∧ w.heap.size ≤ b ∧ b < W2.heap.size), ⟨bs2, v, ⟨by simpa [hn] using hW, hr, fun b hb => ?_, .inl hw0.own, fun b hb => ?_⟩, hq⟩, hk, fun b hb => ?_⟩
 · have := hr.lt b hb
   exact (h.at_ b hb).elim .inl fun h1 => .inr ⟨by omega, h1, this.2⟩
 · rcases hb with hb | hb
   · have := hw0.lt b hb; have := hk.size; omega
   · exact ⟨hb.1, hb.2.2⟩
 · rcases hb with hb | hb
   · exact .inl hb
   · exact .inr hb.2.1
theorem wrV_set (n : Nat) (high : Bool) (v : Value) (i : Nat) : (if i = 0 then Value.int .i64 ((n : Int) + 1) else wrV n high v i) = wrV (n + 1) high v i := by
 unfold wrV
 by_cases h : i = 0
 · simp [h]
 · simp [h]
theorem wrV_set3 (n : Nat) (high : Bool) (v v' : Value) (i : Nat) (h4 : i < 4) : (if i = 3 then v' else wrV n high v i) = wrV n high v' i := by
 unfold wrV
 by_cases h : i = 3
 · simp [h]
 · have : i = 0 ∨ i = 1 ∨ i = 2 := by omega
   rcases this with rfl | rfl | rfl <;> simp
theorem half_pad {w w1 : World} {S : Nat → Prop} {wb : Nat} {high : Bool} {B : List Bool} {bs : List UInt8} {v v' : Value} (hw : IsWr w S wb high bs B.length v) (hq : za5 bs high B) (h8 : B.length % 8 = 0) (o : Obj)
   (hr : w1.ownsRow (wb + 1) 5 1 v' (bs.length + 1) (bs.map (fun b => Value.int .u8 b.toNat) ++ [.int .u8 0])) (hg : (w.alloc o).grownBy w1 v.ownBlock) (hn : zf5 (w.alloc o) v v') :
   Half w S wb high B (bs ++ [0]) B.length v' (w1.setCell ⟨wb, 3, none⟩ v') := by
 have hwb := (hw.lt wb hw.own).2
 have hvb : ∀ b, v.ownBlock = some b → wb < b := fun b hb => (hw.row.lt b hb).1
 have h1 : w1.heap[wb]? = some (.cells (fl 4 (wrV B.length high v)).toArray 86 (0, 0)) :=
   (hg.block wb (by rw [zad]; omega) (fun e => by have := hvb wb e.symm; omega)).trans ((Below.heap_alloc w o wb hwb).trans hw.blk)
 have hk : zaa S w w1 := ((zaa.refl S w).alloc o).grown hg (fun k hk => .inl (hw.at_ k hk))
 refine ⟨?_, ?_, fun b hb => ?_, hk.setCell (.inl hw.own) _, room_pad hq h8⟩
 · rw [zaM h1]
   exact congrArg (fun x => some (Obj.cells (List.toArray x) _ _)) (zal fun i hi => wrV_set3 _ _ _ _ _ hi)
 · have := zba hr (a := ⟨wb, 3, none⟩) (fun h => by have := (hr.lt wb h).1; omega) v'
   simpa using this
 · rcases hn b hb with h2 | h2
   · exact .inl (hw.at_ b h2)
   · right; rw [zad] at h2; omega
theorem half_in {w : World} {S : Nat → Prop} {wb : Nat} {high : Bool} {B : List Bool} {bs : List UInt8} {v : Value} (hw : IsWr w S wb high bs B.length v) (hq : za5 bs high B) (h8 : B.length % 8 ≠ 0) : Half w S wb high B bs B.length v w :=
 ⟨hw.blk, hw.row, fun b hb => .inl (hw.at_ b hb), zaa.refl _ _, room_in hq h8⟩
theorem half_zero {w W : World} {S : Nat → Prop} {wb : Nat} {high : Bool} {B : List Bool} {bs : List UInt8} {n : Nat} {v : Value} (hw : WrQ w S wb high B) (h : Half w S wb high B bs n v W) (hn : n = B.length) :
   zac w S wb high (B ++ [false]) (W.setCell ⟨wb, 0, none⟩ (.int .i64 ((n : Int) + 1))) := by
 have hS : S wb := by obtain ⟨_, _, h1, _⟩ := hw; exact h1.own
 refine half_end hw h ?_ (zba h.row (a := ⟨wb, 0, none⟩) (fun e => by have := (h.row.lt wb e).1; omega) _) (h.keeps.setCell (.inl hS) _) hn (wrote_zero h.room)
 rw [zaM h.blk]
 exact congrArg (fun x => some (Obj.cells (List.toArray x) _ _)) (zal fun i _ => wrV_set _ _ _ _)
theorem zf3 (bs : List UInt8) (i : Nat) (x : UInt8) : (bs.map fun b => Value.int .u8 b.toNat).set i (.int .u8 x.toNat) = (bs.set i x).map fun b => Value.int .u8 b.toNat := by
 rw [List.map_set]
theorem own_setL {w : World} {base e g n cap : Nat} {xs : List Value} (h : w.ownsRow base e 1 (.slice (some ⟨g, 0, none⟩) n cap) n xs) (i : Nat) (v : Value) :
   (w.setCell ⟨g, i, none⟩ v).ownsRow base e 1 (.slice (some ⟨g, 0, none⟩) n cap) n (xs.set i v) := by
 have hx : xs = fl n (fun i => xs.getD i undef) := by
   have hl : xs.length = n := by simpa using h.1
   have := map_fl undef xs id
   rw [List.map_id] at this
   rw [← hl]; exact this
 rw [hx] at h ⊢
 rw [fl_set]
 exact own_set h i v
theorem half_one {w W : World} {S : Nat → Prop} {wb g k cap : Nat} {high : Bool} {B : List Bool} {bs : List UInt8} {n : Nat} (q : Nat) (hw : WrQ w S wb high B) (h : Half w S wb high B bs n (.slice (some ⟨g, 0, none⟩) k cap) W) (hn : n = B.length) (x : Int)
   (hx : x = ((bs.getD (n / 8) 0).toNat ||| 2 ^ zbj n high : Nat)) :
   zac w S wb high (B ++ [true]) (((W.drewN q).setCell ⟨g, n / 8, none⟩ (.int .u8 x)).setCell ⟨wb, 0, none⟩ (.int .i64 ((n : Int) + 1))) := by
 have hS : S wb := by obtain ⟨_, _, h1, _⟩ := hw; exact h1.own
 have hg := h.row.lt g rfl
 have hk : k = bs.length := by
   obtain ⟨_, h2⟩ := h.row
   rcases h2 with ⟨h3, _⟩ | ⟨_, _, _, h3, _⟩
   · cases h3
   · simp at h3; exact h3.2.1
 subst hk
 have hrow : (W.drewN q).ownsRow (wb + 1) 5 1 (.slice (some ⟨g, 0, none⟩) bs.length cap) bs.length (bs.map fun b => .int .u8 b.toNat) := zab h.row (zak (Below.refl _ _) q)
 have hset := own_setL hrow (n / 8) (.int .u8 x)
 rw [show x = (((UInt8.ofNat ((bs.getD (n / 8) 0).toNat ||| 2 ^ zbj n high)).toNat : Nat) : Int) from by rw [or_byte _ _ (zdv _ _)]; exact hx, zf3] at hset
 rw [show x = (((UInt8.ofNat ((bs.getD (n / 8) 0).toNat ||| 2 ^ zbj n high)).toNat : Nat) : Int) from by rw [or_byte _ _ (zdv _ _)]; exact hx]
 have hset2 := zba hset (a := ⟨wb, 0, none⟩) (fun e => by simp [Value.ownBlock] at e; omega) (.int .i64 ((n : Int) + 1))
 refine half_end (bs2 := bs.set (n / 8) (UInt8.ofNat ((bs.getD (n / 8) 0).toNat ||| 2 ^ zbj n high))) hw h ?_ (by simpa using hset2) (((h.keeps.drewN q).setCell (h.at_ g rfl) _).setCell (.inl hS) _) hn (by rw [hn]; exact wrote_one h.room)
 have h1 : ((W.drewN q).setCell ⟨g, n / 8, none⟩ (.int .u8 ((UInt8.ofNat ((bs.getD (n / 8) 0).toNat ||| 2 ^ zbj n high)).toNat : Nat))).heap[wb]? = some (.cells (fl 4 (wrV n high (.slice (some ⟨g, 0, none⟩) bs.length cap))).toArray 86 (0, 0)) := by
   rw [heap_setCell_other _ _ _ _ (by show wb ≠ g; omega)]; exact h.blk
 rw [zaM h1]
 exact congrArg (fun x => some (Obj.cells (List.toArray x) _ _)) (zal fun i _ => wrV_set _ _ _ _)
theorem half_row {w W : World} {S : Nat → Prop} {wb : Nat} {high : Bool} {B : List Bool} {bs : List UInt8} {n : Nat} {v : Value} (h : Half w S wb high B bs n v W) (hn : n = B.length) :
   ∃ g cap, v = .slice (some ⟨g, 0, none⟩) bs.length cap ∧ wb < g ∧ n / 8 < bs.length ∧ W.cell? ⟨g, n / 8, none⟩ = some (.int .u8 (bs.getD (n / 8) 0).toNat) ∧ W.frozen? ⟨g, n / 8, none⟩ = false := by
 have hlen : n / 8 < bs.length := by have := h.room.1; omega
 obtain ⟨h1, h2⟩ := h.row
 rcases h2 with ⟨_, h4⟩ | ⟨g, cap, cur, hv, hg, hh, hle, hm, hc, ht⟩
 · omega
 · refine ⟨g, cap, hv, by omega, hlen, ?_, frozen_of_row W g _ _ _ hh⟩
   have hcell := h.row.cells (g := g) (by rw [hv]; rfl) (n / 8) (.int .u8 (bs.getD (n / 8) 0).toNat) (by simp [hlen, List.getD])
   rwa [Addr.add_lit, Nat.zero_add] at hcell
theorem blk_after {w w1 : World} {S : Nat → Prop} {wb : Nat} {high : Bool} {bs : List UInt8} {n : Nat} {v : Value} (hw : IsWr w S wb high bs n v) (o : Obj) (hg : (w.alloc o).grownBy w1 v.ownBlock) :
   w1.heap[wb]? = some (.cells (fl 4 (wrV n high v)).toArray 86 (0, 0)) :=
 (hg.block wb (by rw [zad]; have := (hw.lt wb hw.own).2; omega) (fun e => by have := (hw.row.lt wb e.symm).1; omega)).trans ((Below.heap_alloc w o wb (hw.lt wb hw.own).2).trans hw.blk)
theorem zbu {w : World} {wb n : Nat} {high : Bool} {v : Value} (h : w.heap[wb]? = some (.cells (fl 4 (wrV n high v)).toArray 86 (0, 0))) :
   w.cell? ⟨wb, 0, none⟩ = some (.int .i64 n) ∧ w.cell? ⟨wb, 1, none⟩ = some (.bool high) ∧ w.cell? ⟨wb, 3, none⟩ = some v ∧ ∀ i, w.frozen? ⟨wb, i, none⟩ = false :=
 ⟨zan h 0 (by omega), zan h 1 (by omega), zan h 3 (by omega), fun i => zaT h i⟩
theorem bit_zero (wb : Nat) (high : Bool) (B : List Bool) (S : Nat → Prop) (w : World) (h : WrQ w S wb high B) (hlt : B.length < 1099511627776) :
   Calls Tryz.prog 106 #[.pointer (some ⟨wb, 0, none⟩), .bool false] w fun e w' => e = .returned (.tuple #[]) ∧ zac w S wb high (B ++ [false]) w' := by
 have HQ := Lib.hid h
 obtain ⟨bs, v, hw, hq⟩ := h
 obtain ⟨h0, h1, h3, hf⟩ := zbu hw.blk
 have hf0 := hf 0
 have hf3 := hf 3
 have hl := hq.1
 have hbs : bs.length ≤ 1099511627776 := by omega
 have hsz := (hw.lt wb hw.own).2
 have HW := Lib.hid hw
 have HWQ := Lib.hid hq
 obtain ⟨n, hn⟩ : ∃ n, n = B.length := ⟨_, rfl⟩
 rw [← hn] at h0
 have HN := Lib.hid hn
 have hnb : n < 1099511627776 := by omega
 by_cases h8 : n % 8 = 0
 · have hand : bits .and .i64 (n : Int) 7 = 0 := by rw [zch]; omega
   clear hw hq hf hl h8 hn
   go_enter Tryz.func106, Tryz.ntmps106
   go_wp2_with (at_builtin; refine zb9 ETB rfl (.tmp 15) (.tmp 16) rfl (wb + 1) v bs.length _ rfl (HW.out.row.alloc _) _ 1 _ _ rfl (zaS _ _ _) (zbN rfl) (by unfold maxLen; omega) (by omega) (by rw [zad]; omega) ?_; intro v' w5 hO5 hg5 hN5; obtain ⟨a5, c5, rfl, _, _⟩ := Row.of_owns hO5; have HALF := Lib.hid (half_pad HW.out HWQ.out (by have := HN.out; have := zch (n : Int); omega) _ hO5 hg5 hN5); obtain ⟨k0, k1, k3, kf⟩ := zbu (blk_after HW.out _ hg5); rw [← HN.out] at k0; have kf0 := kf 0; have kf3 := kf 3; clear hO5 hg5 hN5 kf)
   go_end0
   have hz := half_zero HQ.out HALF.out rfl
   rw [← HN.out] at hz
   exact ⟨rfl, hz⟩
 · have hand : bits .and .i64 (n : Int) 7 = ((n % 8 : Nat) : Int) := by rw [zch]; omega
   have hne : (((n % 8 : Nat) : Int) == 0) = false := by rw [beq_eq_false_iff_ne]; omega
   have HALF := Lib.hid (half_in hw hq (by omega))
   clear hw hq hf hl h8 hn
   go_enter Tryz.func106, Tryz.ntmps106
   go_wp2
   go_end0
   have hz := half_zero HQ.out HALF.out rfl
   rw [← HN.out] at hz
   exact ⟨rfl, hz⟩
theorem or_mask {bs : List UInt8} {n x : Nat} {high : Bool} (hx : x = (bs.getD (n / 8) 0).toNat) : bits .or .u8 (x : Int) (zee n high) = (((bs.getD (n / 8) 0).toNat ||| 2 ^ zbj n high : Nat) : Int) := by
 have h1 : x < 256 := by rw [hx]; exact (bs.getD (n / 8) 0).toNat_lt
 have h2 : 2 ^ zbj n high < 256 := Nat.lt_of_lt_of_le (Nat.pow_lt_pow_right (by omega) (zdv n high)) (by omega)
 unfold zee
 rw [u8_or_nat x _ h1 h2, hx]
theorem bit_one (wb : Nat) (high : Bool) (B : List Bool) (S : Nat → Prop) (w : World) (h : WrQ w S wb high B) (hlt : B.length < 1099511627776) :
   Calls Tryz.prog 106 #[.pointer (some ⟨wb, 0, none⟩), .bool true] w fun e w' => e = .returned (.tuple #[]) ∧ zac w S wb high (B ++ [true]) w' := by
 have HQ := Lib.hid h
 obtain ⟨bs, v, hw, hq⟩ := h
 obtain ⟨h0, h1, h3, hf⟩ := zbu hw.blk
 have hf0 := hf 0
 have hf3 := hf 3
 have hl := hq.1
 have hbs : bs.length ≤ 1099511627776 := by omega
 have hsz := (hw.lt wb hw.own).2
 have HW := Lib.hid hw
 have HWQ := Lib.hid hq
 obtain ⟨n, hn⟩ : ∃ n, n = B.length := ⟨_, rfl⟩
 rw [← hn] at h0
 have HN := Lib.hid hn
 have hnb : n < 1099511627776 := by omega
 by_cases h8 : n % 8 = 0
 · have hand : bits .and .i64 (n : Int) 7 = 0 := by rw [zch]; omega
   clear hw hq hf hl h8 hn
   go_enter Tryz.func106, Tryz.ntmps106
   go_wp2_with (at_builtin; refine zb9 ETB rfl (.tmp 15) (.tmp 16) rfl (wb + 1) v bs.length _ rfl (HW.out.row.alloc _) _ 1 _ _ rfl (zaS _ _ _) (zbN rfl) (by unfold maxLen; omega) (by omega) (by rw [zad]; omega) ?_; intro v' w5 hO5 hg5 hN5; obtain ⟨a5, c5, rfl, _, _⟩ := Row.of_owns hO5; have HALF := Lib.hid (half_pad HW.out HWQ.out (by have := HN.out; have := zch (n : Int); omega) _ hO5 hg5 hN5); obtain ⟨k0, k1, k3, kf⟩ := zbu (blk_after HW.out _ hg5); rw [← HN.out] at k0; have kf0 := kf 0; have kf3 := kf 3; clear hO5 hg5 hN5 kf)
   clear k0 k1 k3 kf0 kf3 h0 h1 h3 hf0 hf3 hand
   generalize w5.setCell ⟨wb, 3, none⟩ (.slice a5 (bs.length + 1) c5) = W at *
   obtain ⟨g, c, hv, hwg, hix, hcell, hfree⟩ := half_row HALF.out rfl
   rw [← HN.out] at hix hcell hfree
   simp only [Value.slice.injEq] at hv
   obtain ⟨rfl, hlen, rfl⟩ := hv
   obtain ⟨k0, k1, k3, kf⟩ := zbu HALF.out.blk
   rw [← HN.out] at k0
   have kf0 := kf 0
   have hmask := zdT wb 0 n high
   obtain ⟨x, hx⟩ : ∃ x, x = ((bs ++ [0]).getD (n / 8) 0).toNat := ⟨_, rfl⟩
   rw [← hx] at hcell
   have HX := Lib.hid hx
   have HM := Lib.hid hmask
   have hdi : ((n : Int) / 8).toNat = n / 8 := by omega
   have hix2 : (n : Int) / 8 < (bs.length : Int) + 1 := by rw [List.length_append] at hix; simp at hix; omega
   have hix0 : (0 : Int) ≤ (n : Int) / 8 := by omega
   clear hmask hx kf hix hlen
   refine wp_region_still_tail 18 (by kernel_rfl) (by kernel_rfl) ?_
   simp only [List.take_succ_cons, List.take_zero, List.drop_succ_cons, List.drop_zero]
   repeat still_step
   still_call ((HM.out _ (by exact k0) (by exact k1)).mono fun e w' ⟨he, hw⟩ => ⟨he, hw.symm⟩)
   repeat still_step
   refine wpStill_nil ?_
   change wpList _ _ _ _ _ (W.drewN 1)
   have hgw : g ≠ wb := by omega
   go_wp2
   go_end0
   have hz := half_one 1 HQ.out HALF.out rfl (bits .or .u8 (x : Int) (zee n high)) (by rw [← HN.out]; exact or_mask HX.out)
   rw [← HN.out] at hz
   exact ⟨rfl, hz⟩
 · have hand : bits .and .i64 (n : Int) 7 = ((n % 8 : Nat) : Int) := by rw [zch]; omega
   have hne : (((n % 8 : Nat) : Int) == 0) = false := by rw [beq_eq_false_iff_ne]; omega
   have HALF := Lib.hid (half_in hw hq (by omega))
   clear hw hq hf hl h8 hn h0 h1 h3 hf0 hf3
   obtain ⟨g, c, hv, hwg, hix, hcell, hfree⟩ := half_row HALF.out rfl
   rw [← HN.out] at hix hcell hfree
   subst hv
   obtain ⟨k0, k1, k3, kf⟩ := zbu HALF.out.blk
   rw [← HN.out] at k0
   have kf0 := kf 0
   have hmask := zdT wb 0 n high
   obtain ⟨x, hx⟩ : ∃ x, x = (bs.getD (n / 8) 0).toNat := ⟨_, rfl⟩
   rw [← hx] at hcell
   have HX := Lib.hid hx
   have HM := Lib.hid hmask
   have hdi : ((n : Int) / 8).toNat = n / 8 := by omega
   have hix2 : (n : Int) / 8 < (bs.length : Int) := by omega
   have hix0 : (0 : Int) ≤ (n : Int) / 8 := by omega
   clear hmask hx kf hix
   go_enter Tryz.func106, Tryz.ntmps106
   go_wp2
   refine wp_region_still_tail 18 (by kernel_rfl) (by kernel_rfl) ?_
   simp only [List.take_succ_cons, List.take_zero, List.drop_succ_cons, List.drop_zero]
   repeat still_step
   still_call ((HM.out _ (by exact k0) (by exact k1)).mono fun e w' ⟨he, hw⟩ => ⟨he, hw.symm⟩)
   repeat still_step
   refine wpStill_nil ?_
   change wpList _ _ _ _ _ (w.drewN 1)
   have hgw : g ≠ wb := by omega
   go_wp2
   go_end0
   have hz := half_one 1 HQ.out HALF.out rfl (bits .or .u8 (x : Int) (zee n high)) (by rw [← HN.out]; exact or_mask HX.out)
   rw [← HN.out] at hz
   exact ⟨rfl, hz⟩
theorem wbit_any (wb : Nat) (high one : Bool) (B : List Bool) (S : Nat → Prop) (w : World) (h : WrQ w S wb high B) (hlt : B.length < 1099511627776) :
   Calls Tryz.prog 106 #[.pointer (some ⟨wb, 0, none⟩), .bool one] w fun e w' => e = .returned (.tuple #[]) ∧ zac w S wb high (B ++ [one]) w' := by
 cases one
 · exact bit_zero wb high B S w h hlt
 · exact bit_one wb high B S w h hlt
theorem new_wr (high : Bool) (w : World) : Calls Tryz.prog 28 #[.bool high] w fun e w' => e = .returned (.pointer (some ⟨w.heap.size, 0, none⟩)) ∧ WrQ w' (fun b => b = w.heap.size) w.heap.size high [] ∧ Below w.heap.size w w' ∧ w'.heap.size = w.heap.size + 1 := by
 go_enter Tryz.func28, Tryz.ntmps28
 go_wp2
 go_ret
 refine ⟨rfl, ⟨[], .slice none 0 0, ⟨zah _ rfl, World.ownsRow_nil _ _ _ _, fun b h => (by cases h), rfl, fun b h => (by rw [zad]; have h2 : b = w.heap.size := h; omega)⟩, wrote_nil high⟩, zai _ _, zad _ _⟩
theorem bit_test (x t : Nat) (hx : x < 4294967296) : (bits .and .u32 ((x : Int) / 2 ^ t) 1 == 1) = x.testBit t := by
 have e : (x : Int) / 2 ^ t = ((x / 2 ^ t : Nat) : Int) := by simp only [Int.natCast_ediv, Int.natCast_pow, Int.cast_ofNat_Int]
 have hl : x / 2 ^ t < 4294967296 := Nat.lt_of_le_of_lt (Nat.div_le_self _ _) hx
 rw [e, show (1 : Int) = ((1 : Nat) : Int) from rfl, u32_and_nat _ 1 hl (by omega), Nat.and_one_is_mod, Nat.testBit_eq_decide_div_mod_eq, Bool.eq_iff_iff]
 simp
 omega
theorem putL_succ (x : Nat) (high : Bool) (n k : Nat) : putL x high n (k + 1) = putL x high n k ++ [x.testBit (zbv k n high)] := rfl
theorem wput_any (wb n x : Nat) (high : Bool) (B : List Bool) (S : Nat → Prop) (w : World) (h : WrQ w S wb high B) (hlt : B.length < 549755813888) (hn : n ≤ 32) (hx : x < 2 ^ n) :
   Calls Tryz.prog 81 #[.pointer (some ⟨wb, 0, none⟩), .int .u32 x, .int .i64 n] w fun e w' => e = .returned (.int .i64 0) ∧ zac w S wb high (B ++ putL x high n n) w' := by
 have HQ := Lib.hid h
 have hdead : Calls Tryz.prog 56 #[.pointer (some ⟨wb, 0, none⟩)] w fun e w' => e = .returned (.bool false) ∧ w = w' := by
   obtain ⟨bs, v, hw, hq⟩ := h
   exact zd8 hw
 have HD := Lib.hid hdead
 have hx32 : x < 4294967296 := Nat.lt_of_lt_of_le hx (pow32 hn)
 have hdiv : x / 2 ^ n = 0 := Nat.div_eq_of_lt hx
 have HX := Lib.hid hx
 have HDV := Lib.hid hdiv
 have hN1 : decide ((n : Int) < 0) = false := by simp
 have hN2 : decide (32 < (n : Int)) = false := by simp; omega
 have hN3 : ((x : Int) / 2 ^ n != 0) = false := by
   have e : (x : Int) / 2 ^ n = ((x / 2 ^ n : Nat) : Int) := by simp only [Int.natCast_ediv, Int.natCast_pow, Int.cast_ofNat_Int]
   rw [e, hdiv]; rfl
 clear h hdead hx hdiv
 go_enter Tryz.func81, Tryz.ntmps81
 go_wp2_with (go_at_call 56; refine HD.out.mono ?_; rintro e w' ⟨rfl, rfl⟩)
 go_loopw [26] (fun i wr => ∃ (k : Nat) (S' : Nat → Prop), k ≤ n ∧ i = .int .i64 k ∧ Hid (WrQ wr S' wb high (B ++ putL x high n k)) ∧ Hid (zaa S w wr) ∧ Hid (∀ b, S' b → S b ∨ w.heap.size ≤ b)) (fun i _ => n - (intOf i).toNat)
 case atStart => exact ⟨0, S, by omega, rfl, Lib.hid (by simpa [putL] using HQ.out), Lib.hid (zaa.refl _ _), Lib.hid (fun b h => .inl h)⟩
 case round =>
   obtain ⟨k, S', hk, rfl, HQk, HK, HS⟩ := hrel
   by_cases hlt2 : k < n
   · have hbt := bit_test x (zbv k n high) hx32
     have hc1 : wr.cell? ⟨wb, 1, none⟩ = some (.bool high) := by
       obtain ⟨bs, v, hw, hq⟩ := HQk.out
       exact (zbu hw.blk).2.1
     have hbit := wbit_any wb high (x.testBit (zbv k n high)) (B ++ putL x high n k) S' wr HQk.out (by rw [List.length_append, zag]; omega)
     have ht32 : zbv k n high < 32 := by unfold zbv; split <;> omega
     generalize hone : x.testBit (zbv k n high) = one at hbt hbit
     have HONE := Lib.hid hone
     clear hone
     have HB := Lib.hid hbit
     clear hbit
     go_wp2_with fail
     refine (turn_any wb 0 k n high _ (by simpa using hc1) hlt2 hn).mono ?_
     rintro e w' ⟨rfl, rfl⟩
     go_wp2_with fail
     refine HB.out.mono ?_
     rintro e w2 ⟨rfl, S2, hQ2, hK2, hS2⟩
     have HQ2 := Lib.hid hQ2
     have HK2 := Lib.hid (HK.out.trans hK2 HS.out)
     have HS2 := Lib.hid (show ∀ b, S2 b → S b ∨ w.heap.size ≤ b from fun b hb => (hS2 b hb).elim (HS.out b) (fun h => .inr (Nat.le_trans HK.out.size h)))
     clear hQ2 hK2 hS2
     go_wp2
     go_roundw
     case rel => exact ⟨k + 1, S2, by omega, by go_num, by rw [putL_succ, HONE.out, ← List.append_assoc]; exact HQ2, HK2, HS2⟩
     case measure => simp [intOf]; omega
   · obtain rfl : k = n := by omega
     go_wp2
     go_ret
     exact ⟨rfl, S', HQk.out, HK.out, HS.out⟩
theorem wbytes_any (wb : Nat) (high : Bool) (B : List Bool) (S : Nat → Prop) (w : World) (h : WrQ w S wb high B) (hlt : B.length < 549755813888) :
   Calls Tryz.prog 30 #[.pointer (some ⟨wb, 0, none⟩)] w fun e w' => ∃ bs v, za5 bs high B ∧ e = .returned v ∧ w'.ownsRow w.heap.size 5 1 v bs.length (bs.map fun b => .int .u8 b.toNat) ∧ Below w.heap.size w w' := by
 obtain ⟨bs, v, hw, hq⟩ := h
 have hdead := zd8 hw
 have h3 := (zbu hw.blk).2.2.1
 obtain ⟨a, c, rfl, hr, _⟩ := Row.of_owns hw.row
 have hl := hq.1
 have hcl := cloneB a bs.length c _ w hr (by intro u hu; simp at hu; obtain ⟨x, _, rfl⟩ := hu; rfl) (by omega)
 have HD := Lib.hid hdead
 have HC := Lib.hid hcl
 have HQ := Lib.hid hq
 clear hdead hcl hw hq hr hl
 go_enter Tryz.func30, Tryz.ntmps30
 go_wp2_with (first
   | (go_at_call 56; refine HD.out.mono ?_; rintro e w' ⟨rfl, rfl⟩)
   | (go_at_call 57; refine HC.out.mono ?_; rintro e w1 ⟨v, rfl, hO, hb, hnn⟩; have HO := Lib.hid hO; have HB := Lib.hid hb; clear hO hb hnn))
 go_ret
 exact ⟨bs, _, HQ.out, rfl, HO.out, HB.out⟩
end Go.Proofs.YtkikhmdpcanidaaGreat
namespace Go.Proofs.YtkikhmdpcanidaaGreat
open Go.RowKit Go.Sort
theorem bit_of (x u : Nat) (high : Bool) : putL (x / 2 ^ u % 2) high 1 1 = [x.testBit u] := by
 have ht : zbv 0 1 high = 0 := by unfold zbv; cases high <;> rfl
 simp only [putL, ht, List.nil_append]
 rw [Nat.testBit_eq_decide_div_mod_eq, Nat.testBit_eq_decide_div_mod_eq]
 simp
theorem and_one (x u : Nat) (hx : x < 4294967296) : bits .and .u32 ((x : Int) / 2 ^ u) 1 = ((x / 2 ^ u % 2 : Nat) : Int) := by
 have e : (x : Int) / 2 ^ u = ((x / 2 ^ u : Nat) : Int) := by simp only [Int.natCast_ediv, Int.natCast_pow, Int.cast_ofNat_Int]
 have hl : x / 2 ^ u < 4294967296 := Nat.lt_of_le_of_lt (Nat.div_le_self _ _) hx
 rw [e, show (1 : Int) = ((1 : Nat) : Int) from rfl, u32_and_nat _ 1 hl (by omega), Nat.and_one_is_mod]
structure PutFacts (W : World) (p : Nat) (bL oL bC oC n cL cC s : Nat) (x : Int) (m : Int) : Prop where
 c0 : W.cell? ⟨p, 0, none⟩ = some (.slice (some ⟨bL, oL, none⟩) n cL)
 c1 : W.cell? ⟨p, 1, none⟩ = some (.slice (some ⟨bC, oC, none⟩) n cC)
 l : W.cell? ⟨bL, oL + s, none⟩ = some (.int .i64 m)
 x : W.cell? ⟨bC, oC + s, none⟩ = some (.int .u32 x)
theorem put_facts {w : World} {Bl : Nat → Prop} {p : Nat} {l : List Int} (h : IsTb w Bl p l) (s : Nat) (hs : s < l.length) :
   ∃ bL oL bC oC cL cC, ∀ W S, zaa S w W → (∀ b, Bl b → ¬ S b) → PutFacts W p bL oL bC oC l.length cL cC s (zay l s) (l.getD s 0) := by
 obtain ⟨⟨aL, cL, aC, cC, aS, cS, srt, hT, hL, hC, hS, hso, b1, b2, b3, hnn⟩, hroom, hp⟩ := h
 obtain ⟨bL, oL, rfl, _, hcL⟩ := hL.at 0 s hs
 obtain ⟨bC, oC, rfl, _, hcC⟩ := Row.at (enc := id) (.bool false) (l := fl l.length (cdV l l.length)) (by simpa using hC) s hs
 refine ⟨bL, oL, bC, oC, cL, cC, fun W S hk hd => ?_⟩
 have k0 := zan hT 0 (by omega)
 have k1 := zan hT 1 (by omega)
 unfold tbV at k0 k1
 simp only [if_true, Nat.one_ne_zero, if_false] at k0 k1
 have k3 := hcC s hs
 rw [id, show (fl l.length (cdV l l.length)).getD s (.bool false) = .int .u32 (zay l s) from by simp [fl, hs, cdV]] at k3
 exact ⟨hk.cell k0 (hd p hp), hk.cell k1 (hd p hp), hk.cell (hcL s hs) (hd _ (b1 _ rfl)), hk.cell k3 (hd _ (b2 _ rfl))⟩
theorem tput_ok (Bl : Nat → Prop) (p wb s : Nat) (l : List Int) (high : Bool) (B : List Bool) (S : Nat → Prop) (w : World) (hT : IsTb w Bl p l) (h : WrQ w S wb high B) (hS : ∀ b, Bl b → ¬ S b) (hlt : B.length < 274877906944) (hs : s < l.length) (hp : 0 < l.getD s 0) :
   Calls Tryz.prog 93 #[.pointer (some ⟨p, 0, none⟩), .pointer (some ⟨wb, 0, none⟩), .int .i64 s] w fun e w' => e = .returned (.int .i64 0) ∧ zac w S wb high (B ++ za8 l s (lenN l s)) w' := by
 have HQ := Lib.hid h
 have hdead := tdead_any Bl p l w hT
 have HD := Lib.hid hdead
 have h15 := zbf (zar hT.room).2.2.1 (l.getD s 0) (by simp [List.getD, hs])
 have hcode := code_lt hT.room hs hp
 have hcb := zcw hT.room s
 obtain ⟨bL, oL, bC, oC, cL, cC, hpf⟩ := put_facts hT s hs
 obtain ⟨m, hm⟩ : ∃ m, m = lenN l s := ⟨_, rfl⟩
 obtain ⟨x, hx⟩ : ∃ x : Nat, x = (zay l s).toNat := ⟨_, rfl⟩
 have hcB : ∀ u j, u + 1 + j = m → codeB l s j = x.testBit u := by
   intro u j hj
   unfold codeB
   rw [← hx, ← hm, show m - 1 - j = u from by omega]
 have HCB := Lib.hid hcB
 rw [show zay l s = (x : Int) from by omega, show l.getD s 0 = (m : Int) from by rw [hm, lenN]; omega] at hpf
 have HPF := Lib.hid fun W hk => hpf W S hk hS
 have hx32 : x < 4294967296 := by omega
 rw [← hm]
 have hm0 : 0 < m := by rw [hm]; unfold lenN; omega
 have hm15 : m ≤ 15 := by rw [hm]; unfold lenN; omega
 have hf0 := hpf w S (zaa.refl _ _) hS
 obtain ⟨f0, f1, f2, f3⟩ := hf0
 have hN1 : decide ((s : Int) < 0) = false := by simp
 have hN2 : decide (l.length ≤ s) = false := by simp; omega
 have hmz : ((m : Int) == 0) = false := by rw [beq_eq_false_iff_ne]; omega
 have hll := (zar hT.room).2.1
 generalize l.length = n at *
 clear h hdead hT hS hpf hcB hm hx hcode hcb hp h15
 go_enter Tryz.func93, Tryz.ntmps93
 go_wp2_with (go_at_call 122; refine HD.out.mono ?_; rintro e w' ⟨rfl, rfl⟩)
 clear f0 f1 f2 f3
 go_loopw [7] (fun kv wr => ∃ (u j : Nat) (S' : Nat → Prop), kv = .int .i64 ((u : Int) - 1) ∧ u ≤ m ∧ Hid (u + j = m) ∧ Hid (WrQ wr S' wb high (B ++ za8 l s j)) ∧ Hid (zaa S w wr) ∧ Hid (∀ b, S' b → S b ∨ w.heap.size ≤ b)) (fun kv _ => (intOf kv + 1).toNat)
 case atStart => exact ⟨m, 0, S, by go_num, Nat.le_refl _, Lib.hid rfl, Lib.hid (by simpa [za8] using HQ.out), Lib.hid (zaa.refl _ _), Lib.hid (fun b h => .inl h)⟩
 case round =>
   obtain ⟨u, j, S', rfl, hu, HU, HQk, HK, HS⟩ := hrel
   rcases u with _ | u
   · go_wp2
     go_ret
     have hj : j = m := by have := HU.out; omega
     subst hj
     exact ⟨rfl, S', HQk.out, HK.out, HS.out⟩
   · rw [show (((u + 1 : Nat) : Int) - 1) = (u : Int) from by omega]
     obtain ⟨f0, f1, f2, f3⟩ := HPF.out wr HK.out
     have hand := and_one x u hx32
     have hy2 : x / 2 ^ u % 2 < 2 := Nat.mod_lt _ (by omega)
     have hput := wput_any wb 1 (x / 2 ^ u % 2) high (B ++ za8 l s j) S' wr HQk.out (by have := HU.out; rw [List.length_append, zax]; omega) (by omega) (by omega)
     rw [bit_of, ← HCB.out u j (by have := HU.out; omega), List.append_assoc, ← codeL_succ] at hput
     generalize x / 2 ^ u % 2 = y at hput hand hy2
     have HP := Lib.hid hput
     clear hput
     go_wp2_with fail
     refine HP.out.mono ?_
     rintro e w2 ⟨rfl, S2, hQ2, hK2, hS2⟩
     have HQ2 := Lib.hid hQ2
     have HK2 := Lib.hid (HK.out.trans hK2 HS.out)
     have HS2 := Lib.hid (show ∀ b, S2 b → S b ∨ w.heap.size ≤ b from fun b hb => (hS2 b hb).elim (HS.out b) (fun h => .inr (Nat.le_trans HK.out.size h)))
     clear hQ2 hK2 hS2 f0 f1 f2 f3
     go_wp2
     go_roundw
     case rel => exact ⟨u, j + 1, S2, by go_num, by omega, Lib.hid (by have := HU.out; omega), HQ2, HK2, HS2⟩
     case measure => simp [intOf]
theorem zc7 {l : List Int} (hok1 : hok l = true) (s : Nat) : lenN l s ≤ 15 := by
 unfold lenN
 by_cases h : s < l.length
 · have := zbf hok1 (l.getD s 0) (by simp [List.getD, h]); omega
 · simp [List.getD, h]
theorem WrQ.keeps {w w' : World} {S T : Nat → Prop} {wb : Nat} {high : Bool} {B : List Bool} (h : WrQ w S wb high B) (hk : zaa T w w') (hT : ∀ b, S b → ¬ T b) : WrQ w' S wb high B := by
 obtain ⟨bs, v, hw, hq⟩ := h
 exact ⟨bs, v, ⟨hk.obj hw.blk (hT wb hw.own), zao hw.row hk (fun b hb => hT b (hw.at_ b hb)), hw.at_, hw.own, fun b hb => ⟨(hw.lt b hb).1, Nat.lt_of_lt_of_le (hw.lt b hb).2 hk.size⟩⟩, hq⟩
theorem WrQ.lt {w : World} {S : Nat → Prop} {wb : Nat} {high : Bool} {B : List Bool} (h : WrQ w S wb high B) : ∀ b, S b → wb ≤ b ∧ b < w.heap.size := by
 obtain ⟨bs, v, hw, hq⟩ := h
 exact hw.lt
def symV (ss : List Nat) : List Value := ss.map fun s : Nat => Value.int .i64 (s : Int)
theorem symV_snoc (ss : List Nat) (s : Nat) : symV (ss ++ [s]) = symV ss ++ [.int .i64 (s : Int)] := by simp [symV]
structure BackAt (l : List Int) (high : Bool) (wb : Nat) (w2 : World) (ss : List Nat) (v : Value) (S : Nat → Prop) (wr : World) : Prop where
 wr_ : WrQ wr S wb high (zcV l ss)
 own : wr.ownsRow (wb + 1) 3 1 v ss.length (symV ss)
 apart : ∀ b, v.ownBlock = some b → ¬ S b
 below : Below wb w2 wr
 may : ∀ s ∈ ss, s < l.length ∧ 0 < l.getD s 0
theorem BackAt.next {l : List Int} {high : Bool} {wb : Nat} {w2 wr w5 w6 : World} {ss : List Nat} {s : Nat} {v v' : Value} {S : Nat → Prop} (h : BackAt l high wb w2 ss v S wr) (hs : s < l.length) (hp : 0 < l.getD s 0) (hwb : wb ≤ w2.heap.size)
   (hn : zac wr S wb high (zcV l ss ++ za8 l s (lenN l s)) w5) (o : Obj) (hO : w6.ownsRow (wb + 1) 3 1 v' (ss.length + 1) (symV ss ++ [.int .i64 (s : Int)])) (hg : (w5.alloc o).grownBy w6 v.ownBlock) (hN : zf5 (w5.alloc o) v v') :
   ∃ S', BackAt l high wb w2 (ss ++ [s]) v' S' w6 := by
 obtain ⟨S2, hq, hk, hS⟩ := hn
 rw [← bitsOf_snoc] at hq
 have hlt := hq.lt
 have hlt0 := h.wr_.lt
 have hb2 := h.below.size
 have hv2 : ∀ b, v.ownBlock = some b → ¬ S2 b := fun b hb hc => by
   have h1 := h.own.lt b hb
   rcases hS b hc with h2 | h2
   · exact h.apart b hb h2
   · omega
 have hk2 : zaa (fun b => v.ownBlock = some b) w5 w6 := ((zaa.refl _ w5).alloc o).grown hg (fun k hk => .inl hk)
 refine ⟨S2, ⟨hq.keeps hk2 (fun b hb hc => hv2 b hc hb), ?_, fun b hb hc => ?_, ?_, fun x hx => ?_⟩⟩
 · rw [symV_snoc, List.length_append]; exact hO
 · rcases hN b hb with h1 | h1
   · exact hv2 b h1 hc
   · rw [zad] at h1; have := (hlt b hc).2; omega
 · refine h.below.trans (Below.trans (hk.below (B := wb) (by omega) (fun b hb => (hlt0 b hb).1)) ?_)
   exact hk2.below (by have := hk.size; omega) (fun b hb => by have := (h.own.lt b hb).1; omega)
 · rcases List.mem_append.1 hx with h1 | h1
   · exact h.may x h1
   · simp at h1; subst h1; exact ⟨hs, hp⟩
end Go.Proofs.YtkikhmdpcanidaaGreat
namespace Go.Proofs.YtkikhmdpcanidaaGreat
open Go.RowKit
def wrA (wb : Nat) : Value := .agg #[.pointer (some ⟨wb, 0, none⟩)]
theorem WrQ.alloc {w : World} {S : Nat → Prop} {wb : Nat} {high : Bool} {B : List Bool} (h : WrQ w S wb high B) (o : Obj) : WrQ (w.alloc o) S wb high B :=
 h.keeps (T := fun _ => False) ((zaa.refl _ w).alloc o) (fun _ _ => id)
theorem WrQ.out {w : World} {S : Nat → Prop} {wb : Nat} {high : Bool} {B : List Bool} (h : WrQ w S wb high B) : ¬ S w.heap.size := fun hs => by have := (h.lt _ hs).2; omega
section
variable {w0 w : World} {S : Nat → Prop} {wb : Nat} {B : List Bool}
theorem zac.cell {high : Bool} (h : zac w0 S wb high B w) {b k : Nat} {v : Value} (hc : w0.cell? ⟨b, k, none⟩ = some v) (hn : ¬ S b) : w.cell? ⟨b, k, none⟩ = some v := by
 obtain ⟨S1, -, k1, -⟩ := h
 exact k1.cell hc hn
theorem zac.size {high : Bool} (h : zac w0 S wb high B w) : w0.heap.size ≤ w.heap.size := by
 obtain ⟨S1, -, k1, -⟩ := h
 exact k1.size
theorem zaK (h : zac w0 S wb false B w) (n x : Nat) (hlt : B.length < 549755813888) (hn : n ≤ 32) (hx : x < 2 ^ n) :
   Calls Tryz.prog 81 #[.pointer (some ⟨wb, 0, none⟩), .int .u32 x, .int .i64 n] w fun e w' => e = .returned (.int .i64 0) ∧ zac w0 S wb false (B ++ putL x false n n) w' := by
 obtain ⟨S1, q, k1, s1⟩ := h
 exact (wput_any wb n x false B S1 w q hlt hn hx).mono fun e w' ⟨he, h2⟩ => ⟨he, zac.trans k1 s1 h2⟩
theorem zcp {Bl : Nat → Prop} {p s : Nat} {l : List Int} (h : zac w0 S wb false B w) (hT : IsTb w0 Bl p l) (hS : ∀ b, Bl b → ¬ S b ∧ b < w0.heap.size) (hlt : B.length < 274877906944) (hs : s < l.length) (hp : 0 < l.getD s 0) :
   Calls Tryz.prog 93 #[.pointer (some ⟨p, 0, none⟩), .pointer (some ⟨wb, 0, none⟩), .int .i64 s] w fun e w' => e = .returned (.int .i64 0) ∧ zac w0 S wb false (B ++ za8 l s (lenN l s)) w' := by
 obtain ⟨S1, q, k1, s1⟩ := h
 exact (tput_ok Bl p wb s l false B S1 w (hT.keeps k1 fun b hb => (hS b hb).1) q (fun b hb h1 => by
   rcases s1 b h1 with h2 | h2
   · exact (hS b hb).1 h2
   · have := (hS b hb).2; omega) hlt hs hp).mono fun e w' ⟨he, h2⟩ => ⟨he, zac.trans k1 s1 h2⟩
end
theorem zdh {w : World} {S : Nat → Prop} {wb kind : Nat} {B : List Bool} (last : Bool) (h : WrQ w S wb false B) (hlt : B.length < 274877906944) (hk : kind < 4) :
   Calls Tryz.prog 79 #[wrA wb, .bool last, .int .u32 kind] w fun e w' => e = .returned (.tuple #[]) ∧ zac w S wb false (B ++ zcs last kind) w' := by
 have hc : (w.alloc (.cells #[.pointer (some ⟨wb, 0, none⟩)] 48)).cell? ⟨w.heap.size, 0, none⟩ = some (.pointer (some ⟨wb, 0, none⟩)) := by
   rw [cell_of_row _ _ 0 _ _ _ (heap_alloc_new w _)]; rfl
 have hno : ¬ S w.heap.size := h.out
 have HN := Lib.hid (zac.refl (h.alloc (.cells #[.pointer (some ⟨wb, 0, none⟩)] 48)))
 have HE := Lib.hid (fun (B' : List Bool) (w' : World) (hn : zac (w.alloc (.cells #[.pointer (some ⟨wb, 0, none⟩)] 48)) S wb false B' w') => zac.trans (S := S) ((zaa.refl S w).alloc (.cells #[.pointer (some ⟨wb, 0, none⟩)] 48)) (fun b hb => .inl hb) hn)
 have HX := Lib.hid hno
 clear h hno
 unfold wrA
 cases last with
 | false =>
   go_enter Tryz.func79, Tryz.ntmps79
   go_wp2_with fail
   generalize w.alloc (.cells #[.pointer (some ⟨wb, 0, none⟩)] 48) = w0 at hc HN HE ⊢
   refine (zaK HN.out 1 0 (by omega) (by omega) (by omega)).mono ?_
   rintro e w1 ⟨rfl, h1⟩
   have H1 := Lib.hid h1
   have hc1 := h1.cell hc HX.out
   clear h1
   go_wp2_with fail
   refine (zaK H1.out 2 kind (by rw [List.length_append, zag]; omega) (by omega) hk).mono ?_
   rintro e w2 ⟨rfl, h2⟩
   have H2 := Lib.hid h2
   clear h2
   go_wp2_with fail
   go_end0
   exact ⟨rfl, by have h := HE.out _ _ H2.out; rw [List.append_assoc] at h; exact h⟩
 | true =>
   go_enter Tryz.func79, Tryz.ntmps79
   go_wp2_with fail
   generalize w.alloc (.cells #[.pointer (some ⟨wb, 0, none⟩)] 48) = w0 at hc HN HE ⊢
   refine (zaK HN.out 1 1 (by omega) (by omega) (by omega)).mono ?_
   rintro e w1 ⟨rfl, h1⟩
   have H1 := Lib.hid h1
   have hc1 := h1.cell hc HX.out
   clear h1
   go_wp2_with fail
   refine (zaK H1.out 2 kind (by rw [List.length_append, zag]; omega) (by omega) hk).mono ?_
   rintro e w2 ⟨rfl, h2⟩
   have H2 := Lib.hid h2
   clear h2
   go_wp2_with fail
   go_end0
   exact ⟨rfl, by have h := HE.out _ _ H2.out; rw [List.append_assoc] at h; exact h⟩
theorem wrote_pad {bs : List UInt8} {B : List Bool} (h : za5 bs false B) : za5 bs false (B ++ List.replicate ((B.length + 7) / 8 * 8 - B.length) false) := by
 refine ⟨by rw [h.1, List.length_append, List.length_replicate]; omega, fun i hi => ?_⟩
 rw [h.2 i hi]
 by_cases hl : i < B.length
 · rw [zcr _ _ _ _ hl]
 · rw [zcM _ _ _ _ (by omega), List.getD_eq_getElem?_getD, List.getElem?_eq_none (by omega), List.getD_eq_getElem?_getD, List.getElem?_replicate]
   split <;> rfl
theorem zfk {w : World} {S : Nat → Prop} {wb : Nat} {B : List Bool} (h : WrQ w S wb false B) (hlt : B.length < 274877906944) :
   Calls Tryz.prog 80 #[.pointer (some ⟨wb, 0, none⟩)] w fun e w' => e = .returned (.tuple #[]) ∧ zac w S wb false (B ++ List.replicate ((B.length + 7) / 8 * 8 - B.length) false) w' := by
 obtain ⟨bs, v, hw, hq⟩ := h
 have HD := Lib.hid (zd8 hw)
 have hb := hw.blk
 have c0 := zan hb 0 (by omega)
 have f0 := zaT hb 0
 unfold wrV at c0
 simp only [if_true] at c0
 have HW := Lib.hid hw
 have HQ := Lib.hid hq
 obtain ⟨m, hm⟩ : ∃ m, m = (B.length + 7) / 8 * 8 := ⟨_, rfl⟩
 have hq7 : bits .andNot .i64 ((B.length : Int) + 7) 7 = (m : Int) := by
   have h := zed (B.length + 7) (by omega)
   rw [hm, ← h]; rfl
 have HM := Lib.hid hm
 have hml : B.length ≤ m := by omega
 clear hm
 have hand : IntKind.i64.wrap (((B.length : Int) + 7)) = (B.length : Int) + 7 := IntWalk.i64_in _ (by omega)
 clear hw hq hb
 go_enter Tryz.func80, Tryz.ntmps80
 go_wp2_with (go_at_call 56; refine HD.out.mono ?_; rintro e w' ⟨rfl, rfl⟩)
 go_end0
 refine ⟨rfl, S, ⟨bs, v, ⟨?_, zba HW.out.row (fun e => by have := (HW.out.row.lt _ e).1; simp at this; omega) _, HW.out.at_, HW.out.own, fun b hb => ⟨(HW.out.lt b hb).1, Nat.lt_of_lt_of_le (HW.out.lt b hb).2 ((zaa.refl S w).setCell (a := ⟨wb, 0, none⟩) (.inl HW.out.own) _).size⟩⟩, ?_⟩, (zaa.refl S w).setCell (a := ⟨wb, 0, none⟩) (.inl HW.out.own) _, fun b hb => .inl hb⟩
 · rw [zaM HW.out.blk]
   exact congrArg (fun x => some (Obj.cells (List.toArray x) _ _)) (zal fun i _ => by
     unfold wrV
     by_cases h0 : i = 0
     · rw [if_pos h0, if_pos h0, List.length_append, List.length_replicate, ← HM.out, show B.length + (m - B.length) = m from by omega]
     · simp only [h0, if_false])
 · exact wrote_pad HQ.out
end Go.Proofs.YtkikhmdpcanidaaGreat
namespace Go.Proofs.YtkikhmdpcanidaaGreat
open Go.RowKit
theorem adM_snoc : ∀ (l : List UInt8) (x : UInt8) (a b : Nat), adM (l ++ [x]) a b = ((((adM l a b).1 + x.toNat) % 65521), (((adM l a b).2 + ((adM l a b).1 + x.toNat) % 65521) % 65521))
 | [], x, a, b => rfl
 | y :: l, x, a, b => by rw [List.cons_append, adM, adM, adM_snoc l x]
theorem adS_snoc : ∀ (l : List UInt8) (x : UInt8) (a b : Nat), adS (l ++ [x]) a b = (((adS l a b).1 + x.toNat), ((adS l a b).2 + ((adS l a b).1 + x.toNat)))
 | [], x, a, b => rfl
 | y :: l, x, a, b => by rw [List.cons_append, adS, adS, adS_snoc l x]
theorem zeY (b : List UInt8) (i : Nat) (h : i < b.length) : b.take (i + 1) = b.take i ++ [b.getD i 0] := by
 rw [List.take_add_one, List.getD_eq_getElem?_getD, List.getElem?_eq_getElem h]; rfl
theorem rsum_any {w : World} {a : Option Addr} {n cap : Nat} {b : List UInt8} (hr : Row w 1 a n cap (b.map fun x => .int .u8 x.toNat)) : Calls Tryz.prog 50 #[.slice a n cap] w fun e w' => e = .returned (.int .u32 (adV b)) ∧ w' = w := by
 have hl : b.length = n := by have := hr.1; simpa using this
 have hni : (n : Int) ≤ 9223372036854775807 := hr.i64
 have HR := Lib.hid hr
 have HL := Lib.hid hl
 have HV := Lib.hid (show adV b < 4294967296 from adV_lt b)
 clear hr hl
 go_enter Tryz.func50, Tryz.ntmps50
 go_wp2_with fail
 go_loopw [3, 4, 5] (fun va vb vk wr => ∃ k x y : Nat, vk = .int .i64 k ∧ va = .int .i64 x ∧ vb = .int .i64 y ∧ k ≤ n ∧ x < 65521 ∧ y < 65521 ∧ wr = w ∧ Hid (adM (b.take k) 1 0 = (x, y))) (fun _ _ vk _ => n - (intOf vk).toNat)
 case atStart => exact ⟨0, 1, 0, rfl, rfl, rfl, Nat.zero_le _, by decide, by decide, rfl, Lib.hid rfl⟩
 case round =>
   obtain ⟨k, x, y, rfl, rfl, rfl, hk, hx, hy, rfl, HA⟩ := hrel
   by_cases hkn : k < n
   case neg =>
     have hke : k = n := by omega
     subst hke
     have hd : decide ((k : Int) < (k : Int)) = false := decide_eq_false (by omega)
     have HE := Lib.hid (show adV b = 65536 * y + x from by
       have h := HA.out
       rw [List.take_of_length_le (Nat.le_of_eq HL.out)] at h
       unfold adV; rw [h])
     clear HA
     go_wp2_with fail
     go_ret
     refine ⟨?_, rfl⟩
     show Ending.returned (.int .u32 (65536 * (y : Int) + (x : Int))) = _
     rw [HE.out, show ((65536 * y + x : Nat) : Int) = 65536 * (y : Int) + (x : Int) from by omega]
   have hd : decide ((k : Int) < (n : Int)) = true := decide_eq_true (by omega)
   have hdi : (k : Int) < (n : Int) := by omega
   obtain ⟨bb, off, rfl, -, hcc⟩ := HR.out.at 0 0 (by omega)
   have z0 := hcc k hkn
   have HS := Lib.hid (show adM (b.take (k + 1)) 1 0 = ((x + (b.getD k 0).toNat) % 65521, (y + (x + (b.getD k 0).toNat) % 65521) % 65521) from by
     rw [zeY b k (by rw [HL.out]; exact hkn), adM_snoc, HA.out])
   have hz := (b.getD k 0).toNat_lt
   clear hcc HA
   generalize (b.getD k 0).toNat = z at z0 HS hz
   go_wp2_with fail
   exact ⟨⟨k + 1, _, _, by go_num, by rw [show (((x + z) % 65521 : Nat) : Int) = ((x : Int) + (z : Int)) % 65521 from by omega], by rw [show (((y + (x + z) % 65521) % 65521 : Nat) : Int) = ((y : Int) + ((x : Int) + (z : Int)) % 65521) % 65521 from by omega], by omega, by omega, by omega, by trivial, HS⟩, by simp [intOf]; omega⟩
theorem own_four {w : World} {p q r t : Value} : (w.alloc (.cells #[p, q, r, t] 5)).ownsRow w.heap.size 5 1 (.slice (some ⟨w.heap.size, 0, none⟩) 4 4) 4 [p, q, r, t] :=
 ⟨rfl, .inr ⟨w.heap.size, 4, _, rfl, Nat.le_refl _, zah _ rfl, Nat.le_refl _, by unfold maxLen; omega, rfl, rfl⟩⟩
theorem by4_cells {x : Nat} (hx : x < 4294967296) : ((by4 x).map fun b => Value.int .u8 b.toNat) = [.int .u8 ((x : Int) / 16777216), .int .u8 ((x : Int) / 65536 % 256), .int .u8 ((x : Int) / 256 % 256), .int .u8 ((x : Int) % 256)] := by
 have e : ∀ a, a < 256 → (UInt8.ofNat a).toNat = a := fun a ha => by rw [UInt8.toNat_ofNat']; exact Nat.mod_eq_of_lt ha
 unfold by4
 simp only [List.map_cons, List.map_nil]
 rw [e _ (by omega), e _ (by omega), e _ (by omega), e _ (by omega)]
 rfl
theorem zfq {w : World} {x : Nat} (hx : x < 4294967296) : Calls Tryz.prog 47 #[.int .u32 x] w fun e w' => ∃ v, e = .returned v ∧ w'.ownsRow w.heap.size 5 1 v 4 ((by4 x).map fun b => .int .u8 b.toNat) ∧ Below w.heap.size w w' := by
 have HB := Lib.hid (by4_cells hx)
 go_enter Tryz.func47, Tryz.ntmps47
 go_wp2_with fail
 go_ret
 exact ⟨_, rfl, by rw [HB.out]; exact own_four, zai w _⟩
theorem zeM {w : World} {x : Nat} (hx : x < 4294967296) : Calls Tryz.prog 49 #[.int .u32 x] w fun e w' => ∃ v, e = .returned v ∧ w'.ownsRow w.heap.size 5 1 v 4 ((by4 x).map fun b => .int .u8 b.toNat) ∧ Below w.heap.size w w' := by
 have HB := Lib.hid (by4_cells hx)
 go_enter Tryz.func49, Tryz.ntmps49
 go_wp2_with fail
 go_ret
 exact ⟨_, rfl, by rw [HB.out]; exact own_four, zai w _⟩
theorem or_halves {x y : Nat} (hx : x < 65536) (hy : y < 65536) : bits .or .u32 ((y : Int) * 65536) (x : Int) = ((65536 * y + x : Nat) : Int) := by
 rw [show ((y : Int) * 65536) = ((65536 * y : Nat) : Int) from by omega, u32_or_nat _ _ (by omega) (by omega)]
 have h := Nat.two_pow_add_eq_or_of_lt (i := 16) (b := x) (by omega) y
 rw [show (2 : Nat) ^ 16 = 65536 from rfl] at h
 rw [h]
theorem avalue_any {w : World} {hb x y : Nat} (hx : x < 65521) (hy : y < 65521) (c0 : w.cell? ⟨hb, 0, none⟩ = some (.int .u32 x)) (c1 : w.cell? ⟨hb, 1, none⟩ = some (.int .u32 y)) :
   Calls Tryz.prog 77 #[.pointer (some ⟨hb, 0, none⟩)] w fun e w' => e = .returned (.int .u32 (65536 * y + (x + 1) % 65521 : Nat)) ∧ ∃ q, w' = w.drewN q := by
 have HO := Lib.hid (or_halves (x := (x + 1) % 65521) (y := y) (by omega) (by omega))
 go_enter Tryz.func77, Tryz.ntmps77
 go_wp2_with fail
 go_quiet (fail)
 go_wp2_with fail
 go_ret
 refine ⟨?_, _, rfl⟩
 show Ending.returned (.int .u32 (bits .or .u32 ((y : Int) * 65536) (((x : Int) + 1) % 65521))) = _
 rw [← HO.out]
 rfl
def TakeEnd (w : World) (hb x y : Nat) (e : Ending) (w' : World) : Prop := e = .returned (.tuple #[]) ∧ ∃ q, w' = ((w.setCell ⟨hb, 0, none⟩ (.int .u32 ((x + 65520) % 65521 : Nat))).setCell ⟨hb, 1, none⟩ (.int .u32 (y : Nat))).drewN q
theorem atake_any {w : World} {a : Option Addr} {n cap hb : Nat} {b : List UInt8} (hr : Row w 1 a n cap (b.map fun x => .int .u8 x.toNat)) (hn : n ≤ 2000) (c0 : w.cell? ⟨hb, 0, none⟩ = some (.int .u32 0)) (c1 : w.cell? ⟨hb, 1, none⟩ = some (.int .u32 0))
   (f0 : w.frozen? ⟨hb, 0, none⟩ = false) (f1 : w.frozen? ⟨hb, 1, none⟩ = false) (ha : ∀ x, a = some x → x.block ≠ hb) :
   Calls Tryz.prog 76 #[.pointer (some ⟨hb, 0, none⟩), .slice a n cap] w (TakeEnd w hb (adM b 1 0).1 (adM b 1 0).2) := by
 have hl : b.length = n := by have := hr.1; simpa using this
 have hcapn := hr.2.1
 have hcapm := hr.2.2.1
 unfold maxLen at hcapm
 have HR := Lib.hid hr
 have HL := Lib.hid hl
 clear hr hl
 obtain ⟨x, hx⟩ : ∃ x, x = (adM b 1 0).1 := ⟨_, rfl⟩
 obtain ⟨y, hy⟩ : ∃ y, y = (adM b 1 0).2 := ⟨_, rfl⟩
 have hlt := adM_lt b 1 0 (by decide) (by decide)
 rw [← hx, ← hy] at hlt ⊢
 have HX := Lib.hid hx
 have HY := Lib.hid hy
 clear hx hy
 go_enter Tryz.func76, Tryz.ntmps76
 go_wp2_with fail
 go_quiet (fail)
 have z0 : (w.drewN nq).cell? ⟨hb, 0, none⟩ = some (.int .u32 0) := c0
 have z1 : (w.drewN nq).cell? ⟨hb, 1, none⟩ = some (.int .u32 0) := c1
 have g0 : (w.drewN nq).frozen? ⟨hb, 0, none⟩ = false := f0
 have g1 : (w.drewN nq).frozen? ⟨hb, 1, none⟩ = false := f1
 have HQ := Lib.hid (show Row (w.drewN nq) 1 a n cap (b.map fun x => .int .u8 x.toNat) from HR.out.mono (zak (Below.refl _ _) nq))
 obtain ⟨W0, hW0⟩ : ∃ W0, W0 = w.drewN nq := ⟨_, rfl⟩
 rw [← hW0] at z0 z1 g0 g1 HQ ⊢
 have HW0 := Lib.hid hW0
 clear hW0 c0 c1 f0 f1 HR
 go_wp2_with fail
 go_loopw [1, 4, 5] (fun vp va vb wr => wr = W0 ∧ ((0 < n ∧ vp = .slice a n cap ∧ va = .int .u32 1 ∧ vb = .int .u32 0) ∨ ∃ (a2 : Option Addr) (c2 : Nat), vp = .slice a2 0 c2 ∧ va = .int .u32 x ∧ vb = .int .u32 y)) (fun vp _ _ _ => match vp with | .slice _ m _ => m | _ => 0)
 case atStart =>
   refine ⟨rfl, ?_⟩
   by_cases h0 : 0 < n
   · exact .inl ⟨h0, rfl, rfl, rfl⟩
   · obtain rfl : n = 0 := by omega
     have hb0 : b = [] := List.eq_nil_of_length_eq_zero HL.out
     exact .inr ⟨a, cap, rfl, by rw [HX.out, hb0]; rfl, by rw [HY.out, hb0]; rfl⟩
 case round =>
   obtain ⟨rfl, ⟨h0, rfl, rfl, rfl⟩ | ⟨a2, c2, rfl, rfl, rfl⟩⟩ := hrel
   case inr =>
     go_wp2_with fail
     go_end0
     have e := HW0.out
     subst e
     refine ⟨rfl, nq, ?_⟩
     rw [show (((x : Int) + 65521 - 1) % 65521) = (((x + 65520) % 65521 : Nat) : Int) from by omega]
     rfl
   have hd : decide ((n : Int) > 0) = true := decide_eq_true (by omega)
   have hmin : ¬ ((5552 : Int) < (n : Int)) := by omega
   obtain ⟨bb, off, rfl, -, hcc⟩ := HQ.out.at 0 0 (by omega)
   have HC := Lib.hid hcc
   clear hcc
   go_wp2_with fail
   go_loopw [4, 5, 8, 28] (fun va vb vx vk wk => ∃ k p q : Nat, vk = .int .i64 k ∧ va = .int .u32 p ∧ vb = .int .u32 q ∧ k ≤ n ∧ wk = wr ∧ Hid (adS (b.take k) 1 0 = (p, q))) (fun _ _ _ vk _ => n - (intOf vk).toNat)
   case atStart => exact ⟨0, 1, 0, rfl, rfl, rfl, Nat.zero_le _, rfl, Lib.hid rfl⟩
   case round =>
     obtain ⟨k, p, q, rfl, rfl, rfl, hk, rfl, HA⟩ := hrel
     by_cases hkn : k < n
     case neg =>
       have hke : k = n := by omega
       have hd2 : decide ((k : Int) < (n : Int)) = false := decide_eq_false (by omega)
       have hpq : p % 65521 = x ∧ q % 65521 = y := by
         have h := HA.out
         rw [hke, List.take_of_length_le (Nat.le_of_eq HL.out)] at h
         have h2 := adM_is b 1 0 (by decide) (by decide)
         rw [h] at h2
         exact ⟨by rw [HX.out, h2], by rw [HY.out, h2]⟩
       have hp : (p : Int) % 65521 = (x : Int) := by omega
       have hq : (q : Int) % 65521 = (y : Int) := by omega
       clear HA hpq hke
       go_wp2_with fail
       exact ⟨⟨by trivial, .inr ⟨_, _, rfl, by rw [hp], by rw [hq]⟩⟩, by show (0 : Nat) < n; exact h0⟩
     have hd2 : decide ((k : Int) < (n : Int)) = true := decide_eq_true (by omega)
     have hdi : (k : Int) < (n : Int) := by omega
     have z2 := HC.out k hkn
     have HS := Lib.hid (show adS (b.take (k + 1)) 1 0 = (p + (b.getD k 0).toNat, q + (p + (b.getD k 0).toNat)) from by
       rw [zeY b k (by rw [HL.out]; exact hkn), adS_snoc, HA.out])
     have hfit := adS_fits (b.take (k + 1)) 1 0 (by rw [List.length_take]; omega) (by omega) (by omega)
     rw [HS.out] at hfit
     obtain ⟨hf1, hf2⟩ := hfit
     dsimp only at hf1 hf2
     have hz := (b.getD k 0).toNat_lt
     clear HA
     generalize (b.getD k 0).toNat = z at z2 HS hz hf1 hf2
     go_wp2_with fail
     exact ⟨⟨k + 1, p + z, q + (p + z), by go_num, by rw [Int.natCast_add], by rw [Int.natCast_add, Int.natCast_add], by omega, by trivial, HS⟩, by simp [intOf]; omega⟩
theorem asum_any {w : World} {a : Option Addr} {n cap : Nat} {b : List UInt8} (hr : Row w 1 a n cap (b.map fun x => .int .u8 x.toNat)) (hn : n ≤ 2000) (ha : ∀ x, a = some x → x.block < w.heap.size) :
   Calls Tryz.prog 48 #[.slice a n cap] w fun e w' => e = .returned (.int .u32 (adV b)) ∧ Below w.heap.size w w' := by
 have hbA := zai w (.cells #[.int .u32 0, .int .u32 0] 109)
 have hnew := heap_alloc_new w (.cells #[.int .u32 0, .int .u32 0] 109)
 have hbk := hnew
 have c0 : (w.alloc (.cells #[.int .u32 0, .int .u32 0] 109)).cell? ⟨w.heap.size, 0, none⟩ = some (.int .u32 0) := by rw [cell_of_row _ _ 0 _ _ _ hnew]; rfl
 have c1 : (w.alloc (.cells #[.int .u32 0, .int .u32 0] 109)).cell? ⟨w.heap.size, 1, none⟩ = some (.int .u32 0) := by rw [cell_of_row _ _ 1 _ _ _ hnew]; rfl
 have HT := Lib.hid (atake_any (hr.mono hbA) hn c0 c1 (frozen_of_row _ _ _ _ _ hnew) (frozen_of_row _ _ _ _ _ hnew) (fun x hx e => by have := ha x hx; omega))
 have HB := Lib.hid hbA
 have hlt := adM_lt b 1 0 (by decide) (by decide)
 have HV := Lib.hid (show adV b = 65536 * (adM b 1 0).2 + ((adM b 1 0).1 + 65520) % 65521 + 0 ∨ True from .inr trivial)
 have HVV := Lib.hid (show 65536 * (adM b 1 0).2 + (((adM b 1 0).1 + 65520) % 65521 + 1) % 65521 = adV b from by unfold adV; omega)
 have HC := Lib.hid (And.intro c0 c1)
 clear hr ha hbA hnew hbk c0 c1 HV
 generalize (adM b 1 0).1 = x at HT hlt HVV
 generalize (adM b 1 0).2 = y at HT hlt HVV
 go_enter Tryz.func48, Tryz.ntmps48
 go_wp2_with fail
 generalize w.alloc (.cells #[.int .u32 0, .int .u32 0] 109) = w0 at HT HB HC ⊢
 obtain ⟨hb, hhb⟩ : ∃ hb, hb = w.heap.size := ⟨_, rfl⟩
 rw [← hhb] at HT HC HB ⊢
 have HH := Lib.hid hhb
 clear hhb
 refine HT.out.mono ?_
 rintro e w1 ⟨rfl, q, hq⟩
 have d0 : w1.cell? ⟨hb, 0, none⟩ = some (.int .u32 ((x + 65520) % 65521 : Nat)) := by
   rw [hq]
   show ((w0.setCell _ _).setCell _ _).cell? _ = _
   rw [World.cell?_setCell_other _ _ _ _ (by simp)]
   exact World.cell?_setCell_same _ _ _ HC.out.1
 have d1 : w1.cell? ⟨hb, 1, none⟩ = some (.int .u32 (y : Nat)) := by
   rw [hq]
   show ((w0.setCell _ _).setCell _ _).cell? _ = _
   exact World.cell?_setCell_same _ _ _ (u := .int .u32 0) (by rw [World.cell?_setCell_other _ _ _ _ (by simp)]; exact HC.out.2)
 have hb1 : Below hb w w1 := by
   rw [hq]
   exact zak ((((zaa.of_below (S := fun z => hb ≤ z) HB.out fun z hz => hz).setCell (a := ⟨hb, 0, none⟩) (.inl (Nat.le_refl _)) _).setCell (a := ⟨hb, 1, none⟩) (.inl (Nat.le_refl _)) _).below (by have := HH.out; omega) fun z hz => hz) q
 have HVL := Lib.hid (avalue_any (w := w1) (hb := hb) (x := (x + 65520) % 65521) (y := y) (by omega) hlt.2 d0 d1)
 have HB1 := Lib.hid hb1
 clear d0 d1 hb1 hq HT HC HB
 go_wp2_with fail
 refine HVL.out.mono ?_
 rintro e w2 ⟨rfl, q2, hq2⟩
 have HB2 := Lib.hid (show Below hb w w2 from by rw [hq2]; exact zak HB1.out q2)
 clear hq2 HVL
 go_wp2_with fail
 go_ret
 refine ⟨?_, by have := HB2.out; rw [HH.out] at this; exact this⟩
 rw [← HVV.out]
 show Ending.returned (.int .u32 (65536 * (y : Int) + ((x : Int) + 65520 + 1) % 65521)) = _
 exact congrArg (fun z => Ending.returned (.int .u32 z)) (by omega)
structure zbS (W : World) where
 w : World
 h : Below W.heap.size W w
instance zbS.there (W : World) : Nonempty (zbS W) := ⟨⟨W, Below.refl _ _⟩⟩
theorem zcy {P : Program} {id : Nat} {Q : Exit → Act → World → Prop} {a : Act} {W : World} {l : List Oper} (hm : P.follows .mixedOrders = true) (hB : Region.lexB .any l.toArray = true)
   (h : wpQuiet P l.toArray (fun w' => ∃ p : zbS W, w' = p.w) (fun a' => ∀ w', (∃ p : zbS W, w' = p.w) → Q .normal a' w') l a) : (Code.region id l.toArray true).wp P Q a W :=
 wp_region_quiet (C := fun w' => ∃ p : zbS W, w' = p.w) hm hB ⟨⟨W.drew, (Below.refl _ _).drew⟩, rfl⟩ (by simpa using h)
theorem Calls.below_of {P : Program} {f : FuncId} {args : Array Value} {W : World} {p : zbS W} {v : Value}
   (h : Calls P f args p.w fun e w' => e = .returned v ∧ Below p.w.heap.size p.w w') : Calls P f args p.w fun e w'' => e = .returned v ∧ ∃ p' : zbS W, w'' = p'.w :=
 h.mono fun _ w' ⟨he, hb⟩ => ⟨he, ⟨w', p.h.trans (hb.mono p.h.size)⟩, rfl⟩
theorem zbS.cell {W : World} {b o : Nat} {v : Value} (hc : W.cell? ⟨b, o, none⟩ = some v) (p : zbS W) : p.w.cell? ⟨b, o, none⟩ = some v := cell?_keep p.h hc
theorem and15 (x : Nat) (h : x < 256) : bits .and .u8 (x : Int) 15 = ((x % 16 : Nat) : Int) := by
 rw [show (15 : Int) = ((15 : Nat) : Int) from rfl, u8_and_nat x 15 h (by omega)]
 have : ∀ k : Fin 256, k.1 &&& 15 = k.1 % 16 := by decide +kernel
 rw [this ⟨x, h⟩]
theorem and32 (x : Nat) (h : x < 256) : bits .and .u8 (x : Int) 32 = ((x / 32 % 2 * 32 : Nat) : Int) := by
 rw [show (32 : Int) = ((32 : Nat) : Int) from rfl, u8_and_nat x 32 h (by omega)]
 have : ∀ k : Fin 256, k.1 &&& 32 = k.1 / 32 % 2 * 32 := by decide +kernel
 rw [this ⟨x, h⟩]
theorem or256 (x y : Nat) (hx : x < 256) (hy : y < 256) : bits .or .i64 ((x : Int) * 256) (y : Int) = ((256 * x + y : Nat) : Int) := by
 rw [show ((x : Int) * 256) = ((256 * x : Nat) : Int) from by omega, zff _ _ (by omega) (by omega)]
 have h := Nat.two_pow_add_eq_or_of_lt (i := 8) (b := y) (by omega) x
 rw [show (2 : Nat) ^ 8 = 256 from rfl] at h
 rw [h]
def chk2 (x y : Nat) : Int := if x % 16 ≠ 8 ∨ 7 < x / 16 ∨ y / 32 % 2 ≠ 0 ∨ (256 * x + y) % 31 ≠ 0 then 11 else 0
def ChkEnd (w : World) (v : Int) (e : Ending) (w' : World) : Prop := e = .returned (.int .i64 v) ∧ ∃ q, w' = w.drewN q
theorem check_two {w : World} {b off n cap x y : Nat} (hn : 2 ≤ n) (_hc : n ≤ cap) (_hcm : cap ≤ 9223372036854775807) (z0 : w.cell? ⟨b, off, none⟩ = some (.int .u8 x)) (z1 : w.cell? ⟨b, off + 1, none⟩ = some (.int .u8 y)) (hx : x < 256) (hy : y < 256) :
   Calls Tryz.prog 21 #[.slice (some ⟨b, off, none⟩) n cap] w (ChkEnd w (chk2 x y)) := by
 have d0 : decide ((n : Int) < 2) = false := decide_eq_false (by omega)
 have h0 : (0 : Int) < (n : Int) := by omega
 have h1 : (1 : Int) < (n : Int) := by omega
 have hA := and15 x hx
 have hB := and32 y hy
 have hC := or256 x y hx hy
 by_cases c1 : x % 16 = 8
 case neg =>
   have HV := Lib.hid (show chk2 x y = 11 from by unfold chk2; rw [if_pos (.inl c1)])
   have e1 : ((x : Int) % 16 != 8) = true := by rw [bne_iff_ne]; omega
   clear hA hB hC
   go_enter Tryz.func21, Tryz.ntmps21
   go_wp2_with fail
   go_quiet (fail)
   go_wp2_with fail
   go_ret
   exact ⟨zav HV.out.symm, _, rfl⟩
 have e1 : ((x : Int) % 16 != 8) = false := by rw [bne_eq_false_iff_eq]; omega
 by_cases c2 : 7 < x / 16
 · have HV := Lib.hid (show chk2 x y = 11 from by unfold chk2; rw [if_pos (.inr (.inl c2))])
   have e2 : decide ((x : Int) / 16 > 7) = true := decide_eq_true (by omega)
   clear hA hB hC
   go_enter Tryz.func21, Tryz.ntmps21
   go_wp2_with fail
   go_quiet (fail)
   go_wp2_with fail
   go_ret
   exact ⟨zav HV.out.symm, _, rfl⟩
 have e2 : decide ((x : Int) / 16 > 7) = false := decide_eq_false (by omega)
 by_cases c3 : y / 32 % 2 = 0
 case neg =>
   have HV := Lib.hid (show chk2 x y = 11 from by unfold chk2; rw [if_pos (.inr (.inr (.inl c3)))])
   have e3 : (bits .and .u8 (y : Int) 32 != 0) = true := by rw [hB, bne_iff_ne]; omega
   clear hA hB hC
   go_enter Tryz.func21, Tryz.ntmps21
   go_wp2_with fail
   go_quiet (fail)
   go_wp2_with fail
   go_ret
   exact ⟨zav HV.out.symm, _, rfl⟩
 have e3 : (bits .and .u8 (y : Int) 32 != 0) = false := by rw [hB, bne_eq_false_iff_eq]; omega
 by_cases c4 : (256 * x + y) % 31 = 0
 · have HV := Lib.hid (show chk2 x y = 0 from by unfold chk2; rw [if_neg (by omega)])
   have e4 : ((bits .or .i64 ((x : Int) * 256) (y : Int)).tmod 31 != 0) = false := by rw [hC, Int.tmod_eq_emod_of_nonneg (by omega), bne_eq_false_iff_eq]; omega
   clear hA hB hC
   go_enter Tryz.func21, Tryz.ntmps21
   go_wp2_with fail
   go_quiet (fail)
   go_wp2_with fail
   go_ret
   exact ⟨zav HV.out.symm, _, rfl⟩
 · have HV := Lib.hid (show chk2 x y = 11 from by unfold chk2; rw [if_pos (.inr (.inr (.inr c4)))])
   have e4 : ((bits .or .i64 ((x : Int) * 256) (y : Int)).tmod 31 != 0) = true := by rw [hC, Int.tmod_eq_emod_of_nonneg (by omega), bne_iff_ne]; omega
   clear hA hB hC
   go_enter Tryz.func21, Tryz.ntmps21
   go_wp2_with fail
   go_quiet (fail)
   go_wp2_with fail
   go_ret
   exact ⟨zav HV.out.symm, _, rfl⟩
theorem zcD {w : World} {b off n cap x y : Nat} (hn : 2 ≤ n) (_hc : n ≤ cap) (_hcm : cap ≤ 9223372036854775807) (z0 : w.cell? ⟨b, off, none⟩ = some (.int .u8 x)) (z1 : w.cell? ⟨b, off + 1, none⟩ = some (.int .u8 y)) (hx : x < 256) (hy : y < 256) :
   Calls Tryz.prog 22 #[.slice (some ⟨b, off, none⟩) n cap] w (ChkEnd w (chk2 x y)) := by
 have d0 : decide ((n : Int) < 2) = false := decide_eq_false (by omega)
 have h0 : (0 : Int) < (n : Int) := by omega
 have h1 : (1 : Int) < (n : Int) := by omega
 by_cases c1 : x % 16 = 8
 case neg =>
   have HV := Lib.hid (show chk2 x y = 11 from by unfold chk2; rw [if_pos (.inl c1)])
   have e1 : ((x : Int) % 16 != 8) = true := by rw [bne_iff_ne]; omega
   go_enter Tryz.func22, Tryz.ntmps22
   go_wp2_with fail
   go_quiet (fail)
   go_wp2_with fail
   go_ret
   exact ⟨zav HV.out.symm, _, rfl⟩
 have e1 : ((x : Int) % 16 != 8) = false := by rw [bne_eq_false_iff_eq]; omega
 by_cases c2 : 7 < x / 16
 · have HV := Lib.hid (show chk2 x y = 11 from by unfold chk2; rw [if_pos (.inr (.inl c2))])
   have e2 : decide ((x : Int) / 16 > 7) = true := decide_eq_true (by omega)
   go_enter Tryz.func22, Tryz.ntmps22
   go_wp2_with fail
   go_quiet (fail)
   go_wp2_with fail
   go_ret
   exact ⟨zav HV.out.symm, _, rfl⟩
 have e2 : decide ((x : Int) / 16 > 7) = false := decide_eq_false (by omega)
 by_cases c3 : y / 32 % 2 = 0
 case neg =>
   have HV := Lib.hid (show chk2 x y = 11 from by unfold chk2; rw [if_pos (.inr (.inr (.inl c3)))])
   have e3 : ((y : Int) / 32 % 2 != 0) = true := by rw [bne_iff_ne]; omega
   go_enter Tryz.func22, Tryz.ntmps22
   go_wp2_with fail
   go_quiet (fail)
   go_wp2_with fail
   go_ret
   exact ⟨zav HV.out.symm, _, rfl⟩
 have e3 : ((y : Int) / 32 % 2 != 0) = false := by rw [bne_eq_false_iff_eq]; omega
 by_cases c4 : (256 * x + y) % 31 = 0
 · have HV := Lib.hid (show chk2 x y = 0 from by unfold chk2; rw [if_neg (by omega)])
   have e4 : ((256 * (x : Int) + (y : Int)) % 31 != 0) = false := by rw [bne_eq_false_iff_eq]; omega
   go_enter Tryz.func22, Tryz.ntmps22
   go_wp2_with fail
   go_quiet (fail)
   go_wp2_with fail
   go_ret
   exact ⟨zav HV.out.symm, _, rfl⟩
 · have HV := Lib.hid (show chk2 x y = 11 from by unfold chk2; rw [if_pos (.inr (.inr (.inr c4)))])
   have e4 : ((256 * (x : Int) + (y : Int)) % 31 != 0) = true := by rw [bne_iff_ne]; omega
   go_enter Tryz.func22, Tryz.ntmps22
   go_wp2_with fail
   go_quiet (fail)
   go_wp2_with fail
   go_ret
   exact ⟨zav HV.out.symm, _, rfl⟩
theorem chkV_two {b : List UInt8} (h : 2 ≤ b.length) : chkV b = chk2 (b.getD 0 0).toNat (b.getD 1 0).toNat := by
 unfold chkV chk2
 rw [if_neg (by omega)]
theorem check_any {w : World} {a : Option Addr} {n cap : Nat} {b : List UInt8} (hr : Row w 1 a n cap (b.map fun x => .int .u8 x.toNat)) : Calls Tryz.prog 21 #[.slice a n cap] w (ChkEnd w (chkV b)) := by
 have hl : b.length = n := by have := hr.1; simpa using this
 have hcapm := hr.2.2.1
 have hcapn := hr.2.1
 unfold maxLen at hcapm
 by_cases h2 : n < 2
 · have HV := Lib.hid (show chkV b = 10 from by unfold chkV; rw [if_pos (by omega)])
   have d0 : decide ((n : Int) < 2) = true := decide_eq_true (by omega)
   clear hr
   go_enter Tryz.func21, Tryz.ntmps21
   go_wp2
   go_ret
   exact ⟨zav HV.out.symm, 0, rfl⟩
 · obtain ⟨bb, off, rfl, -, hcc⟩ := hr.at 0 0 (by omega)
   rw [chkV_two (by omega)]
   exact check_two (by omega) hcapn (by omega) (hcc 0 (by omega)) (hcc 1 (by omega)) (UInt8.toNat_lt _) (UInt8.toNat_lt _)
theorem rcheck_any {w : World} {a : Option Addr} {n cap : Nat} {b : List UInt8} (hr : Row w 1 a n cap (b.map fun x => .int .u8 x.toNat)) : Calls Tryz.prog 22 #[.slice a n cap] w (ChkEnd w (chkV b)) := by
 have hl : b.length = n := by have := hr.1; simpa using this
 have hcapm := hr.2.2.1
 have hcapn := hr.2.1
 unfold maxLen at hcapm
 by_cases h2 : n < 2
 · have HV := Lib.hid (show chkV b = 10 from by unfold chkV; rw [if_pos (by omega)])
   have d0 : decide ((n : Int) < 2) = true := decide_eq_true (by omega)
   clear hr
   go_enter Tryz.func22, Tryz.ntmps22
   go_wp2
   go_ret
   exact ⟨zav HV.out.symm, 0, rfl⟩
 · obtain ⟨bb, off, rfl, -, hcc⟩ := hr.at 0 0 (by omega)
   rw [chkV_two (by omega)]
   exact zcD (by omega) hcapn (by omega) (hcc 0 (by omega)) (hcc 1 (by omega)) (UInt8.toNat_lt _) (UInt8.toNat_lt _)
end Go.Proofs.YtkikhmdpcanidaaGreat
namespace Go.Proofs.YtkikhmdpcanidaaGreat
open Go.RowKit Go.Sort
def rC (a : Option Addr) (L c at_ : Nat) (e : Int) (v : Value) (most : Nat) : Array Value := #[.slice a L c, .int .i64 at_, .int .i64 e, v, .int .i64 most]
def rE (a : Option Addr) (L c at_ : Nat) (e : Int) (v : Value) (most : Nat) (i : Nat) : Value := if i = 0 then .slice a L c else if i = 1 then .int .i64 at_ else if i = 2 then .int .i64 e else if i = 3 then v else .int .i64 most
def bitR (bs : List UInt8) : List Value := (bl bs false 0 (8 * bs.length)).map Value.bool
structure IsR (w : World) (U : Nat → Prop) (rb : Nat) (a : Option Addr) (c : Nat) (bs : List UInt8) (most : Nat) (s : IS) : Prop where
 ex : ∃ v, w.heap[rb]? = some (.cells (rC a (8 * bs.length) c s.at_ s.e v most) 66 (0, 0)) ∧ w.ownsRow (rb + 1) 5 1 v s.out.length (s.out.map u8C) ∧ ∀ b, v.ownBlock = some b → U b
 row : Row w 1 a (8 * bs.length) c (bitR bs)
 lt : ∀ x, a = some x → x.block < rb
 le : s.at_ ≤ 8 * bs.length
 own : U rb
 ult : ∀ b, U b → rb ≤ b ∧ b < w.heap.size
def zbk (w : World) (U : Nat → Prop) (rb : Nat) (a : Option Addr) (c : Nat) (bs : List UInt8) (most : Nat) (s : IS) (w' : World) : Prop := ∃ U', IsR w' U' rb a c bs most s ∧ zaa U w w' ∧ ∀ b, U' b → U b ∨ w.heap.size ≤ b
section
variable {w w' : World} {U : Nat → Prop} {rb : Nat} {a : Option Addr} {c : Nat} {bs : List UInt8} {most : Nat} {s : IS}
theorem IsR.blt (h : IsR w U rb a c bs most s) {b : Nat} (hb : U b) : b < w.heap.size := (h.ult b hb).2
theorem IsR.keeps {V : Nat → Prop} (h : IsR w U rb a c bs most s) (hk : zaa V w w') (hV : ∀ b, b < rb ∨ U b → ¬ V b) : IsR w' U rb a c bs most s := by
 obtain ⟨⟨v, h1, h2, h3⟩, h4, h5, h6, h7, h8⟩ := h
 exact ⟨⟨v, hk.obj h1 (hV rb (.inr h7)), zao h2 hk (fun b hb => hV b (.inr (h3 b hb))), h3⟩, h4.keeps hk (fun x hx => hV _ (.inl (h5 x hx))), h5, h6, h7, fun b hb => ⟨(h8 b hb).1, Nat.lt_of_lt_of_le (h8 b hb).2 hk.size⟩⟩
theorem IsR.mono (h : IsR w U rb a c bs most s) (hb : Below w.heap.size w w') : IsR w' U rb a c bs most s :=
 h.keeps (zaa.of_below (S := fun b => w.heap.size ≤ b) hb (fun _ h => h)) (fun b hb2 hn => by
   have := h.blt h.own
   rcases hb2 with h1 | h1
   · omega
   · have := h.blt h1; omega)
theorem IsR.cells (h : IsR w U rb a c bs most s) :
   w.cell? ⟨rb, 0, none⟩ = some (.slice a (8 * bs.length) c) ∧ w.cell? ⟨rb, 1, none⟩ = some (.int .i64 s.at_) ∧ w.cell? ⟨rb, 2, none⟩ = some (.int .i64 s.e) ∧ w.cell? ⟨rb, 4, none⟩ = some (.int .i64 most) ∧ w.frozen? ⟨rb, 1, none⟩ = false ∧ w.frozen? ⟨rb, 2, none⟩ = false ∧ w.frozen? ⟨rb, 3, none⟩ = false := by
 obtain ⟨⟨v, h1, -⟩, -⟩ := h
 refine ⟨?_, ?_, ?_, ?_, frozen_of_row w rb 1 _ _ h1, frozen_of_row w rb 2 _ _ h1, frozen_of_row w rb 3 _ _ h1⟩ <;> (rw [cell_of_row w rb _ _ _ _ h1]; rfl)
theorem IsR.drewN (h : IsR w U rb a c bs most s) (q : Nat) : IsR (w.drewN q) U rb a c bs most s ∧ zaa U w (w.drewN q) :=
 ⟨h.keeps ((zaa.refl (fun _ => False) w).drewN q) (fun _ _ h => h), (zaa.refl U w).drewN q⟩
theorem IsR.setE (h : IsR w U rb a c bs most s) (e : Int) : IsR (w.setCell ⟨rb, 2, none⟩ (.int .i64 e)) U rb a c bs most { s with e := e } ∧ zaa U w (w.setCell ⟨rb, 2, none⟩ (.int .i64 e)) := by
 have hk : zaa (fun b => b = rb) w (w.setCell ⟨rb, 2, none⟩ (.int .i64 e)) := zaa.setCell (S := fun b => b = rb) (zaa.refl _ w) (a := ⟨rb, 2, none⟩) (.inl rfl) _
 obtain ⟨⟨v, h1, h2, h3⟩, h4, h5, h6, h7, h8⟩ := h
 refine ⟨⟨⟨v, ?_, zao h2 hk (fun b hb e => by have := (h2.lt b hb).1; omega), h3⟩, h4.keeps hk (fun x hx e => by have := h5 x hx; omega), h5, h6, h7, fun b hb => ⟨(h8 b hb).1, Nat.lt_of_lt_of_le (h8 b hb).2 hk.size⟩⟩, hk.weaken (fun b hb => hb ▸ h7)⟩
 have := zaM (w := w) (b := rb) (n := 5) (enc := rE a (8 * bs.length) c s.at_ s.e v most) (t := 66) h1 2 (.int .i64 e)
 exact this
theorem IsR.setA (h : IsR w U rb a c bs most s) (k : Nat) (hk2 : k ≤ 8 * bs.length) : IsR (w.setCell ⟨rb, 1, none⟩ (.int .i64 k)) U rb a c bs most { s with at_ := k } ∧ zaa U w (w.setCell ⟨rb, 1, none⟩ (.int .i64 k)) := by
 have hk : zaa (fun b => b = rb) w (w.setCell ⟨rb, 1, none⟩ (.int .i64 k)) := zaa.setCell (S := fun b => b = rb) (zaa.refl _ w) (a := ⟨rb, 1, none⟩) (.inl rfl) _
 obtain ⟨⟨v, h1, h2, h3⟩, h4, h5, h6, h7, h8⟩ := h
 refine ⟨⟨⟨v, ?_, zao h2 hk (fun b hb e => by have := (h2.lt b hb).1; omega), h3⟩, h4.keeps hk (fun x hx e => by have := h5 x hx; omega), h5, hk2, h7, fun b hb => ⟨(h8 b hb).1, Nat.lt_of_lt_of_le (h8 b hb).2 hk.size⟩⟩, hk.weaken (fun b hb => hb ▸ h7)⟩
 have := zaM (w := w) (b := rb) (n := 5) (enc := rE a (8 * bs.length) c s.at_ s.e v most) (t := 66) h1 1 (.int .i64 k)
 exact this
theorem zbk.trans {w1 w2 : World} {U1 : Nat → Prop} (hk : zaa U w w1) (hs : ∀ b, U1 b → U b ∨ w.heap.size ≤ b) (h2 : zbk w1 U1 rb a c bs most s w2) : zbk w U rb a c bs most s w2 := by
 obtain ⟨U2, h3, h4, h5⟩ := h2
 have := hk.size
 exact ⟨U2, h3, hk.trans h4 hs, fun b hb => (h5 b hb).elim (hs b) (fun h => .inr (by omega))⟩
end
theorem zaF {w : World} {U : Nat → Prop} {rb : Nat} {a : Option Addr} {c : Nat} {bs : List UInt8} {most : Nat} {s : IS} (h : IsR w U rb a c bs most s) (e : Int) :
   Calls Tryz.prog 42 #[.pointer (some ⟨rb, 0, none⟩), .int .i64 e] w fun x w' => x = .returned (.tuple #[]) ∧ IsR w' U rb a c bs most (zaj e s) ∧ zaa U w w' := by
 obtain ⟨-, -, c2, -, -, f2, -⟩ := h.cells
 have HS := Lib.hid h
 have HE := Lib.hid (h.setE e)
 clear h
 by_cases he : s.e = 0
 · have HF : Hid (zaj e s = { s with e := e }) := Lib.hid (by unfold zaj; rw [if_pos he])
   rw [he] at c2
   go_enter Tryz.func42, Tryz.ntmps42
   go_wp2
   go_end0
   exact ⟨rfl, by rw [HF.out]; exact HE.out⟩
 · have HF : Hid (zaj e s = s) := Lib.hid (by unfold zaj; rw [if_neg he])
   go_enter Tryz.func42, Tryz.ntmps42
   go_wp2
   go_end0
   exact ⟨rfl, by rw [HF.out]; exact ⟨HS.out, zaa.refl _ _⟩⟩
def topV (f : Nat → Bool) (n : Nat) : Nat → Nat
 | 0 => 0
 | k + 1 => 2 * topV f n k + if f (n - 1 - k) then 1 else 0
theorem topV_lt (f : Nat → Bool) (n : Nat) : ∀ k, topV f n k < 2 ^ k
 | 0 => by simp [topV]
 | k + 1 => by have := topV_lt f n k; simp only [topV, Nat.pow_succ]; split <;> omega
theorem topV_get (f : Nat → Bool) (n : Nat) : ∀ k, k ≤ n → topV f n k * 2 ^ (n - k) + getV f false n (n - k) = getV f false n n
 | 0, _ => by simp [topV]
 | k + 1, h => by
   rw [← topV_get f n k (by omega)]
   obtain ⟨m, hm⟩ : ∃ m, n = k + 1 + m := ⟨n - (k + 1), by omega⟩
   have e1 : n - (k + 1) = m := by omega
   have e2 : n - k = m + 1 := by omega
   have e3 : n - 1 - k = m := by omega
   rw [e1, e2]
   simp only [topV, getV, e3]
   have e4 : zbv m n false = m := rfl
   rw [e4, Nat.pow_succ, Nat.add_mul]
   split
   · rw [Nat.one_mul, Nat.mul_assoc 2, Nat.mul_comm 2 (topV f n k * 2 ^ m), Nat.mul_assoc, Nat.mul_comm (topV f n k)]
     omega
   · rw [Nat.zero_mul, Nat.mul_assoc 2, Nat.mul_comm 2 (topV f n k * 2 ^ m), Nat.mul_assoc]
     omega
theorem topV_all (f : Nat → Bool) (n : Nat) : topV f n n = getV f false n n := by
 have := topV_get f n n (Nat.le_refl _)
 rw [Nat.sub_self] at this
 simpa [getV] using this
theorem topV_bd (f : Nat → Bool) (n k : Nat) (h : k ≤ 20) : topV f n k < 1048576 := Nat.lt_of_lt_of_le (topV_lt f n k) (Nat.pow_le_pow_right (by decide) h)
theorem of_any (a : Option Addr) (n cap : Nat) (l : List Bool) (w : World) (hr : Row w 1 a n cap (l.map Value.bool)) (hn : n ≤ 20) :
   Calls Tryz.prog 67 #[.slice a n cap, .bool false] w fun e w' => e = .returned (.int .u32 (getV (fun i => l.getD i false) false n n : Nat)) ∧ w = w' := by
 have HR := Lib.hid hr
 have HT := Lib.hid (topV_all (fun i => l.getD i false) n)
 have HBD := Lib.hid (topV_bd (fun i => l.getD i false) n)
 obtain ⟨f, hf⟩ : ∃ f, f = (fun i => l.getD i false) := ⟨_, rfl⟩
 rw [← hf] at HT HBD
 have HF := Lib.hid hf
 rw [← hf]
 clear hr hf
 go_enter Tryz.func67, Tryz.ntmps67
 go_wp2
 go_loop [5, 6] (fun x i => ∃ k : Nat, k ≤ n ∧ i = .int .i64 k ∧ x = .int .u32 (topV f n k : Nat)) (fun _ i => n - (intOf i).toNat)
 case atStart => exact ⟨0, Nat.zero_le _, rfl, rfl⟩
 case round =>
   obtain ⟨k, hk, rfl, rfl⟩ := hrel
   by_cases hlt : k < n
   · obtain ⟨b, off, rfl, hblt, hc⟩ := Row.at (enc := Value.bool) false HR.out (n - 1 - k) (by omega)
     have hcx := hc (n - 1 - k) (by omega)
     have HST := Lib.hid (show topV f n (k + 1) = 2 * topV f n k + if f (n - 1 - k) then 1 else 0 from rfl)
     have hb1 := HBD.out k (by omega)
     have hfx : f (n - 1 - k) = l.getD (n - 1 - k) false := by rw [HF.out]
     obtain ⟨p, hp⟩ : ∃ p, p = n - 1 - k := ⟨_, rfl⟩
     rw [← hp] at hcx HST hfx
     rw [← hfx] at hcx
     have hp1 : (n : Int) - 1 - (k : Int) = (p : Int) := by omega
     have hp2 : IntKind.i64.wrap (p : Int) = (p : Int) := IntWalk.i64_in _ (by omega)
     have hp3 : IntKind.i64.wrap ((n : Int) - 1) = (n : Int) - 1 := IntWalk.i64_in _ (by omega)
     have hp4 : p < n := by omega
     obtain ⟨t, ht⟩ : ∃ t, t = topV f n k := ⟨_, rfl⟩
     rw [← ht] at hb1 HST ⊢
     obtain ⟨g, hg⟩ : ∃ g, g = f p := ⟨_, rfl⟩
     rw [← hg] at hcx HST
     clear hc hp hfx ht hg
     cases g with
     | true =>
       go_wp2
       go_round
       case rel => exact ⟨k + 1, by omega, by go_num, by rw [HST.out]; go_num⟩
       case measure => simp [intOf]; omega
     | false =>
       go_wp2
       go_round
       case rel => exact ⟨k + 1, by omega, by go_num, by rw [HST.out]; go_num⟩
       case measure => simp [intOf]; omega
   · obtain rfl : k = n := by omega
     have HT2 := HT
     go_wp2
     go_ret
     exact ⟨by first | rfl | (rw [HT2.out]; rfl), rfl⟩
theorem bl_take (bs : List UInt8) (high : Bool) (at_ m q : Nat) (h : q ≤ m) : (bl bs high at_ m).take q = bl bs high at_ q := by
 unfold bl
 rw [← List.map_take, List.take_range, Nat.min_eq_left h]
theorem bit_row {w : World} {a : Option Addr} {c : Nat} {bs : List UInt8} (h : Row w 1 a (8 * bs.length) c (bitR bs)) (at_ m : Nat) (hm : at_ + m ≤ 8 * bs.length) : Row w 1 (a.map fun x => x.add at_) m (c - at_) ((bl bs false at_ m).map Value.bool) := by
 have h1 := Row.takeN (Row.dropN h at_ (by omega)) m (by omega)
 unfold bitR at h1
 rw [← List.map_drop, ← List.map_take, bl_drop, bl_take _ _ _ _ _ (by omega), Nat.zero_add] at h1
 exact h1
theorem getV_bit (bs : List UInt8) (at_ n : Nat) : getV (fun i => (bl bs false at_ n).getD i false) false n n = getV (bitF bs at_) false n n :=
 zfs n fun _ hi => bl_get bs false at_ n hi
set_option maxRecDepth 20000 in
theorem zaY {w : World} {U : Nat → Prop} {rb : Nat} {a : Option Addr} {c : Nat} {bs : List UInt8} {most : Nat} {s : IS} (h : IsR w U rb a c bs most s) (n : Nat) (hn : n ≤ 20) (hsm : bs.length ≤ 1000000) :
   Calls Tryz.prog 37 #[.pointer (some ⟨rb, 0, none⟩), .int .i64 n] w fun x w' => x = .returned (.int .i64 (numV bs n s).1) ∧ IsR w' U rb a c bs most (numV bs n s).2 ∧ zaa U w w' := by
 obtain ⟨c0, c1, c2, -, f1, f2, -⟩ := h.cells
 have HS := Lib.hid h
 by_cases he : s.e = 0
 · rw [he] at c2
   by_cases hl : 8 * bs.length < s.at_ + n
   · have HV : Hid (numV bs n s = (0, zaj 10 s)) := Lib.hid (by unfold numV zaj; rw [if_neg (by simp [he]), if_pos hl, if_pos he])
     have HF := Lib.hid (fun (q : Nat) => zaF (h.drewN q).1 10)
     have hle := h.le
     obtain ⟨L, hL⟩ : ∃ L, L = 8 * bs.length := ⟨_, rfl⟩
     rw [← hL] at c0 hl hle
     have i1 : IntKind.i64.wrap ((L : Int) - (s.at_ : Int)) = (L : Int) - (s.at_ : Int) := IntWalk.i64_in _ (by omega)
     have hd : decide ((L : Int) - (s.at_ : Int) < (n : Int)) = true := decide_eq_true (by omega)
     clear h hL hl
     go_enter Tryz.func37, Tryz.ntmps37
     go_wp2_with fail
     go_quiet (fail)
     go_wp2_with fail
     refine (HF.out _).mono ?_
     rintro e w2 ⟨rfl, h2, k2⟩
     have H2 := Lib.hid h2
     have K2 := Lib.hid ((HS.out.drewN _).2.trans k2 (fun _ hb => .inl hb))
     clear h2 k2
     go_wp2
     go_ret
     exact ⟨by rw [HV.out]; rfl, by rw [HV.out]; exact ⟨H2.out, K2.out⟩⟩
   · have HV : Hid (numV bs n s = (getV (bitF bs s.at_) false n n, { s with at_ := s.at_ + n })) := Lib.hid (by unfold numV; rw [if_neg (by simp [he]), if_neg hl])
     have hle := h.le
     have hrow := bit_row h.row s.at_ n (by omega)
     have hcap := h.row.2.1
     have hLc : 8 * bs.length ≤ c := h.row.2.1
     have hnil : a = none → c = 0 := h.row.2.2.2.1
     have hmx : c ≤ maxLen := h.row.2.2.1
     obtain ⟨L, hL⟩ : ∃ L, L = 8 * bs.length := ⟨_, rfl⟩
     rw [← hL] at c0 hl hle hLc
     obtain ⟨M, hM⟩ : ∃ M, M = s.at_ + n := ⟨_, rfl⟩
     obtain ⟨at_, hat⟩ : ∃ at_, at_ = s.at_ := ⟨_, rfl⟩
     rw [← hat] at c1 hl hle hM hrow HV
     rw [← hM] at HV
     have HAT := Lib.hid hat
     have i1 : IntKind.i64.wrap ((L : Int) - (at_ : Int)) = (L : Int) - (at_ : Int) := IntWalk.i64_in _ (by omega)
     have i2 : (at_ : Int) + (n : Int) = (M : Int) := by omega
     have i3 : IntKind.i64.wrap (M : Int) = (M : Int) := IntWalk.i64_in _ (by omega)
     have hd : decide ((L : Int) - (at_ : Int) < (n : Int)) = false := decide_eq_false (by omega)
     have q1 : (at_ : Int) ≤ (M : Int) := by omega
     have q2 : (M : Int) ≤ (c : Int) := by omega
     have q3 : (0 : Int) ≤ (at_ : Int) := by omega
     have q4 : at_ ≤ M := by omega
     have q5 : M ≤ c := by omega
     have hMn : M - at_ = n := by omega
     have hrow2 : Row w 1 (if c = at_ then a else a.map fun x => x.add at_) n (c - at_) ((bl bs false at_ n).map Value.bool) := by
       by_cases hq : c = at_
       · rw [if_pos hq]
         have hn0 : n = 0 := by omega
         subst hn0
         exact ⟨rfl, Nat.zero_le _, by omega, fun e => by have := hnil e; omega, fun h => by omega⟩
       · rw [if_neg hq]; exact hrow
     have HOF := Lib.hid (fun (q : Nat) => of_any _ n (c - at_) (bl bs false at_ n) (w.drewN q) (hrow2.mono (zaD (Below.refl _ _) q)) hn)
     have HGV := Lib.hid (getV_bit bs at_ n)
     have hgl := zeu (bitF bs at_) false n n (Nat.le_refl _)
     have hgb : getV (bitF bs at_) false n n < 1048576 := Nat.lt_of_lt_of_le hgl (Nat.pow_le_pow_right (by decide) hn)
     rw [HGV.out] at HOF
     obtain ⟨G, hG⟩ : ∃ G, G = getV (bitF bs at_) false n n := ⟨_, rfl⟩
     rw [← hG] at HOF HV hgb
     have i4 : IntKind.i64.wrap (G : Int) = (G : Int) := IntWalk.i64_in _ (by omega)
     have HSA := Lib.hid (fun (q : Nat) => ((HS.out.drewN q).1.setA M (by omega)))
     clear h hL hl hM hat hrow hrow2 hG hgl HGV
     go_enter Tryz.func37, Tryz.ntmps37
     go_wp2_with fail
     go_quiet (fail)
     go_wp2_with fail
     go_quiet ((go_at_call 67; refine (HOF.out _).mono ?_; rintro e w' ⟨rfl, rfl⟩; exact ⟨rfl, _, rfl⟩))
     all_goals go_wp2
     all_goals go_ret
     all_goals refine ⟨by rw [HV.out]; rfl, ?_⟩
     all_goals rw [HV.out]
     all_goals refine ⟨?_, (HS.out.drewN _).2.trans (HSA.out _).2 (fun _ hb => .inl hb)⟩
     all_goals first
       | exact (HSA.out _).1
       | (have hce : c = at_ := by assumption
          rw [← hce]; exact (HSA.out _).1)
 · have HV : Hid (numV bs n s = (0, s)) := Lib.hid (by unfold numV; rw [if_pos he])
   clear h
   go_enter Tryz.func37, Tryz.ntmps37
   go_wp2
   go_ret
   exact ⟨by rw [HV.out]; rfl, by rw [HV.out]; exact ⟨HS.out, zaa.refl _ _⟩⟩
end Go.Proofs.YtkikhmdpcanidaaGreat
namespace Go.Proofs.YtkikhmdpcanidaaGreat
open Go.RowKit Go.Sort
theorem IsR.putOut {w w1 : World} {U : Nat → Prop} {rb : Nat} {a : Option Addr} {c : Nat} {bs : List UInt8} {most : Nat} {s : IS} {v v' : Value} {o : Obj} {x : UInt8} (h : IsR w U rb a c bs most s) (hv : w.heap[rb]? = some (.cells (rC a (8 * bs.length) c s.at_ s.e v most) 66 (0, 0))) (hO : w.ownsRow (rb + 1) 5 1 v s.out.length (s.out.map u8C)) (hU : ∀ b, v.ownBlock = some b → U b)
   (hO' : w1.ownsRow (rb + 1) 5 1 v' (s.out.length + 1) (s.out.map u8C ++ [u8C x])) (hg : (w.alloc o).grownBy w1 v.ownBlock) (hN : zf5 (w.alloc o) v v') :
   zbk w U rb a c bs most { s with out := s.out ++ [x] } (w1.setCell ⟨rb, 3, none⟩ v') := by
 have hk : zaa (fun b => v.ownBlock = some b) w w1 := ((zaa.refl _ w).alloc o).grown hg (fun k hk => .inl hk)
 have hk2 : zaa (fun b => b = rb) w1 (w1.setCell ⟨rb, 3, none⟩ v') := zaa.setCell (S := fun b => b = rb) (zaa.refl _ w1) (a := ⟨rb, 3, none⟩) (.inl rfl) _
 have hsz := hk.size
 have hult := h.ult
 have hrb := h.blt h.own
 have hrb1 : w1.heap[rb]? = some (.cells (rC a (8 * bs.length) c s.at_ s.e v most) 66 (0, 0)) := hk.obj hv (fun e => by have := (hO.lt rb e).1; omega)
 have hkU : zaa U w w1 := hk.weaken hU
 refine ⟨fun b => U b ∨ v'.ownBlock = some b, ⟨⟨v', ?_, ?_, fun b hb => .inr hb⟩, (h.row.keeps hk (fun y hy e => by have := (hO.lt _ e).1; have := h.lt y hy; omega)).keeps hk2 (fun y hy e => by have := h.lt y hy; omega), h.lt, h.le, .inl h.own, fun b hb => ?_⟩, hkU.trans hk2 (fun b hb => .inl (hb ▸ h.own)), fun b hb => ?_⟩
 · have := zaM (w := w1) (b := rb) (n := 5) (enc := rE a (8 * bs.length) c s.at_ s.e v most) (t := 66) hrb1 3 v'
   exact this
 · have h3 := zao hO' hk2 (fun b hb e => by have := (hO'.lt b hb).1; omega)
   show World.ownsRow _ _ _ _ v' (s.out ++ [x]).length ((s.out ++ [x]).map u8C)
   rw [List.length_append, List.map_append]
   exact h3
 · have hs2 := hk2.size
   rcases hb with hb | hb
   · have := hult b hb
     exact ⟨this.1, by omega⟩
   · have := hO'.lt b hb
     exact ⟨by omega, by omega⟩
 · rcases hb with hb | hb
   · exact .inl hb
   · rcases hN b hb with e | e
     · exact .inl (hU b e)
     · rw [zad] at e; exact .inr (by omega)
theorem IsR.next {w w' : World} {U : Nat → Prop} {rb : Nat} {a : Option Addr} {c : Nat} {bs : List UInt8} {most : Nat} {s : IS} (h : IsR w' U rb a c bs most s ∧ zaa U w w') : zbk w U rb a c bs most s w' := ⟨U, h.1, h.2, fun _ h => .inl h⟩
def putR (most : Nat) (c : UInt8) (s : IS) : IS := if s.e ≠ 0 then s else zbL most c s
theorem rput_any {w : World} {U : Nat → Prop} {rb : Nat} {a : Option Addr} {c : Nat} {bs : List UInt8} {most : Nat} {s : IS} (h : IsR w U rb a c bs most s) (x : Nat) (hx : x < 256) (hb : s.out.length ≤ 100000000) :
   Calls Tryz.prog 68 #[.pointer (some ⟨rb, 0, none⟩), .int .i64 x] w fun e w' => e = .returned (.tuple #[]) ∧ zbk w U rb a c bs most (putR most (UInt8.ofNat x) s) w' := by
 obtain ⟨c0, c1, c2, c4, f1, f2, f3⟩ := h.cells
 have HS := Lib.hid h
 obtain ⟨v, hv, hO, hU⟩ := h.ex
 obtain ⟨a0, cap0, hva, -, -⟩ := Row.of_owns hO
 subst hva
 have c3 : w.cell? ⟨rb, 3, none⟩ = some (.slice a0 s.out.length cap0) := by rw [cell_of_row w rb _ _ _ _ hv]; rfl
 have HV := Lib.hid hv
 have HO := Lib.hid hO
 have HU := Lib.hid hU
 have hsb := h.blt h.own
 clear h hv hO hU
 by_cases he : s.e = 0
 · rw [he] at c2
   by_cases hl : most ≤ s.out.length
   · have hd : decide (most ≤ s.out.length) = true := decide_eq_true hl
     have HP : Hid (putR most (UInt8.ofNat x) s = zaj 3 s) := Lib.hid (by unfold putR zbL; rw [if_neg (by simp [he]), if_pos hl])
     go_enter Tryz.func68, Tryz.ntmps68
     go_wp2_with fail
     go_quiet (fail)
     have HF := Lib.hid (zaF (HS.out.drewN nq).1 3)
     go_wp2_with fail
     refine HF.out.mono ?_
     rintro e w2 ⟨rfl, h2, k2⟩
     have H2 := Lib.hid (And.intro h2 ((HS.out.drewN nq).2.trans k2 (fun _ hb => .inl hb)))
     clear h2 k2
     go_wp2
     refine bodyPost_ret (results_none rfl _ _ _) rfl ?_
     exact ⟨rfl, by rw [HP.out]; exact IsR.next H2.out⟩
   · have hd : decide (most ≤ s.out.length) = false := decide_eq_false hl
     have HP : Hid (putR most (UInt8.ofNat x) s = { s with out := s.out ++ [UInt8.ofNat x] }) := Lib.hid (by unfold putR zbL; rw [if_neg (by simp [he]), if_neg hl])
     have hxw : IntKind.u8.wrap (x : Int) = (x : Int) := by rw [show IntKind.u8.wrap (x : Int) = (x : Int) % 256 from rfl]; omega
     have HX : Hid (u8C (UInt8.ofNat x) = .int .u8 (x : Int)) := Lib.hid (by unfold u8C; rw [UInt8.toNat_ofNat', Nat.mod_eq_of_lt hx])
     go_enter Tryz.func68, Tryz.ntmps68
     go_wp2_with fail
     go_quiet (fail)
     have HSD := Lib.hid (HS.out.drewN nq)
     have HOD := Lib.hid (show (w.drewN nq).ownsRow (rb + 1) 5 1 (.slice a0 s.out.length cap0) s.out.length (s.out.map u8C) from HO.out)
     have HVD := Lib.hid (show (w.drewN nq).heap[rb]? = some (.cells (rC a (8 * bs.length) c s.at_ s.e (.slice a0 s.out.length cap0) most) 66 (0, 0)) from HV.out)
     have d3 : (w.drewN nq).cell? ⟨rb, 3, none⟩ = some (.slice a0 s.out.length cap0) := c3
     have hsbd : rb < (w.drewN nq).heap.size := hsb
     generalize w.drewN nq = W at *
     clear c0 c1 c2 c3 c4 f1 f2 f3
     go_wp2_with (at_builtin; refine zb9 EByte rfl (.tmp 25) (.tmp 28) rfl (rb + 1) _ s.out.length _ rfl (HOD.out.alloc _) _ 1 _ _ rfl (zaS _ _ _) (zbN rfl) (by unfold maxLen; omega) (by omega) (by rw [zad]; omega) ?_; intro v' w5 hO5 hg5 hN5; obtain ⟨a5, c5, hv5, -, -⟩ := Row.of_owns hO5; subst hv5; have HN := Lib.hid (HSD.out.1.putOut (x := UInt8.ofNat x) HVD.out HOD.out HU.out (by rw [HX.out]; exact hO5) hg5 hN5); have hf5 : w5.frozen? ⟨rb, 3, none⟩ = false := frozen_of_row w5 rb 3 _ _ ((((zaa.refl _ W).alloc _).grown hg5 (fun k hk => .inl hk)).obj HVD.out (fun e => by have := (HOD.out.lt rb e).1; omega)); have hc5 : w5.cell? ⟨rb, 3, none⟩ = some (.slice a0 s.out.length cap0) := (((zaa.refl _ W).alloc _).grown hg5 (fun k hk => .inl hk)).cell d3 (fun e => by have := (HOD.out.lt rb e).1; omega); clear hO5 hg5 hN5)
     go_end0
     refine ⟨rfl, ?_⟩
     rw [HP.out]
     exact zbk.trans HSD.out.2 (fun _ h => .inl h) HN.out
 · have HP : Hid (putR most (UInt8.ofNat x) s = s) := Lib.hid (by unfold putR; rw [if_pos he])
   go_enter Tryz.func68, Tryz.ntmps68
   go_wp2_with fail
   refine bodyPost_ret (results_none rfl _ _ _) rfl ?_
   exact ⟨rfl, by rw [HP.out]; exact IsR.next ⟨HS.out, zaa.refl _ _⟩⟩
theorem zf9 {w : World} {U : Nat → Prop} {rb : Nat} {a : Option Addr} {c : Nat} {bs : List UInt8} {most : Nat} {s : IS} (h : IsR w U rb a c bs most s) {al : Option Addr} {n cap : Nat} {l : List Int} (hr : Row w 1 al n cap (l.map (Value.int .i64))) :
   Calls Tryz.prog 69 #[.pointer (some ⟨rb, 0, none⟩), .slice al n cap] w fun x w' => ∃ v, x = .returned v ∧ IsR w' U rb a c bs most (tabV l s) ∧ zaa U w w' ∧ ((tabV l s).e = 0 → 0 ≤ zas l ∧ w'.ownsRow w.heap.size 79 1 v n (fl n (cdV l n))) := by
 obtain ⟨-, -, c2, -, -, f2, -⟩ := h.cells
 have HS := Lib.hid h
 by_cases he : s.e = 0
 · rw [he] at c2
   by_cases hroom : zas l < 0
   · have HN := Lib.hid (rcodes_bad al n cap l w hr hroom)
     have HV : Hid (tabV l s = zaj 13 s) := Lib.hid (by unfold tabV zaj; rw [if_neg (by simp [he]), if_pos hroom, if_pos he])
     have HNE := Lib.hid (zbz (s := s) (e := 13) (by decide))
     have HF := Lib.hid (zaF HS.out 13)
     clear h hr hroom
     go_enter Tryz.func69, Tryz.ntmps69
     go_wp2_with fail
     refine HN.out.mono ?_
     rintro e w1 ⟨rfl, rfl⟩
     clear c2 f2
     go_wp2_with fail
     refine HF.out.mono ?_
     rintro e w2 ⟨rfl, h2, k2⟩
     have H2 := Lib.hid h2
     have K2 := Lib.hid k2
     clear h2 k2
     go_wp2
     go_ret
     exact ⟨_, rfl, by rw [HV.out]; exact H2.out, K2.out, fun h0 => absurd (by rw [HV.out] at h0; exact h0) HNE.out⟩
   · have HN := Lib.hid (rcodes_ok al n cap l w hr (by omega))
     have HV : Hid (tabV l s = s) := Lib.hid (by unfold tabV; rw [if_neg (by simp [he]), if_neg hroom])
     have HR := Lib.hid (show 0 ≤ zas l by omega)
     clear h hr hroom
     go_enter Tryz.func69, Tryz.ntmps69
     go_wp2_with fail
     refine HN.out.mono ?_
     rintro e w1 ⟨v, rfl, hO, hb⟩
     obtain ⟨aC, cC, hv, -, -⟩ := Row.of_owns hO
     subst hv
     have HO := Lib.hid hO
     have HB := Lib.hid hb
     have HF := Lib.hid (zaF (HS.out.mono hb) 0)
     clear c2 f2 hO hb
     go_wp2_with fail
     refine HF.out.mono ?_
     rintro e w2 ⟨rfl, h2, k2⟩
     rw [zdC] at h2
     have H2 := Lib.hid h2
     have K2 := Lib.hid k2
     clear h2 k2
     go_wp2
     go_ret
     exact ⟨_, rfl, by rw [HV.out]; exact H2.out, (zaa.any HB.out).trans K2.out (fun _ hb => .inl hb), fun _ => ⟨HR.out, zao HO.out K2.out (fun b hb hu => by have := (HO.out.lt b hb).1; have := HS.out.blt hu; omega)⟩⟩
 · have HV : Hid (tabV l s = s) := Lib.hid (by unfold tabV; rw [if_pos he])
   have HE := Lib.hid he
   clear h hr
   go_enter Tryz.func69, Tryz.ntmps69
   go_wp2
   go_ret
   exact ⟨_, rfl, by rw [HV.out]; exact HS.out, zaa.refl _ _, fun h0 => absurd (by rw [HV.out] at h0; exact h0) HE.out⟩
structure CdR (w : World) (U : Nat → Prop) (al : Option Addr) (n cap : Nat) (vc : Value) (l : List Int) : Prop where
 room : 0 ≤ zas l
 row : Row w 1 al n cap (l.map (Value.int .i64))
 cds : ∃ aC cC, vc = .slice aC n cC ∧ Row w 1 aC n cC (fl n (cdV l n)) ∧ ∀ x, aC = some x → x.block < w.heap.size ∧ ¬ U x.block
 at_ : ∀ x, al = some x → x.block < w.heap.size ∧ ¬ U x.block
theorem CdR.keeps {w w' : World} {U U' : Nat → Prop} {al : Option Addr} {n cap : Nat} {vc : Value} {l : List Int} (h : CdR w U al n cap vc l) (hk : zaa U w w') (hU : ∀ b, U' b → U b ∨ w.heap.size ≤ b) : CdR w' U' al n cap vc l := by
 obtain ⟨h1, h2, ⟨aC, cC, h3, h4, h5⟩, h6⟩ := h
 have hs := hk.size
 have hh : ∀ b, b < w.heap.size ∧ ¬ U b → b < w'.heap.size ∧ ¬ U' b := fun b hb => ⟨by omega, fun hu => (hU b hu).elim hb.2 (fun h => by omega)⟩
 exact ⟨h1, h2.keeps hk (fun x hx => (h6 x hx).2), ⟨aC, cC, h3, h4.keeps hk (fun x hx => (h5 x hx).2), fun x hx => hh _ (h5 x hx)⟩, fun x hx => hh _ (h6 x hx)⟩
end Go.Proofs.YtkikhmdpcanidaaGreat
