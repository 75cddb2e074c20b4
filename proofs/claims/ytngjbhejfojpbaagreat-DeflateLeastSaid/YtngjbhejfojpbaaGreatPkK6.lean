/-
  Our texts DeG to Lz5, in one.
-/
import Derived.Test.YtngjbhejfojpbaaGreatPkK5
import Derived.Deep.Cut
import Derived.Deep.CutRange
import Derived.BigQuiet
import Derived.BigRegion
import Derived.Deep.RegionHeld
import Derived.Maps.OwnSet
import Derived.WideKeyArr
set_option maxRecDepth 8000
set_option maxHeartbeats 8000000
namespace Go.Proofs.YtngjbhejfojpbaaGreat
theorem repL_app (o : List UInt8) {far : Nat} (h1 : 1 ≤ far) : ∀ (n : Nat) (m : List UInt8), far ≤ m.length → repL far n (o ++ m) = o ++ repL far n m
 | 0, _, _ => rfl
 | n + 1, m, h => by
   rw [repL, repL]
   have e : (o ++ m).getD ((o ++ m).length - far) 0 = m.getD (m.length - far) 0 := by
     rw [zcj _ _ _ _ (by rw [List.length_append]; omega), List.length_append, show o.length + m.length - far - o.length = m.length - far from by omega]
   rw [e, List.append_assoc, repL_app o h1 n _ (by rw [List.length_append]; omega)]
theorem expT_app (o : List UInt8) : ∀ {ts : List LT} {m r : List UInt8}, expT ts m = some r → expT ts (o ++ m) = some (o ++ r)
 | [], m, r, h => by cases h; rfl
 | t :: ts, m, r, h => by
   unfold expT at h ⊢
   split at h
   case isFalse => cases h
   rename_i hm
   rw [if_pos ⟨hm.1, by rw [List.length_append]; omega⟩]
   have e : t.put (o ++ m) = o ++ t.put m := by
     have hmay := hm.1
     unfold LT.may at hmay
     unfold LT.put
     by_cases h0 : t.len = 0
     · rw [if_pos h0, if_pos h0, List.append_assoc]
     · rw [if_neg h0] at hmay
       rw [if_neg h0, if_neg h0, repL_app o hmay.2.2.2.1 _ _ hm.2]
   rw [e]
   exact expT_app o h
theorem bits_pos {l d : List Int} {t : LT} (h : CodT l d t) : 1 ≤ (t.bits l d).length := by
 unfold CodT at h
 unfold LT.bits
 by_cases h0 : t.len = 0
 · rw [if_pos h0] at h ⊢
   rw [zap]; unfold lenN; omega
 · rw [if_neg h0] at h ⊢
   rw [List.length_append, zap]
   have := h.1
   unfold lenN; omega
theorem tokB_ge {l d : List Int} : ∀ {ts : List LT}, (∀ t ∈ ts, CodT l d t) → ts.length ≤ (tokB l d ts).length
 | [], _ => Nat.zero_le _
 | t :: ts, h => by
   have h1 := bits_pos (h t (List.mem_cons_self ..))
   have h2 := tokB_ge (fun u hu => h u (List.mem_cons_of_mem _ hu))
   rw [tokB, List.length_append, List.length_cons]; omega
theorem runB_ge {c : List Int} : ∀ {R : List (Nat × Nat)}, (∀ x ∈ R, 0 < c.getD x.1 0) → R.length ≤ (runB c R).length
 | [], _ => Nat.zero_le _
 | (s, v) :: R, h => by
   have h1 := h (s, v) (List.mem_cons_self ..)
   have h2 := runB_ge (fun u hu => h u (List.mem_cons_of_mem _ hu))
   dsimp only at h1
   rw [runB, List.length_append, List.length_append, zap, List.length_cons]; unfold lenN; omega
def zdj (p kind : Nat) (last : Bool) (b : List UInt8) (Z : List Bool) : Prop :=
 (kind = 0 ∧ b.length ≤ 65535 ∧ Z = stoB p last b) ∨ (kind = 1 ∧ ∃ ts, expT ts [] = some b ∧ Z = fixB last ts) ∨
 (kind = 2 ∧ ∃ ts la lb own c R, expT ts [] = some b ∧ DynOk la lb own c R ts ∧ Z = zbh last la lb own c R ts)
theorem zdj.ok {bs : List UInt8} {most p kind : Nat} {last : Bool} {b o : List UInt8} {Z : List Bool} (h : zdj p kind last b Z) (hs : Sees bs p Z) (hm : o.length + b.length ≤ most) :
   BlkOk bs most (zbX bs) p (p + Z.length) last o (o ++ b) := by
 have hz := hs.1
 have hap : ∀ {ts : List LT}, expT ts [] = some b → expT ts o = some (o ++ b) := fun h => by
   have := expT_app o h
   rwa [List.append_nil] at this
 have hle : (o ++ b).length ≤ most := by rw [List.length_append]; exact hm
 rcases h with ⟨-, h1, rfl⟩ | ⟨-, ts, h1, rfl⟩ | ⟨-, ts, la, lb, own, c, R, h1, h2, rfl⟩
 · exact stored_sees hs h1 hm
 · refine fix_sees hs (hap h1) hle ?_
   have := tokB_ge (fun t ht => fix_cod (zbS h1 t ht))
   unfold fixB at hz
   rw [List.length_append] at hz
   unfold zbX; omega
 · have t1 := tokB_ge h2.ct
   have t2 := runB_ge (c := iL c) (R := R) (fun x hx => by rw [zaN]; have := h2.cr x hx; omega)
   have hz2 := hz
   unfold zbh at hz2
   simp only [List.length_append] at hz2
   exact dyn_sees hs h2 (hap h1) hle (by unfold zbX; omega) (by unfold zbX; omega)
theorem zdj.pos {p kind : Nat} {last : Bool} {b : List UInt8} {Z : List Bool} (h : zdj p kind last b Z) : 3 ≤ Z.length := by
 rcases h with ⟨-, h1, rfl⟩ | ⟨-, ts, h1, rfl⟩ | ⟨-, ts, la, lb, own, c, R, h1, h2, rfl⟩
 · unfold stoB; rw [List.length_append, zaj]; omega
 · unfold fixB; rw [List.length_append, zaj]; omega
 · unfold zbh; rw [List.length_append, zaj]; omega
inductive zb2 : Nat → List (Nat × List UInt8) → List Bool → Prop where
 | one {p kind : Nat} {b : List UInt8} {Z : List Bool} : zdj p kind true b Z → zb2 p [(kind, b)] Z
 | more {p kind : Nat} {b : List UInt8} {l : List (Nat × List UInt8)} {Z Y : List Bool} : zdj p kind false b Z → zb2 (p + Z.length) l Y → zb2 p ((kind, b) :: l) (Z ++ Y)
theorem zb2.ok {bs : List UInt8} {most p : Nat} {l : List (Nat × List UInt8)} {Z : List Bool} (h : zb2 p l Z) : ∀ o : List UInt8, Sees bs p Z → o.length + (l.flatMap Prod.snd).length ≤ most →
   zeK bs most (zbX bs) l.length p (p + Z.length) o (o ++ l.flatMap Prod.snd) := by
 induction h with
 | one h1 =>
   intro o hs hm
   simp only [List.flatMap_cons, List.flatMap_nil, List.append_nil] at hm ⊢
   exact .one (h1.ok hs hm)
 | @more p kind b l Z Y h1 _ ih =>
   intro o hs hm
   simp only [List.flatMap_cons, List.length_append] at hm ⊢
   have e1 := h1.ok (most := most) (o := o) hs.left (by omega)
   have e2 := ih (o ++ b) hs.right (by rw [List.length_append]; omega)
   rw [Nat.add_assoc, List.append_assoc] at e2
   exact .more e1 e2
theorem zb2.len {p : Nat} {l : List (Nat × List UInt8)} {Z : List Bool} (h : zb2 p l Z) : l.length ≤ Z.length := by
 induction h with
 | one h1 => have := h1.pos; simp only [List.length_singleton]; omega
 | more h1 _ ih => have := h1.pos; rw [List.length_append, List.length_cons]; omega
theorem zb2.end_ {bs : List UInt8} {most : Nat} {l : List (Nat × List UInt8)} {Z : List Bool} (h : zb2 0 l Z) (hw : zbi bs false Z) (hm : (l.flatMap Prod.snd).length ≤ most) :
   endI bs most = ⟨Z.length, 0, l.flatMap Prod.snd⟩ := by
 have h1 := h.ok (most := most) [] hw.sees (by simpa using hm)
 rw [Nat.zero_add, List.nil_append] at h1
 have h2 := h.len
 have h3 := hw.1
 unfold endI
 rw [h1.infl (zbX bs) (by unfold zbX; omega)]; rfl
theorem zb2.res {bs : List UInt8} {most : Nat} {l : List (Nat × List UInt8)} {Z : List Bool} (h : zb2 0 l Z) (hw : zbi bs false Z) (hm : (l.flatMap Prod.snd).length ≤ most) :
   (endI bs most).e = 0 ∧ resO (endI bs most) = l.flatMap Prod.snd ∧ resN (endI bs most) = bs.length := by
 rw [h.end_ hw hm]
 exact ⟨rfl, rfl, hw.1.symm⟩
theorem zeM {bs : List UInt8} {B : List Bool} (h : zbi bs false B) {k i : Nat} (hk : k < bs.length) (hi : i < 8) : (bs.getD k 0).toNat.testBit i = B.getD (8 * k + i) false := by
 rw [← h.2 (8 * k + i) (by omega)]
 unfold zaF za8
 rw [if_neg (by decide), show (8 * k + i) / 8 = k from by omega, show (8 * k + i) % 8 = i from by omega, Nat.testBit_eq_decide_div_mod_eq]
 rfl
theorem byte_ext {x y : UInt8} (h : ∀ i, i < 8 → x.toNat.testBit i = y.toNat.testBit i) : x = y := by
 apply UInt8.toNat_inj.1
 apply Nat.eq_of_testBit_eq
 intro i
 by_cases hi : i < 8
 · exact h i hi
 · have hx : x.toNat < 2 ^ i := Nat.lt_of_lt_of_le x.toNat_lt (Nat.pow_le_pow_right (by omega) (by omega))
   have hy : y.toNat < 2 ^ i := Nat.lt_of_lt_of_le y.toNat_lt (Nat.pow_le_pow_right (by omega) (by omega))
   rw [Nat.testBit_lt_two_pow hx, Nat.testBit_lt_two_pow hy]
theorem wrote_inj {a b : List UInt8} {B : List Bool} (ha : zbi a false B) (hb : zbi b false B) : a = b := by
 have hl : a.length = b.length := by rw [ha.1, hb.1]
 apply List.ext_getElem hl
 intro k h1 h2
 apply byte_ext
 intro i hi
 have e1 := zeM ha h1 hi
 have e2 := zeM hb h2 hi
 rw [List.getD_eq_getElem?_getD, List.getElem?_eq_getElem h1] at e1
 rw [List.getD_eq_getElem?_getD, List.getElem?_eq_getElem h2] at e2
 exact e1.trans e2.symm
theorem byteB_get : ∀ (l : List UInt8) (k i : Nat), i < 8 → (za6 l).getD (8 * k + i) false = (l.getD k 0).toNat.testBit i
 | [], k, i, _ => by simp [za6]
 | x :: l, 0, i, hi => by
   rw [za6, zcF _ _ _ _ (by rw [zac]; omega), show 8 * 0 + i = i from by omega, ze5 _ _ _ _ hi]; rfl
 | x :: l, k + 1, i, hi => by
   rw [za6, zcj _ _ _ _ (by rw [zac]; omega), zac, show 8 * (k + 1) + i - 8 = 8 * k + i from by omega, byteB_get l k i hi]; rfl
theorem wrote_byteB (l : List UInt8) : zbi l false (za6 l) :=
 ⟨by rw [zbv]; omega, fun i hi => by
   have h := byteB_get l (i / 8) (i % 8) (by omega)
   rw [show 8 * (i / 8) + i % 8 = i from by omega] at h
   rw [h]
   unfold zaF za8
   rw [if_neg (by decide), Nat.testBit_eq_decide_div_mod_eq]
   rfl⟩
theorem zdP : ∀ a b : List UInt8, za6 (a ++ b) = za6 a ++ za6 b
 | [], b => rfl
 | x :: a, b => by rw [List.cons_append, za6, za6, zdP a b, List.append_assoc]
theorem putL_n (x n m : Nat) : ∀ k, putL x false n k = putL x false m k
 | 0 => rfl
 | k + 1 => by rw [putL, putL, putL_n x n m k]; rfl
theorem putL_two (x n : Nat) (a : Nat) : ∀ k, putL x false n (a + k) = putL (x % 2 ^ a) false n a ++ putL (x / 2 ^ a) false n k
 | 0 => by
   rw [putL, List.append_nil, Nat.add_zero]
   have : ∀ k, k ≤ a → putL x false n k = putL (x % 2 ^ a) false n k := by
     intro k
     induction k with
     | zero => intro _; rfl
     | succ k ih =>
       intro hk
       rw [putL, putL, ih (by omega)]
       show _ ++ [x.testBit k] = _ ++ [(x % 2 ^ a).testBit k]
       rw [Nat.testBit_mod_two_pow]
       simp [show k < a from by omega]
   exact this a (Nat.le_refl _)
 | k + 1 => by
   rw [← Nat.add_assoc, putL, putL, putL_two x n a k, ← List.append_assoc]
   show _ ++ [x.testBit (a + k)] = _ ++ [(x / 2 ^ a).testBit k]
   rw [Nat.testBit_div_two_pow, Nat.add_comm k a]
theorem put16 (x : Nat) : putL x false 16 16 = putL (x % 256) false 8 8 ++ putL (x / 256) false 8 8 := by
 rw [show (16 : Nat) = 8 + 8 from rfl, putL_two x (8 + 8) 8 8]
 rw [putL_n (x % 2 ^ 8) (8 + 8) 8, putL_n (x / 2 ^ 8) (8 + 8) 8]
def stoBy (b : List UInt8) : List UInt8 := [1, UInt8.ofNat (b.length % 256), UInt8.ofNat (b.length / 256), UInt8.ofNat (255 - b.length % 256), UInt8.ofNat (255 - b.length / 256)] ++ b
theorem stoB_is {b : List UInt8} (h : b.length ≤ 65535) : stoB 0 true b = za6 (stoBy b) := by
 have e : ∀ x, x < 256 → (UInt8.ofNat x).toNat = x := fun x hx => by simp only [UInt8.toNat_ofNat']; exact Nat.mod_eq_of_lt hx
 unfold stoB stoBy
 rw [zdP]
 simp only [za6, List.append_nil]
 rw [e _ (by omega), e _ (by omega), e _ (by omega), e _ (by omega), put16 b.length, put16 (65535 - b.length)]
 have h0 : zb9 true 0 ++ List.replicate ((0 + 10) / 8 * 8 - (0 + 3)) false = putL (1 : UInt8).toNat false 8 8 := by decide
 rw [← List.append_assoc, h0, show (65535 - b.length) % 256 = 255 - b.length % 256 from by omega, show (65535 - b.length) / 256 = 255 - b.length / 256 from by omega]
 simp only [List.append_assoc]
theorem sto_bytes {bs b : List UInt8} (hw : zbi bs false (stoB 0 true b)) (h : b.length ≤ 65535) : bs = stoBy b := by
 rw [stoB_is h] at hw
 exact wrote_inj hw (wrote_byteB _)
end Go.Proofs.YtngjbhejfojpbaaGreat
namespace Go.Proofs.YtngjbhejfojpbaaGreat
open Go.RowKit
theorem byteB_one (x : UInt8) : za6 [x] = putL x.toNat false 8 8 := by simp [za6]
theorem zeA (b : List UInt8) {i : Nat} (h : i < b.length) : za6 (b.take (i + 1)) = za6 (b.take i) ++ putL (b.getD i 0).toNat false 8 8 := by
 rw [List.take_add_one, zdP, List.getElem?_eq_getElem h, List.getD_eq_getElem?_getD, List.getElem?_eq_getElem h, Option.getD_some, ← byteB_one]; rfl
theorem pad_is (n : Nat) : (n + 3 + 7) / 8 * 8 - (n + 3) = (n + 10) / 8 * 8 - (n + 3) := by omega
def boolN : Value → Nat
 | .bool true => 1
 | _ => 0
theorem stored_any {w : World} {S : Nat → Prop} {wb cap : Nat} {a : Option Addr} {B : List Bool} {b : List UInt8} (last : Bool) (h : WrQ w S wb false B) (hr : Row w 1 a b.length cap (b.map fun x => .int .u8 x.toNat)) (ha : ∀ x, a = some x → ¬ S x.block) (hb : b.length ≤ 65535) (hlt : B.length < 137438953472) :
   Calls Tryz.prog 18 #[wrA wb, .slice a b.length cap, .bool last] w fun e w' => e = .returned (.tuple #[]) ∧ zab w S wb false (B ++ stoB B.length last b) w' := by
 have hc : (w.alloc (.cells #[.pointer (some ⟨wb, 0, none⟩)] 34)).cell? ⟨w.heap.size, 0, none⟩ = some (.pointer (some ⟨wb, 0, none⟩)) := by
   rw [cell_of_row _ _ 0 _ _ _ (heap_alloc_new w _)]; rfl
 have hno : ¬ S w.heap.size := h.out
 have HN := Lib.hid (zab.refl (h.alloc (.cells #[.pointer (some ⟨wb, 0, none⟩)] 34)))
 have HE := Lib.hid (fun (B' : List Bool) (w' : World) (hn : zab (w.alloc (.cells #[.pointer (some ⟨wb, 0, none⟩)] 34)) S wb false B' w') => zab.trans (S := S) ((zaa.refl S w).alloc (.cells #[.pointer (some ⟨wb, 0, none⟩)] 34)) (fun b hb => .inl hb) hn)
 have HX := Lib.hid hno
 have HR := Lib.hid (hr.mono (zam w (.cells #[.pointer (some ⟨wb, 0, none⟩)] 34)))
 have HA := Lib.hid ha
 have hcap := hr.2.1
 have hcapm := hr.2.2.1
 unfold maxLen at hcapm
 obtain ⟨n, hn⟩ : ∃ n, n = b.length := ⟨_, rfl⟩
 rw [← hn] at hcap hb ⊢
 have HL := Lib.hid hn
 clear h hno hr ha hn
 unfold wrA
 have hmin : min (n : Int) 65535 = (n : Int) := by omega
 obtain ⟨lb, hlb⟩ : ∃ lb, lb = last := ⟨_, rfl⟩
 have hgoal : stoB B.length last b = stoB B.length lb b := by rw [hlb]
 rw [hgoal]
 have HLB := Lib.hid hlb
 clear hgoal hlb
 have hw0 : w.heap.size + 1 = (w.alloc (.cells #[.pointer (some ⟨wb, 0, none⟩)] 34)).heap.size := (zae _ _).symm
 have H1 := Lib.hid (fun (W : World) (B' : List Bool) (hn : zab (w.alloc (.cells #[.pointer (some ⟨wb, 0, none⟩)] 34)) S wb false B' W) => hn.cell hc HX.out)
 have H2 := Lib.hid (fun (W : World) (B' : List Bool) (hn : zab (w.alloc (.cells #[.pointer (some ⟨wb, 0, none⟩)] 34)) S wb false B' W) => show Row W 1 a n cap (b.map fun x => .int .u8 x.toNat) from by
   obtain ⟨S1, -, k1, -⟩ := hn
   rw [HL.out]
   exact HR.out.keeps k1 HA.out)
 clear hc
 cases last
 case false =>
   go_enter Tryz.func18, Tryz.ntmps18
   go_wp2_with fail
   generalize w.alloc (.cells #[.pointer (some ⟨wb, 0, none⟩)] 34) = w0 at HN HE HR hw0 H1 H2 ⊢
   go_loopw [1, 6] (fun v1 v6 wr => (v6 = .bool true ∧ v1 = .slice a n cap ∧ Hid (zab w0 S wb false B wr)) ∨ (v6 = .bool false ∧ Hid (zab w0 S wb false (B ++ stoB B.length lb b) wr))) (fun _ v6 _ => boolN v6)
   case atStart => exact .inl ⟨rfl, rfl, HN⟩
   case round =>
     rcases hrel with ⟨rfl, rfl, HW⟩ | ⟨rfl, HW⟩
     case inr =>
       go_wp2_with fail
       go_end0
       exact ⟨rfl, HE.out _ _ HW.out⟩
     have c1 := H1.out _ _ HW.out
     have c2 := H2.out _ _ HW.out
     go_upto_region 5 with fail
     go_cut [1] from 11 to 56 (fun v1 wx => (∃ a', v1 = .slice a' 0 (cap - n)) ∧ wr = wx)
     case first =>
       by_cases hcn : cap = n
       · subst hcn
         go_wp2_with fail
         go_meet
         exact ⟨⟨a, by rw [Nat.sub_self]⟩, rfl⟩
       · go_wp2_with fail
         go_meet
         exact ⟨⟨_, rfl⟩, rfl⟩
     case rest =>
     obtain ⟨⟨a', rfl⟩, rfl⟩ := hcut
     go_wp2_with fail
     obtain ⟨S1, q1, k1, s1⟩ := HW.out
     refine (zc5 (kind := 0) _ q1 (by omega) (by omega)).mono ?_
     rintro e w1 ⟨rfl, hn1⟩
     have hn1 := zab.trans k1 s1 hn1
     have c3 := H1.out _ _ hn1
     have HN1 := Lib.hid hn1
     clear c1 c2 q1 k1 s1 hn1 HW
     go_wp2_with fail
     obtain ⟨S2, q2, k2, s2⟩ := HN1.out
     refine (zeV q2 (by rw [List.length_append, zaj]; omega)).mono ?_
     rintro e w2 ⟨rfl, hn2⟩
     have hn2 := zab.trans k2 s2 hn2
     have c4 := H1.out _ _ hn2
     have HN2 := Lib.hid hn2
     clear c3 q2 k2 s2 hn2 HN1
     go_wp2_with fail
     have hx16 := zd7 n (by omega)
     refine (zaA HN2.out 16 n (by rw [List.length_append, List.length_append, zaj, List.length_replicate]; omega) (by omega) (by omega)).mono ?_
     rintro e w3 ⟨rfl, hn3⟩
     have c5 := H1.out _ _ hn3
     have HN3 := Lib.hid hn3
     clear c4 hn3 HN2
     have hx17 : 65535 - n < 65536 := by omega
     go_wp2_with fail
     refine (zaA HN3.out 16 (65535 - n) (by rw [List.length_append, List.length_append, List.length_append, zaj, List.length_replicate, zac]; omega) (by omega) (by omega)).mono ?_
     rintro e w4 ⟨rfl, hn4⟩
     have HN4 := Lib.hid hn4
     clear c5 hn4 HN3 hx16
     go_wp2_with fail
     obtain ⟨B4, hB4⟩ : ∃ B4, B4 = B ++ zb9 false 0 ++ List.replicate (((B ++ zb9 false 0).length + 7) / 8 * 8 - (B ++ zb9 false 0).length) false ++ putL n false 16 16 ++ putL (65535 - n) false 16 16 := ⟨_, rfl⟩
     have hB4l : B4.length ≤ B.length + 50 := by
       rw [hB4]
       simp only [List.length_append, zaj, List.length_replicate, zac]; omega
     have hfin : B4 ++ za6 b = B ++ stoB B.length lb b := by
       rw [hB4, HLB.out]
       unfold stoB
       simp only [List.length_append, zaj, pad_is, List.append_assoc, HL.out]
     rw [← hB4] at HN4
     have HF := Lib.hid hfin
     clear hB4 hfin
     go_loopw [47] (fun v wr => ∃ i : Nat, v = .int .i64 i ∧ i ≤ n ∧ Hid (zab w0 S wb false (B4 ++ za6 (b.take i)) wr)) (fun v _ => n - (intOf v).toNat)
     case atStart => exact ⟨0, rfl, Nat.zero_le _, by rw [List.take_zero, show za6 [] = [] from rfl, List.append_nil]; exact HN4⟩
     case round =>
       clear HN4
       obtain ⟨i, rfl, hi, HNi⟩ := hrel
       by_cases hlt : i < n
       · have hcd : decide ((i : Int) < (n : Int)) = true := decide_eq_true (by omega)
         have hin : (i : Int) < (n : Int) := by omega
         obtain ⟨bb, off, rfl, -, hcc⟩ := (H2.out _ _ HNi.out).at 0 i hlt
         have z1 := hcc i hlt
         have c6 := H1.out _ _ HNi.out
         have HB := Lib.hid (zeA b (i := i) (by rw [← HL.out]; exact hlt))
         generalize b.getD i 0 = x at z1 HB
         have hx := x.toNat_lt
         clear hcc
         go_wp2_with fail
         refine (zaA HNi.out 8 x.toNat (by rw [List.length_append, zbv, List.length_take]; omega) (by omega) hx).mono ?_
         rintro e w5 ⟨rfl, hn5⟩
         rw [List.append_assoc, ← HB.out] at hn5
         have HN5 := Lib.hid hn5
         clear hn5
         go_wp2_with fail
         go_roundw
         case rel => exact ⟨i + 1, by go_num, by omega, HN5⟩
         case measure => simp [intOf]; omega
       · have hie : i = n := by omega
         subst hie
         have HN6 := Lib.hid (show zab w0 S wb false (B ++ stoB B.length lb b) wr from by
           have h := HNi.out
           rw [List.take_of_length_le (by rw [← HL.out]; exact Nat.le_refl _), HF.out] at h
           exact h)
         go_wp2_with fail
         go_roundw
         case rel => exact .inr ⟨rfl, HN6⟩
         case measure => exact Nat.zero_lt_one
 case true =>
   go_enter Tryz.func18, Tryz.ntmps18
   go_wp2_with fail
   generalize w.alloc (.cells #[.pointer (some ⟨wb, 0, none⟩)] 34) = w0 at HN HE HR hw0 H1 H2 ⊢
   go_loopw [1, 6] (fun v1 v6 wr => (v6 = .bool true ∧ v1 = .slice a n cap ∧ Hid (zab w0 S wb false B wr)) ∨ (v6 = .bool false ∧ Hid (zab w0 S wb false (B ++ stoB B.length lb b) wr))) (fun _ v6 _ => boolN v6)
   case atStart => exact .inl ⟨rfl, rfl, HN⟩
   case round =>
     rcases hrel with ⟨rfl, rfl, HW⟩ | ⟨rfl, HW⟩
     case inr =>
       go_wp2_with fail
       go_end0
       exact ⟨rfl, HE.out _ _ HW.out⟩
     have c1 := H1.out _ _ HW.out
     have c2 := H2.out _ _ HW.out
     go_upto_region 5 with fail
     go_cut [1] from 11 to 56 (fun v1 wx => (∃ a', v1 = .slice a' 0 (cap - n)) ∧ wr = wx)
     case first =>
       by_cases hcn : cap = n
       · subst hcn
         go_wp2_with fail
         go_meet
         exact ⟨⟨a, by rw [Nat.sub_self]⟩, rfl⟩
       · go_wp2_with fail
         go_meet
         exact ⟨⟨_, rfl⟩, rfl⟩
     case rest =>
     obtain ⟨⟨a', rfl⟩, rfl⟩ := hcut
     go_wp2_with fail
     obtain ⟨S1, q1, k1, s1⟩ := HW.out
     refine (zc5 (kind := 0) _ q1 (by omega) (by omega)).mono ?_
     rintro e w1 ⟨rfl, hn1⟩
     have hn1 := zab.trans k1 s1 hn1
     have c3 := H1.out _ _ hn1
     have HN1 := Lib.hid hn1
     clear c1 c2 q1 k1 s1 hn1 HW
     go_wp2_with fail
     obtain ⟨S2, q2, k2, s2⟩ := HN1.out
     refine (zeV q2 (by rw [List.length_append, zaj]; omega)).mono ?_
     rintro e w2 ⟨rfl, hn2⟩
     have hn2 := zab.trans k2 s2 hn2
     have c4 := H1.out _ _ hn2
     have HN2 := Lib.hid hn2
     clear c3 q2 k2 s2 hn2 HN1
     go_wp2_with fail
     have hx16 := zd7 n (by omega)
     refine (zaA HN2.out 16 n (by rw [List.length_append, List.length_append, zaj, List.length_replicate]; omega) (by omega) (by omega)).mono ?_
     rintro e w3 ⟨rfl, hn3⟩
     have c5 := H1.out _ _ hn3
     have HN3 := Lib.hid hn3
     clear c4 hn3 HN2
     have hx17 : 65535 - n < 65536 := by omega
     go_wp2_with fail
     refine (zaA HN3.out 16 (65535 - n) (by rw [List.length_append, List.length_append, List.length_append, zaj, List.length_replicate, zac]; omega) (by omega) (by omega)).mono ?_
     rintro e w4 ⟨rfl, hn4⟩
     have HN4 := Lib.hid hn4
     clear c5 hn4 HN3 hx16
     go_wp2_with fail
     obtain ⟨B4, hB4⟩ : ∃ B4, B4 = B ++ zb9 true 0 ++ List.replicate (((B ++ zb9 true 0).length + 7) / 8 * 8 - (B ++ zb9 true 0).length) false ++ putL n false 16 16 ++ putL (65535 - n) false 16 16 := ⟨_, rfl⟩
     have hB4l : B4.length ≤ B.length + 50 := by
       rw [hB4]
       simp only [List.length_append, zaj, List.length_replicate, zac]; omega
     have hfin : B4 ++ za6 b = B ++ stoB B.length lb b := by
       rw [hB4, HLB.out]
       unfold stoB
       simp only [List.length_append, zaj, pad_is, List.append_assoc, HL.out]
     rw [← hB4] at HN4
     have HF := Lib.hid hfin
     clear hB4 hfin
     go_loopw [47] (fun v wr => ∃ i : Nat, v = .int .i64 i ∧ i ≤ n ∧ Hid (zab w0 S wb false (B4 ++ za6 (b.take i)) wr)) (fun v _ => n - (intOf v).toNat)
     case atStart => exact ⟨0, rfl, Nat.zero_le _, by rw [List.take_zero, show za6 [] = [] from rfl, List.append_nil]; exact HN4⟩
     case round =>
       clear HN4
       obtain ⟨i, rfl, hi, HNi⟩ := hrel
       by_cases hlt : i < n
       · have hcd : decide ((i : Int) < (n : Int)) = true := decide_eq_true (by omega)
         have hin : (i : Int) < (n : Int) := by omega
         obtain ⟨bb, off, rfl, -, hcc⟩ := (H2.out _ _ HNi.out).at 0 i hlt
         have z1 := hcc i hlt
         have c6 := H1.out _ _ HNi.out
         have HB := Lib.hid (zeA b (i := i) (by rw [← HL.out]; exact hlt))
         generalize b.getD i 0 = x at z1 HB
         have hx := x.toNat_lt
         clear hcc
         go_wp2_with fail
         refine (zaA HNi.out 8 x.toNat (by rw [List.length_append, zbv, List.length_take]; omega) (by omega) hx).mono ?_
         rintro e w5 ⟨rfl, hn5⟩
         rw [List.append_assoc, ← HB.out] at hn5
         have HN5 := Lib.hid hn5
         clear hn5
         go_wp2_with fail
         go_roundw
         case rel => exact ⟨i + 1, by go_num, by omega, HN5⟩
         case measure => simp [intOf]; omega
       · have hie : i = n := by omega
         subst hie
         have HN6 := Lib.hid (show zab w0 S wb false (B ++ stoB B.length lb b) wr from by
           have h := HNi.out
           rw [List.take_of_length_le (by rw [← HL.out]; exact Nat.le_refl _), HF.out] at h
           exact h)
         go_wp2_with fail
         go_roundw
         case rel => exact .inr ⟨rfl, HN6⟩
         case measure => exact Nat.zero_lt_one
def zet (x : Int) : Int × Int × Int := if 258 < x then (0, 0, 0) else refS x 29
def zep (x : Int) : Int × Int × Int := if 32768 < x then (-1, 0, 0) else refF x 30
def Tri (V : Int × Int × Int) (w : World) (e : Ending) (w' : World) : Prop := e = .returned (.tuple #[.int .i64 V.1, .int .i64 V.2.1, .int .i64 V.2.2]) ∧ w' = w
theorem lenV_bd : ∀ i, i < 29 → 3 ≤ (zaz (257 + i : Nat)).1 ∧ (zaz (257 + i : Nat)).1 ≤ 258 ∧ 0 ≤ (zaz (257 + i : Nat)).2.1 ∧ (zaz (257 + i : Nat)).2.1 ≤ 13 := fun i hi => by
 have : ∀ k : Fin 29, 3 ≤ (zaz (257 + k.1 : Nat)).1 ∧ (zaz (257 + k.1 : Nat)).1 ≤ 258 ∧ 0 ≤ (zaz (257 + k.1 : Nat)).2.1 ∧ (zaz (257 + k.1 : Nat)).2.1 ≤ 13 := by decide +kernel
 have h := this ⟨i, hi⟩
 dsimp only at h
 exact h
theorem lenV_first {i : Nat} (h : i = 0) : (zaz (257 + i : Nat)).1 = 3 := by subst h; simp [zaz]
theorem disV7_bd : ∀ i, i < 30 → 1 ≤ (disV (i : Nat)).1 ∧ (disV (i : Nat)).1 ≤ 32768 ∧ 0 ≤ (disV (i : Nat)).2.1 ∧ (disV (i : Nat)).2.1 ≤ 13 := fun i hi => by
 have : ∀ k : Fin 30, 1 ≤ (disV (k.1 : Nat)).1 ∧ (disV (k.1 : Nat)).1 ≤ 32768 ∧ 0 ≤ (disV (k.1 : Nat)).2.1 ∧ (disV (k.1 : Nat)).2.1 ≤ 13 := by decide +kernel
 have h := this ⟨i, hi⟩
 dsimp only at h
 exact h
theorem disV_first {i : Nat} (h : i = 0) : (disV (i : Nat)).1 = 1 := by
 have : ∀ k : Fin 30, k.1 = 0 → (disV (k.1 : Nat)).1 = 1 := by decide +kernel
 exact this ⟨i, by omega⟩ h
theorem dsym_any (x : Int) (w : World) (hx : -9223372036854775808 ≤ x ∧ x ≤ 9223372036854775807) : Calls Tryz.prog 64 #[.int .i64 x] w (Tri (zet x) w) := by
 by_cases h1 : x < 3
 · have HV := Lib.hid (show zet x = (0, 0, 0) by unfold zet; rw [if_neg (by omega), refS_low h1 29 (Nat.le_refl _)])
   go_enter Tryz.func64, Tryz.ntmps64
   go_wp2
   go_ret3
   exact ⟨by rw [HV.out]; rfl, rfl⟩
 by_cases h2 : 258 < x
 · have HV := Lib.hid (show zet x = (0, 0, 0) by unfold zet; rw [if_pos h2])
   go_enter Tryz.func64, Tryz.ntmps64
   go_wp2
   go_ret3
   exact ⟨by rw [HV.out]; rfl, rfl⟩
 have HV := Lib.hid (show zet x = refS x 29 by unfold zet; rw [if_neg h2])
 go_enter Tryz.func64, Tryz.ntmps64
 go_wp2_with fail
 go_loopw [5] (fun v wr => ∃ i : Nat, v = .int .i64 (257 + i : Nat) ∧ i < 29 ∧ Hid (zet x = refS x (i + 1)) ∧ w = wr) (fun v _ => (intOf v - 257).toNat)
 case atStart => exact ⟨28, rfl, by omega, HV, rfl⟩
 case round =>
   obtain ⟨i, rfl, hi, HI, rfl⟩ := hrel
   have hb := lenV_bd i hi
   have HL := Lib.hid (zeB ((257 + i : Nat) : Int) w (by omega))
   have HR := Lib.hid (show refS x (i + 1) = if (zaz (257 + i : Nat)).1 ≤ x then (((257 + i : Nat) : Int), x - (zaz (257 + i : Nat)).1, (zaz (257 + i : Nat)).2.1) else refS x i from rfl)
   have H0 := Lib.hid (show i = 0 → (zaz (257 + i : Nat)).1 ≤ x from fun e => by rw [lenV_first e]; omega)
   generalize zaz ((257 + i : Nat) : Int) = V at hb HL HR H0
   obtain ⟨v1, v2, v3⟩ := V
   dsimp only at hb HL HR H0
   by_cases hle : v1 ≤ x
   · have hd : decide (v1 ≤ x) = true := decide_eq_true hle
     go_wp2_with (go_at_call 52; refine HL.out.mono ?_; rintro e w' ⟨rfl, rfl⟩)
     go_ret3
     refine ⟨?_, rfl⟩
     rw [HI.out, HR.out, if_pos hle]; rfl
   · have hd : decide (v1 ≤ x) = false := decide_eq_false hle
     have hi0 : i ≠ 0 := fun e => hle (H0.out e)
     go_wp2_with (go_at_call 52; refine HL.out.mono ?_; rintro e w' ⟨rfl, rfl⟩)
     go_roundw
     case rel =>
       refine ⟨i - 1, ?_, by omega, Lib.hid ?_, by first | rfl | trivial⟩
       · go_num
       · rw [HI.out, HR.out, if_neg (by omega), show i - 1 + 1 = i from by omega]
     case measure => simp [intOf]; omega
theorem dfar_any (x : Int) (w : World) (hx : -9223372036854775808 ≤ x ∧ x ≤ 9223372036854775807) : Calls Tryz.prog 65 #[.int .i64 x] w (Tri (zep x) w) := by
 by_cases h1 : x < 1
 · have HV := Lib.hid (show zep x = (-1, 0, 0) by unfold zep; rw [if_neg (by omega), refF_low h1 30 (Nat.le_refl _)])
   go_enter Tryz.func65, Tryz.ntmps65
   go_wp2
   go_ret3
   exact ⟨by rw [HV.out]; rfl, rfl⟩
 by_cases h2 : 32768 < x
 · have HV := Lib.hid (show zep x = (-1, 0, 0) by unfold zep; rw [if_pos h2])
   go_enter Tryz.func65, Tryz.ntmps65
   go_wp2
   go_ret3
   exact ⟨by rw [HV.out]; rfl, rfl⟩
 have HV := Lib.hid (show zep x = refF x 30 by unfold zep; rw [if_neg h2])
 go_enter Tryz.func65, Tryz.ntmps65
 go_wp2_with fail
 go_loopw [5] (fun v wr => ∃ i : Nat, v = .int .i64 (i : Nat) ∧ i < 30 ∧ Hid (zep x = refF x (i + 1)) ∧ w = wr) (fun v _ => (intOf v).toNat)
 case atStart => exact ⟨29, rfl, by omega, HV, rfl⟩
 case round =>
   obtain ⟨i, rfl, hi, HI, rfl⟩ := hrel
   have hb := disV7_bd i hi
   have HL := Lib.hid (zdp ((i : Nat) : Int) w (by omega))
   have HR := Lib.hid (show refF x (i + 1) = if (disV (i : Nat)).1 ≤ x then (((i : Nat) : Int), x - (disV (i : Nat)).1, (disV (i : Nat)).2.1) else refF x i from rfl)
   have H0 := Lib.hid (show i = 0 → (disV (i : Nat)).1 ≤ x from fun e => by rw [disV_first e]; omega)
   generalize disV ((i : Nat) : Int) = V at hb HL HR H0
   obtain ⟨v1, v2, v3⟩ := V
   dsimp only at hb HL HR H0
   by_cases hle : v1 ≤ x
   · have hd : decide (v1 ≤ x) = true := decide_eq_true hle
     go_wp2_with (go_at_call 53; refine HL.out.mono ?_; rintro e w' ⟨rfl, rfl⟩)
     go_ret3
     refine ⟨?_, rfl⟩
     rw [HI.out, HR.out, if_pos hle]; rfl
   · have hd : decide (v1 ≤ x) = false := decide_eq_false hle
     have hi0 : i ≠ 0 := fun e => hle (H0.out e)
     go_wp2_with (go_at_call 53; refine HL.out.mono ?_; rintro e w' ⟨rfl, rfl⟩)
     go_roundw
     case rel =>
       refine ⟨i - 1, ?_, by omega, Lib.hid ?_, by first | rfl | trivial⟩
       · go_num
       · rw [HI.out, HR.out, if_neg (by omega), show i - 1 + 1 = i from by omega]
     case measure => simp [intOf]; omega
def tokV : List LT → List Value
 | [] => []
 | t :: l => .int .u8 t.b.toNat :: .int .i64 t.len :: .int .i64 t.far :: tokV l
theorem zfv : ∀ a b : List LT, tokV (a ++ b) = tokV a ++ tokV b
 | [], _ => rfl
 | t :: a, b => by simp only [List.cons_append, tokV, zfv a b]
theorem tokV_at : ∀ (l : List LT) (i : Nat) (t : LT), l[i]? = some t → (tokV l)[i * 3]? = some (.int .u8 t.b.toNat) ∧ (tokV l)[i * 3 + 1]? = some (.int .i64 t.len) ∧ (tokV l)[i * 3 + 2]? = some (.int .i64 t.far)
 | [], i, t, h => by simp at h
 | x :: l, 0, t, h => by
   have h : x = t := by simpa using h
   subst h
   exact ⟨rfl, rfl, rfl⟩
 | x :: l, i + 1, t, h => by
   have := tokV_at l i t (by simpa using h)
   rw [show (i + 1) * 3 = i * 3 + 1 + 1 + 1 from by omega]
   simpa [tokV] using this
noncomputable def tokC (l d : List Int) : List LT → List Bool
 | [] => []
 | t :: ts => t.bits l d ++ tokC l d ts
theorem tokC_snoc (l d : List Int) : ∀ (ts : List LT) (t : LT), tokC l d (ts ++ [t]) = tokC l d ts ++ t.bits l d
 | [], t => by simp [tokC]
 | x :: ts, t => by simp only [List.cons_append, tokC, tokC_snoc l d ts t, List.append_assoc]
theorem zfr (l d : List Int) : ∀ ts : List LT, tokB l d ts = tokC l d ts ++ zaU l 256 (lenN l 256)
 | [] => rfl
 | t :: ts => by simp only [tokB, tokC, zfr l d ts, List.append_assoc]
theorem LT.bits_le {l d : List Int} (hl : ∀ s, lenN l s ≤ 15) (hd : ∀ s, lenN d s ≤ 15) {t : LT} (ht : t.may) : (t.bits l d).length ≤ 60 := by
 unfold LT.bits
 unfold LT.may at ht
 by_cases h0 : t.len = 0
 · rw [if_pos h0, zap]
   have := hl t.b.toNat
   unfold lenN at this ⊢; omega
 · rw [if_neg h0] at ht ⊢
   have h1 := zcV ht.2.1 ht.2.2.1
   have h2 := zc0 ht.2.2.2.1 ht.2.2.2.2
   simp only [List.length_append, zap, zac]
   have a := hl (symN t.len)
   have b := hd (farN t.far)
   unfold lenN at a b ⊢; omega
theorem tokC_le {l d : List Int} (hl : ∀ s, lenN l s ≤ 15) (hd : ∀ s, lenN d s ≤ 15) : ∀ {ts : List LT}, (∀ t ∈ ts, t.may) → (tokC l d ts).length ≤ 60 * ts.length
 | [], _ => by simp [tokC]
 | t :: ts, h => by
   have h1 := LT.bits_le hl hd (h t (List.mem_cons_self ..))
   have h2 := tokC_le hl hd (ts := ts) fun u hu => h u (List.mem_cons_of_mem _ hu)
   simp only [tokC, List.length_append, List.length_cons]; omega
theorem symV7_is {x : Nat} (h3 : 3 ≤ x) (h8 : x ≤ 258) : zet x = ((symN x : Int), (symR x : Int), (symB x : Int)) := by unfold zet; rw [if_neg (by omega), refS_is h3 h8]
theorem farV7_is {x : Nat} (h1 : 1 ≤ x) (h2 : x ≤ 32768) : zep x = ((farN x : Int), (farR x : Int), (farB x : Int)) := by unfold zep; rw [if_neg (by omega), refF_is h1]
theorem zeU {w : World} {S Bt Bd : Nat → Prop} {wb cap pt pd : Nat} {a : Option Addr} {B : List Bool} {ts : List LT} {l d : List Int} (h : WrQ w S wb false B) (hr : Row w 3 a ts.length cap (tokV ts)) (ha : ∀ x, a = some x → ¬ S x.block)
   (hT : IsTb w Bt pt l) (hBt : ∀ b, Bt b → ¬ S b ∧ b < w.heap.size) (hD : IsTb w Bd pd d) (hBd : ∀ b, Bd b → ¬ S b ∧ b < w.heap.size) (hts : ∀ t ∈ ts, t.may ∧ CodT l d t) (h256 : 0 < l.getD 256 0) (hlen : ts.length ≤ 100000) (hlt : B.length < 68719476736) :
   Calls Tryz.prog 36 #[wrA wb, .slice a ts.length cap, .pointer (some ⟨pt, 0, none⟩), .pointer (some ⟨pd, 0, none⟩)] w fun e w' => e = .returned (.tuple #[]) ∧ zab w S wb false (B ++ tokB l d ts) w' := by
 have hc : (w.alloc (.cells #[.pointer (some ⟨wb, 0, none⟩)] 34)).cell? ⟨w.heap.size, 0, none⟩ = some (.pointer (some ⟨wb, 0, none⟩)) := by
   rw [cell_of_row _ _ 0 _ _ _ (heap_alloc_new w _)]; rfl
 have hno : ¬ S w.heap.size := h.out
 have HN := Lib.hid (zab.refl (h.alloc (.cells #[.pointer (some ⟨wb, 0, none⟩)] 34)))
 have HE := Lib.hid (fun (B' : List Bool) (w' : World) (hn : zab (w.alloc (.cells #[.pointer (some ⟨wb, 0, none⟩)] 34)) S wb false B' w') => zab.trans (S := S) ((zaa.refl S w).alloc (.cells #[.pointer (some ⟨wb, 0, none⟩)] 34)) (fun b hb => .inl hb) hn)
 have hb0 := zam w (.cells #[.pointer (some ⟨wb, 0, none⟩)] 34)
 have HR := Lib.hid (hr.mono hb0)
 have HT := Lib.hid (hT.mono hb0)
 have HD := Lib.hid (hD.mono hb0)
 have hsz : (w.alloc (.cells #[.pointer (some ⟨wb, 0, none⟩)] 34)).heap.size = w.heap.size + 1 := zae _ _
 have HBT := Lib.hid (show ∀ b, Bt b → ¬ S b ∧ b < (w.alloc (.cells #[.pointer (some ⟨wb, 0, none⟩)] 34)).heap.size from fun b hb => ⟨(hBt b hb).1, by have := (hBt b hb).2; omega⟩)
 have HBD := Lib.hid (show ∀ b, Bd b → ¬ S b ∧ b < (w.alloc (.cells #[.pointer (some ⟨wb, 0, none⟩)] 34)).heap.size from fun b hb => ⟨(hBd b hb).1, by have := (hBd b hb).2; omega⟩)
 have H256 := Lib.hid h256
 have hb0w : w.heap.size < (w.alloc (.cells #[.pointer (some ⟨wb, 0, none⟩)] 34)).heap.size := by omega
 have hl15 : ∀ s, lenN l s ≤ 15 := zcw (zar hT.room).2.2.1
 have hd15 : ∀ s, lenN d s ≤ 15 := zcw (zar hD.room).2.2.1
 have HTS := Lib.hid hts
 have HCL := Lib.hid (show ∀ i, (tokC l d (ts.take i)).length ≤ 6000000 from fun i => by
   have h1 := tokC_le hl15 hd15 (ts := ts.take i) fun t ht => (hts t (List.mem_of_mem_take ht)).1
   have h2 : (ts.take i).length ≤ ts.length := by simp; omega
   have h3 := Nat.mul_le_mul_left 60 (Nat.le_trans h2 hlen)
   omega)
 have hcapm := hr.2.2.1
 have hcapn := hr.2.1
 unfold maxLen at hcapm
 have hno2 := Lib.hid hno
 have HA := Lib.hid ha
 have HC := Lib.hid hc
 obtain ⟨n, hn⟩ : ∃ n, n = ts.length := ⟨_, rfl⟩
 rw [← hn] at HR hlen hcapn ⊢
 have HLN := Lib.hid hn
 clear hr hT hD hBt hBd hts h256 hb0 hsz h hc hno ha hn
 unfold wrA
 go_enter Tryz.func36, Tryz.ntmps36
 go_wp2_with fail
 generalize w.alloc (.cells #[.pointer (some ⟨wb, 0, none⟩)] 34) = w0 at HN HE HR HT HD HBT HBD hb0w HC ⊢
 go_loopw [15] (fun v wr => ∃ i : Nat, v = .int .i64 i ∧ i ≤ n ∧ Hid (zab w0 S wb false (B ++ tokC l d (ts.take i)) wr)) (fun v _ => n - (intOf v).toNat)
 case atStart => exact ⟨0, rfl, Nat.zero_le _, by rw [List.take_zero, tokC, List.append_nil]; exact HN⟩
 case round =>
   obtain ⟨i, rfl, hi, HW⟩ := hrel
   by_cases hlt2 : i < n
   case neg =>
     have hie : i = n := by omega
     subst hie
     have hcd : decide ((i : Int) < (i : Int)) = false := decide_eq_false (by omega)
     have c1 := HW.out.cell HC.out hno2.out
     have hs := HCL.out i
     have HP := Lib.hid (zb4 (s := 256) HW.out HT.out HBT.out (by rw [List.length_append]; omega) (by
       have h := H256.out
       rcases Nat.lt_or_ge 256 l.length with h1 | h1
       · exact h1
       · rw [List.getD_eq_getElem?_getD, List.getElem?_eq_none h1] at h; exact absurd h (by decide)) H256.out)
     go_wp2_with fail
     refine HP.out.mono ?_
     rintro e w2 ⟨rfl, hn2⟩
     have HN2 := Lib.hid (show zab w0 S wb false (B ++ tokB l d ts) w2 from by
       rw [List.take_of_length_le (by rw [← HLN.out]; exact Nat.le_refl _), List.append_assoc, ← zfr] at hn2
       exact hn2)
     clear hn2 HP
     go_wp2_with fail
     go_end0
     exact ⟨rfl, HE.out _ _ HN2.out⟩
   have hcd : decide ((i : Int) < (n : Int)) = true := decide_eq_true (by omega)
   have hin : (i : Int) < (n : Int) := by omega
   obtain ⟨t, ht⟩ : ∃ t, ts[i]? = some t := ⟨_, List.getElem?_eq_getElem (by rw [← HLN.out]; exact hlt2)⟩
   obtain ⟨hmay, hcod⟩ := HTS.out t (List.mem_of_getElem? ht)
   obtain ⟨S1, q1, k1, s1⟩ := HW.out
   have hrow : Row wr 3 a n cap (tokV ts) := HR.out.keeps k1 HA.out
   obtain ⟨bb, off, rfl, hbb, hcc⟩ := hrow.2.2.2.2 (by omega)
   obtain ⟨t0, t1, t2⟩ := tokV_at ts i t ht
   have z0 := hcc _ _ t0
   have z1 := hcc _ _ t1
   have z2 := hcc _ _ t2
   rw [← Nat.add_assoc] at z1 z2
   have c1 := k1.cell HC.out hno2.out
   have HSN := Lib.hid (show tokC l d (ts.take (i + 1)) = tokC l d (ts.take i) ++ t.bits l d from by
     rw [List.take_add_one, ht]; exact tokC_snoc l d _ _)
   have hS1 : ∀ b, b < w0.heap.size → ¬ S b → ¬ S1 b := fun b hb hn h1 => by
     rcases s1 b h1 with h2 | h2
     · exact hn h2
     · omega
   have hk : ∀ o, zaa (fun _ => False) wr (wr.alloc o) := fun o => (zaa.refl _ wr).alloc o
   have hlt1 : ∀ b, S1 b → b < wr.heap.size := fun b hb => (q1.lt b hb).2
   have hszw := k1.size
   obtain ⟨o, ho⟩ : ∃ o : Obj, o = .cells #[.int .u8 t.b.toNat, .int .i64 t.len, .int .i64 t.far] 79 := ⟨_, rfl⟩
   have hnew : (wr.alloc o).heap[wr.heap.size]? = some (.cells #[.int .u8 t.b.toNat, .int .i64 t.len, .int .i64 t.far] 79 (0, 0)) := by rw [ho]; exact heap_alloc_new wr _
   have HNi := Lib.hid (zab.refl (q1.alloc o))
   have HEND := Lib.hid (fun (B' : List Bool) (W' : World) (hn : zab (wr.alloc o) S1 wb false B' W') => zab.trans (k1.trans (hk o) (fun _ h => h.elim)) s1 hn)
   have HCE := Lib.hid (fun (B' : List Bool) (W' : World) (hn : zab (wr.alloc o) S1 wb false B' W') => hn.cell ((hk o).cell c1 id) (hS1 _ hb0w hno2.out))
   have HC0 := Lib.hid (fun (B' : List Bool) (W' : World) (hn : zab (wr.alloc o) S1 wb false B' W') => hn.cell (b := wr.heap.size) (k := 0) (by rw [cell_of_row _ _ 0 _ _ _ hnew]; rfl) (fun h => by have := hlt1 _ h; omega))
   have HC1 := Lib.hid (fun (B' : List Bool) (W' : World) (hn : zab (wr.alloc o) S1 wb false B' W') => hn.cell (b := wr.heap.size) (k := 1) (by rw [cell_of_row _ _ 1 _ _ _ hnew]; rfl) (fun h => by have := hlt1 _ h; omega))
   have HC2 := Lib.hid (fun (B' : List Bool) (W' : World) (hn : zab (wr.alloc o) S1 wb false B' W') => hn.cell (b := wr.heap.size) (k := 2) (by rw [cell_of_row _ _ 2 _ _ _ hnew]; rfl) (fun h => by have := hlt1 _ h; omega))
   have HTi := Lib.hid ((HT.out.keeps k1 (fun b hb => (HBT.out b hb).1)).mono (zam wr o))
   have HDi := Lib.hid ((HD.out.keeps k1 (fun b hb => (HBD.out b hb).1)).mono (zam wr o))
   have hwi : (wr.alloc o).heap.size = wr.heap.size + 1 := zae wr o
   have HBTi := Lib.hid (show ∀ b, Bt b → ¬ S1 b ∧ b < (wr.alloc o).heap.size from fun b hb => by
     obtain ⟨h1, h2⟩ := HBT.out b hb
     exact ⟨hS1 b h2 h1, by omega⟩)
   have HBDi := Lib.hid (show ∀ b, Bd b → ¬ S1 b ∧ b < (wr.alloc o).heap.size from fun b hb => by
     obtain ⟨h1, h2⟩ := HBD.out b hb
     exact ⟨hS1 b h2 h1, by omega⟩)
   have hsL := HCL.out i
   have hbl : (B ++ tokC l d (ts.take i)).length ≤ 68800000000 := by rw [List.length_append]; omega
   have HSN2 := Lib.hid (show B ++ tokC l d (ts.take (i + 1)) = (B ++ tokC l d (ts.take i)) ++ t.bits l d from by rw [HSN.out, List.append_assoc])
   generalize (B ++ tokC l d (ts.take i)) = Bi at HNi HSN2 hbl
   rw [ho] at HNi HEND HCE HC0 HC1 HC2 HTi HDi HBTi HBDi
   clear hcc hrow t0 t1 t2 hS1 hk hlt1 hnew hwi q1 k1 s1 HW HSN hsL HCL HTS HR HT HD HBT HBD HN ho
   unfold LT.may at hmay
   unfold CodT at hcod
   unfold LT.bits at HSN2
   by_cases h0 : t.len = 0
   · rw [if_pos h0] at hcod HSN2
     have he : decide ((t.len : Int) = 0) = true := decide_eq_true (by omega)
     have heb : ((t.len : Int) == 0) = true := he
     have c00 := HC0.out _ _ HNi.out
     have c01 := HC1.out _ _ HNi.out
     have cE := HCE.out _ _ HNi.out
     have hbt := t.b.toNat_lt
     have HP := Lib.hid (zb4 (s := t.b.toNat) HNi.out HTi.out HBTi.out (by omega) (by
       rcases Nat.lt_or_ge t.b.toNat l.length with h1 | h1
       · exact h1
       · rw [List.getD_eq_getElem?_getD, List.getElem?_eq_none h1] at hcod; exact absurd hcod (by decide)) hcod)
     clear h0 hmay hcod HC0 HC1 HC2 HCE HTi HDi HBTi HBDi HNi
     generalize t.len = ln at *
     generalize t.far = fa at *
     generalize t.b.toNat = bt at *
     go_wp2_with fail
     refine HP.out.mono ?_
     rintro e w2 ⟨rfl, hn2⟩
     rw [← HSN2.out] at hn2
     have HN2 := Lib.hid (HEND.out _ _ hn2)
     clear hn2 HP HEND
     go_wp2_with fail
     go_roundw
     case rel => exact ⟨i + 1, by go_num, by omega, HN2⟩
     case measure => simp [intOf]; omega
   · rw [if_neg h0] at hcod HSN2 hmay
     obtain ⟨-, m3, m8, f1, f2⟩ := hmay
     obtain ⟨hc1, hc2⟩ := hcod
     obtain ⟨y1, y2, -, -, y5, y6, -, -⟩ := zcV m3 m8
     obtain ⟨g1, -, -, g4, g5, -, -⟩ := zc0 f1 f2
     have he : decide ((t.len : Int) = 0) = false := decide_eq_false (by omega)
     have heb : ((t.len : Int) == 0) = false := he
     have HSY := Lib.hid (fun W : World => by have h := dsym_any (t.len : Int) W (by omega); rw [symV7_is m3 m8] at h; exact h)
     have HFY := Lib.hid (fun W : World => by have h := dfar_any (t.far : Int) W (by omega); rw [farV7_is f1 f2] at h; exact h)
     have c01 := HC1.out _ _ HNi.out
     clear h0 m3 m8 f1 f2 HC0
     generalize t.len = ln at *
     generalize t.far = fa at *
     generalize t.b.toNat = bt at *
     have hl1 : symN ln < l.length := by
       rcases Nat.lt_or_ge (symN ln) l.length with h1 | h1
       · exact h1
       · rw [List.getD_eq_getElem?_getD, List.getElem?_eq_none h1] at hc1; exact absurd hc1 (by decide)
     have hd1 : farN fa < d.length := by
       rcases Nat.lt_or_ge (farN fa) d.length with h1 | h1
       · exact h1
       · rw [List.getD_eq_getElem?_getD, List.getElem?_eq_none h1] at hc2; exact absurd hc2 (by decide)
     have hq1 : (zaU l (symN ln) (lenN l (symN ln))).length ≤ 15 := by
       rw [zap]; have := hl15 (symN ln); unfold lenN at this ⊢; omega
     have hq2 : (zaU d (farN fa) (lenN d (farN fa))).length ≤ 15 := by
       rw [zap]; have := hd15 (farN fa); unfold lenN at this ⊢; omega
     have HP1 := Lib.hid (zb4 (s := symN ln) HNi.out HTi.out HBTi.out (by omega) hl1 hc1)
     generalize zaU l (symN ln) (lenN l (symN ln)) = L1 at HP1 HSN2 hq1
     have HP3 := Lib.hid (fun (W : World) (B' : List Bool) (hn : zab (wr.alloc (.cells #[.int .u8 bt, .int .i64 ln, .int .i64 fa] 79)) S1 wb false B' W) (hb : B'.length ≤ 68800000100) => zb4 (s := farN fa) hn HDi.out HBDi.out (by omega) hd1 hc2)
     generalize zaU d (farN fa) (lenN d (farN fa)) = L3 at HP3 HSN2 hq2
     generalize symN ln = sN at *
     generalize symR ln = sR at *
     generalize symB ln = sB at *
     generalize farN fa = fN at *
     generalize farR fa = fR at *
     generalize farB fa = fB at *
     have hsR : sR < 32 := Nat.lt_of_lt_of_le y5 (Nat.pow_le_pow_right (by omega) y6 : 2 ^ sB ≤ 2 ^ 5)
     have hfR : fR < 8192 := Nat.lt_of_lt_of_le g4 (Nat.pow_le_pow_right (by omega) g5 : 2 ^ fB ≤ 2 ^ 13)
     clear HTi HDi HBTi HBDi hl1 hd1 hc1 hc2 hl15 hd15
     go_wp2_with fail
     refine (HSY.out _).mono ?_
     rintro e W ⟨rfl, rfl⟩
     have cE := HCE.out _ _ HNi.out
     go_wp2_with fail
     refine HP1.out.mono ?_
     rintro e w2 ⟨rfl, hn2⟩
     have cE2 := HCE.out _ _ hn2
     have HN2 := Lib.hid hn2
     clear hn2 HP1 HSY cE c01
     go_wp2_with fail
     refine (zaA HN2.out sB sR (by rw [List.length_append]; omega) (by omega) y5).mono ?_
     rintro e w3 ⟨rfl, hn3⟩
     have cE3 := HCE.out _ _ hn3
     have c03 := HC2.out _ _ hn3
     have HN3 := Lib.hid hn3
     clear hn3 HN2 cE2
     go_wp2_with fail
     refine (HFY.out _).mono ?_
     rintro e W ⟨rfl, rfl⟩
     go_wp2_with fail
     refine (HP3.out _ _ HN3.out (by rw [List.length_append, List.length_append, zac]; omega)).mono ?_
     rintro e w4 ⟨rfl, hn4⟩
     have cE4 := HCE.out _ _ hn4
     have HN4 := Lib.hid hn4
     clear hn4 HN3 cE3 c03 HP3 HFY
     go_wp2_with fail
     refine (zaA HN4.out fB fR (by rw [List.length_append, List.length_append, List.length_append, zac]; omega) (by omega) g4).mono ?_
     rintro e w5 ⟨rfl, hn5⟩
     have HN5 := Lib.hid (show zab w0 S wb false (B ++ tokC l d (ts.take (i + 1))) w5 from by
       have h := HEND.out _ _ hn5
       rw [HSN2.out]
       simp only [List.append_assoc] at h ⊢
       exact h)
     clear hn5 HN4 cE4 HEND
     go_wp2_with fail
     go_roundw
     case rel => exact ⟨i + 1, by go_num, by omega, HN5⟩
     case measure => simp [intOf]; omega
end Go.Proofs.YtngjbhejfojpbaaGreat
namespace Go.Proofs.YtngjbhejfojpbaaGreat
open Go.RowKit Go.Sort
theorem WrQ.blw {w w' : World} {wb : Nat} {B : List Bool} {S1 : Nat → Prop} (q : WrQ w S1 wb false B) (hb : Below w.heap.size w w') : WrQ w' S1 wb false B :=
 q.keeps (T := fun b => w.heap.size ≤ b) (zaa.of_below hb fun b hb => hb) (fun b hb h => by have := (q.lt b hb).2; omega)
theorem fixed_blk {w : World} {S : Nat → Prop} {wb cap : Nat} {a : Option Addr} {B : List Bool} {ts : List LT} (last : Bool) (h : WrQ w S wb false B) (hr : Row w 3 a ts.length cap (tokV ts)) (ha : ∀ x, a = some x → ¬ S x.block) (hal : ∀ x, a = some x → x.block < w.heap.size) (hts : ∀ t ∈ ts, t.may)
   (hlen : ts.length ≤ 100000) (hlt : B.length < 34359738368) :
   Calls Tryz.prog 19 #[wrA wb, .slice a ts.length cap, .bool last] w fun e w' => e = .returned (.tuple #[]) ∧ zab w S wb false (B ++ fixB last ts) w' := by
 have hc : (w.alloc (.cells #[.pointer (some ⟨wb, 0, none⟩)] 34)).cell? ⟨w.heap.size, 0, none⟩ = some (.pointer (some ⟨wb, 0, none⟩)) := by
   rw [cell_of_row _ _ 0 _ _ _ (heap_alloc_new w _)]; rfl
 have hno : ¬ S w.heap.size := h.out
 have HQ := Lib.hid (h.alloc (.cells #[.pointer (some ⟨wb, 0, none⟩)] 34))
 have HE := Lib.hid (fun (B' : List Bool) (w' : World) (hn : zab (w.alloc (.cells #[.pointer (some ⟨wb, 0, none⟩)] 34)) S wb false B' w') => zab.trans (S := S) ((zaa.refl S w).alloc (.cells #[.pointer (some ⟨wb, 0, none⟩)] 34)) (fun b hb => .inl hb) hn)
 have HR := Lib.hid (hr.mono (zam w (.cells #[.pointer (some ⟨wb, 0, none⟩)] 34)))
 have hb0w : w.heap.size < (w.alloc (.cells #[.pointer (some ⟨wb, 0, none⟩)] 34)).heap.size := by rw [zae]; omega
 have HA := Lib.hid ha
 have HTS := Lib.hid hts
 have HX := Lib.hid hno
 have halt : ∀ x, a = some x → x.block < (w.alloc (.cells #[.pointer (some ⟨wb, 0, none⟩)] 34)).heap.size := fun x hx => by have := hal x hx; omega
 have HAL := Lib.hid halt
 have hcapm := hr.2.2.1
 have hcapn := hr.2.1
 unfold maxLen at hcapm
 obtain ⟨n, hn⟩ : ∃ n, n = ts.length := ⟨_, rfl⟩
 have HLN := Lib.hid hn
 rw [← hn] at hlen hcapn ⊢
 clear h hr ha hal hts hno halt hn
 unfold wrA
 have HST := Lib.hid (zc5 (kind := 1) last HQ.out (by omega) (by omega))
 unfold wrA at HST
 go_enter Tryz.func19, Tryz.ntmps19
 go_wp2_with fail
 generalize w.alloc (.cells #[.pointer (some ⟨wb, 0, none⟩)] 34) = w0 at HQ HE HR hb0w HST hc HAL ⊢
 refine HST.out.mono ?_
 rintro e w1 ⟨rfl, hn1⟩
 have c1 := hn1.cell hc HX.out
 obtain ⟨S1, q1, k1, s1⟩ := hn1
 have hs1 := k1.size
 go_wp2_with fail
 refine (fixed_any w1).mono ?_
 rintro e w2 ⟨a2, cA, b2, cB, rfl, hrA, hrB, hnA, hnB, hb2, -⟩
 have hs2 := hb2.size
 have HRA := Lib.hid hrA
 have HRB := Lib.hid hrB
 go_wp2_with fail
 have hNA := zeI 320 zbp a2 288 cA fixL w2 HRA.out zc2 (by omega) hnA
 refine hNA.mono ?_
 rintro e w3 ⟨p3, rfl, hT3, hb3⟩
 have hs3 := hb3.size
 have hrB3 := HRB.out.mono hb3
 clear hNA
 go_wp2_with fail
 have hNB := zeI 320 zbp b2 30 cB Go.Proofs.YtngjbhejfojpbaaGreat.fixD w3 hrB3 zcP (by omega) hnB
 refine hNB.mono ?_
 rintro e w4 ⟨p4, rfl, hT4, hb4⟩
 have hs4 := hb4.size
 clear hNB
 have hb14 : Below w1.heap.size w1 w4 := (hb2.trans (hb3.mono hs2)).trans (hb4.mono (by omega))
 have c4 := zag hb14 (World.block_lt_of_cell? w1 _ c1) c1
 have q4 := WrQ.blw q1 hb14
 have k4 : zaa S w0 w4 := k1.trans (zaa.of_below hb14 fun b hb => hb) (fun b hb => .inr (by omega))
 have s4 : ∀ b, S1 b → b < w1.heap.size := fun b hb => (q1.lt b hb).2
 have HTK := Lib.hid (zeU (ts := ts) (a := a) (cap := cap) q4 (HR.out.keeps k4 HA.out) (fun x hx h1 => by
   rcases s1 _ h1 with h2 | h2
   · exact HA.out x hx h2
   · have := HAL.out x hx; omega)
   (hT3.mono hb4) (fun b hb => ⟨fun h1 => by have := s4 b h1; have := hb.1; omega, Nat.lt_of_lt_of_le hb.2 hs4⟩) hT4 (fun b hb => ⟨fun h1 => by have := s4 b h1; have := hb.1; omega, hb.2⟩) (fun t ht => ⟨HTS.out t ht, fix_cod (HTS.out t ht)⟩) (zdy (by decide)) (by rw [← HLN.out]; exact hlen) (by rw [List.length_append, zaj]; omega))
 rw [← HLN.out] at HTK
 unfold wrA at HTK
 have HEND := Lib.hid (fun (w5 : World) (hn : zab w4 S1 wb false (B ++ zb9 last 1 ++ tokB fixL Go.Proofs.YtngjbhejfojpbaaGreat.fixD ts) w5) => show zab w S wb false (B ++ fixB last ts) w5 from by
   have h := HE.out _ _ (zab.trans k4 s1 hn)
   rw [List.append_assoc] at h
   exact h)
 clear q1 k1 s1 q4 k4 s4 hb14 hT3 hT4 hb2 hb3 hb4 hrA hrB hrB3 c1 hc HRA HRB
 go_wp2_with fail
 refine HTK.out.mono ?_
 rintro e w5 ⟨rfl, hn5⟩
 have HN5 := Lib.hid (HEND.out _ hn5)
 clear hn5 HTK HEND
 go_wp2_with fail
 go_end0
 exact ⟨rfl, HN5.out⟩
end Go.Proofs.YtngjbhejfojpbaaGreat
namespace Go.Proofs.YtngjbhejfojpbaaGreat
def trip (b : List UInt8) (i : Nat) : Option (Nat × Nat × Nat) := if i + 3 ≤ b.length then some ((b.getD i 0).toNat, (b.getD (i + 1) 0).toNat, (b.getD (i + 2) 0).toNat) else none
def zbx (b : List UInt8) : Nat → Nat × Nat × Nat → Option Nat
 | 0, _ => none
 | i + 1, t => if trip b i = some t then some i else zbx b i t
theorem zfi {b : List UInt8} {t : Nat × Nat × Nat} : ∀ {i p : Nat}, zbx b i t = some p → p < i
 | 0, _, h => by cases h
 | i + 1, p, h => by
   unfold zbx at h
   split at h
   · cases h; omega
   · have := zfi h; omega
def zec (b : List UInt8) (j : Nat) : Int := match trip b j with
 | none => -1
 | some t => match zbx b j t with
   | none => -1
   | some p => p
theorem prevP_bd (b : List UInt8) (j : Nat) : -1 ≤ zec b j ∧ zec b j < j := by
 unfold zec
 split
 · omega
 · split
   · omega
   · rename_i h
     have := zfi h
     omega
def matG (b : List UInt8) (a f : Nat) : Nat → Nat → Nat
 | 0, m => m
 | g + 1, m => if m < 258 ∧ a + m < b.length ∧ b.getD (a + m) 0 = b.getD (a + m - f) 0 then matG b a f g (m + 1) else m
def matF (b : List UInt8) (a : Nat) (far : Int) : Nat := if (b.length : Int) ≤ a ∨ far < 1 ∨ (a : Int) < far then 0 else matG b a far.toNat 258 0
theorem matG_stop {b : List UInt8} {a f m : Nat} (h : ¬ (m < 258 ∧ a + m < b.length ∧ b.getD (a + m) 0 = b.getD (a + m - f) 0)) : matG b a f (258 - m) m = m := by
 cases 258 - m with
 | zero => rfl
 | succ g => unfold matG; rw [if_neg h]
theorem matG_go {b : List UInt8} {a f m : Nat} (h1 : m < 258) (h : a + m < b.length) (h2 : b.getD (a + m) 0 = b.getD (a + m - f) 0) : matG b a f (258 - m) m = matG b a f (258 - (m + 1)) (m + 1) := by
 obtain ⟨g, hg⟩ : ∃ g, 258 - m = g + 1 := ⟨258 - m - 1, by omega⟩
 rw [hg, show 258 - (m + 1) = g by omega]
 show (if m < 258 ∧ a + m < b.length ∧ b.getD (a + m) 0 = b.getD (a + m - f) 0 then _ else _) = _
 rw [if_pos ⟨h1, h, h2⟩]
theorem matF_no {b : List UInt8} {a : Nat} {far : Int} (h : (b.length : Int) ≤ a ∨ far < 1 ∨ (a : Int) < far) : matF b a far = 0 := if_pos h
theorem matF_yes {b : List UInt8} {a f : Nat} (h1 : a < b.length) (h2 : 1 ≤ f) (h3 : f ≤ a) : matF b a f = matG b a f (258 - 0) 0 := if_neg (by omega)
def zcx (b : List UInt8) (i : Nat) (p : Int) (s : Nat × Int) : Nat × Int := if s.1 < matF b i (i - p) then (matF b i (i - p), i - p) else s
def zdd (b : List UInt8) (i : Nat) : Nat → Int → Nat × Int → Nat × Int
 | 0, _, s => s
 | g + 1, p, s => if 0 ≤ p ∧ (i : Int) - p ≤ 32768 then (if g = 0 ∨ (zcx b i p s).1 = 258 then zcx b i p s else zdd b i g (zec b p.toNat) (zcx b i p s)) else s
def zbs (s : Nat × Int) : Nat × Int := if s.1 < 3 then (0, 0) else s
theorem zeX {b : List UInt8} {i g : Nat} {p : Int} {s : Nat × Int} (h : ¬ (0 ≤ p ∧ (i : Int) - p ≤ 32768)) : zdd b i g p s = s := by
 cases g with
 | zero => rfl
 | succ g => unfold zdd; rw [if_neg h]
theorem bestG_end {b : List UInt8} {i m : Nat} {p : Int} {s : Nat × Int} (hm : m ≤ 32) (h : 0 ≤ p ∧ (i : Int) - p ≤ 32768) (he : m = 32 ∨ (zcx b i p s).1 = 258) : zdd b i (33 - m) p s = zcx b i p s := by
 obtain ⟨g, hg⟩ : ∃ g, 33 - m = g + 1 := ⟨32 - m, by omega⟩
 rw [hg]
 unfold zdd
 rw [if_pos h, if_pos (he.imp_left fun e => by omega)]
theorem bestG_go {b : List UInt8} {i m : Nat} {p : Int} {s : Nat × Int} (hm : m < 32) (h : 0 ≤ p ∧ (i : Int) - p ≤ 32768) (he : ¬ (zcx b i p s).1 = 258) : zdd b i (33 - m) p s = zdd b i (33 - (m + 1)) (zec b p.toNat) (zcx b i p s) := by
 obtain ⟨g, hg⟩ : ∃ g, 33 - m = g + 1 := ⟨32 - m, by omega⟩
 rw [hg, show 33 - (m + 1) = g by omega]
 show (if 0 ≤ p ∧ (i : Int) - p ≤ 32768 then _ else s) = _
 rw [if_pos h, if_neg (by rintro (e | e); omega; exact he e)]
theorem bestS_yes {b : List UInt8} {i k : Nat} {p : Int} {s : Nat × Int} (hk : k = matF b i (i - p)) (h : s.1 < k) : zcx b i p s = (k, i - p) := by
 unfold zcx; rw [← hk, if_pos h]
theorem bestS_no {b : List UInt8} {i k : Nat} {p : Int} {s : Nat × Int} (hk : k = matF b i (i - p)) (h : ¬ s.1 < k) : zcx b i p s = s := by
 unfold zcx; rw [← hk, if_neg h]
theorem lr0 {k : Nat} {F : Int} (h : k < 3) : zbs (k, F) = (0, 0) := if_pos h
theorem lr1 {k : Nat} {F : Int} (h : ¬ k < 3) : zbs (k, F) = (k, F) := if_neg h
def za0 (b : List UInt8) (i : Nat) : Nat × Int := match trip b i with
 | none => (0, 0)
 | some t => match zbx b i t with
   | none => (0, 0)
   | some p => zbs (zdd b i 33 p (0, 0))
theorem bestF_none {b : List UInt8} {i : Nat} (h : trip b i = none) : za0 b i = (0, 0) := by unfold za0; rw [h]
theorem bestF_last {b : List UInt8} {i : Nat} {t : Nat × Nat × Nat} (h : trip b i = some t) (h2 : zbx b i t = none) : za0 b i = (0, 0) := by unfold za0; rw [h]; dsimp only; rw [h2]
theorem bestF_yes {b : List UInt8} {i p : Nat} {t : Nat × Nat × Nat} (h : trip b i = some t) (h2 : zbx b i t = some p) : za0 b i = zbs (zdd b i (33 - 0) p (0, 0)) := by unfold za0; rw [h]; dsimp only; rw [h2]
def tokAt (b : List UInt8) (i : Nat) : LT := if 0 < (za0 b i).1 then ⟨0, (za0 b i).1, (za0 b i).2.toNat⟩ else ⟨b.getD i 0, 0, 0⟩
def tokF (b : List UInt8) : Nat → Nat → List LT
 | 0, _ => []
 | g + 1, i => if i < b.length then tokAt b i :: tokF b g (i + max 1 (za0 b i).1) else []
theorem tokF_two (b : List UInt8) : ∀ (g h i : Nat), b.length - i ≤ g → b.length - i ≤ h → tokF b g i = tokF b h i
 | 0, 0, _, _, _ => rfl
 | 0, h + 1, i, h1, _ => by
   unfold tokF
   rw [if_neg (by omega)]
 | g + 1, 0, i, _, h2 => by
   unfold tokF
   rw [if_neg (by omega)]
 | g + 1, h + 1, i, h1, h2 => by
   unfold tokF
   split
   · rw [tokF_two b g h (i + max 1 (za0 b i).1) (by omega) (by omega)]
   · rfl
def zfd (b : List UInt8) : List LT := tokF b b.length 0
def TokU (b : List UInt8) (i : Nat) (ts : List LT) : Prop := ts ++ tokF b (b.length - i) i = zfd b
theorem TokU.zero (b : List UInt8) : TokU b 0 [] := rfl
theorem TokU.step {b : List UInt8} {i : Nat} {ts : List LT} (h : TokU b i ts) (hi : i < b.length) : TokU b (i + max 1 (za0 b i).1) (ts ++ [tokAt b i]) := by
 unfold TokU at h ⊢
 obtain ⟨g, hg⟩ : ∃ g, b.length - i = g + 1 := ⟨b.length - i - 1, by omega⟩
 rw [hg] at h
 unfold tokF at h
 rw [if_pos hi, tokF_two b g (b.length - (i + max 1 (za0 b i).1)) _ (by omega) (by omega)] at h
 rw [List.append_assoc]
 exact h
theorem TokU.lit {b : List UInt8} {i : Nat} {ts : List LT} (h : TokU b i ts) (hi : i < b.length) {F : Int} (hb : za0 b i = (0, F)) : TokU b (i + max 1 0) (ts ++ [⟨b.getD i 0, 0, 0⟩]) := by
 have := h.step hi
 unfold tokAt at this
 rw [hb, if_neg (Nat.lt_irrefl 0)] at this
 exact this
theorem TokU.rep {b : List UInt8} {i k F : Nat} {ts : List LT} (h : TokU b i ts) (hi : i < b.length) (hk : 0 < k) (hb : za0 b i = (k, (F : Int))) : TokU b (i + max 1 k) (ts ++ [⟨0, k, F⟩]) := by
 have := h.step hi
 unfold tokAt at this
 rw [hb, if_pos hk] at this
 exact this
theorem TokU.fin {b : List UInt8} {ts : List LT} (h : TokU b b.length ts) : ts = zfd b := by
 unfold TokU at h
 rw [Nat.sub_self] at h
 unfold tokF at h
 rwa [List.append_nil] at h
theorem lastP_put {b : List UInt8} {i : Nat} {t : Nat × Nat × Nat} (h : trip b i = some t) : zbx b (i + 1) t = some i := by
 unfold zbx
 rw [if_pos h]
theorem lastP_other {b : List UInt8} {i : Nat} {t u : Nat × Nat × Nat} (h : trip b i = some t) (hn : u ≠ t) : zbx b (i + 1) u = zbx b i u := by
 show (if trip b i = some u then some i else zbx b i u) = _
 rw [if_neg (by rw [h]; intro e; exact hn (Option.some.inj e).symm)]
theorem lastP_none {b : List UInt8} {i : Nat} (u : Nat × Nat × Nat) (h : trip b i = none) : zbx b (i + 1) u = zbx b i u := by
 show (if trip b i = some u then some i else zbx b i u) = _
 rw [if_neg (by rw [h]; intro e; cases e)]
theorem prevP_none {b : List UInt8} {i : Nat} (h : trip b i = none) : zec b i = -1 := by
 unfold zec; rw [h]
theorem zeL {b : List UInt8} {i : Nat} {t : Nat × Nat × Nat} (h : trip b i = some t) : zec b i = match zbx b i t with | none => -1 | some p => (p : Int) := by
 unfold zec; rw [h]
end Go.Proofs.YtngjbhejfojpbaaGreat
namespace Go.Proofs.YtngjbhejfojpbaaGreat
open Go.RowKit
theorem zcg (w : World) (p q : Nat) : (w.drewN p).drewN q = w.drewN (p + q) := by simp [World.drewN, Nat.add_assoc]
def zcy (b : List UInt8) (at_ : Nat) (far : Int) (k : Nat) : Prop := k ≤ 258 ∧ (0 < k → 1 ≤ far ∧ far ≤ at_ ∧ at_ + k ≤ b.length ∧ ∀ j, j < k → b.getD (at_ + j) 0 = b.getD (at_ + j - far.toNat) 0)
theorem zcy.zero (b : List UInt8) (at_ : Nat) (far : Int) : zcy b at_ far 0 := ⟨by omega, fun h => by omega⟩
theorem match_any {w : World} {a : Option Addr} {n cap : Nat} {b : List UInt8} (hr : Row w 1 a n cap (b.map fun x => .int .u8 x.toNat)) (at_ : Nat) (far : Int) (hat : at_ < 1000000000) (hfar : -1000000000 ≤ far ∧ far ≤ 1000000000) :
   Calls Tryz.prog 67 #[.slice a n cap, .int .i64 at_, .int .i64 far, .int .i64 258] w fun e w' => ∃ k : Nat, e = .returned (.int .i64 k) ∧ (∃ q, w' = w.drewN q) ∧ zcy b at_ far k ∧ k = matF b at_ far := by
 have hl : b.length = n := by have := hr.1; simpa using this
 have hcapm := hr.2.2.1
 have hcapn := hr.2.1
 unfold maxLen at hcapm
 have HR := Lib.hid hr
 have HL := Lib.hid hl
 have hno : matF b at_ far = 0 → ∀ w', (∃ q, w' = w.drewN q) → ∃ k : Nat, Ending.returned (.int .i64 0) = .returned (.int .i64 k) ∧ (∃ q, w' = w.drewN q) ∧ zcy b at_ far k ∧ k = matF b at_ far := fun hz w' h => ⟨0, rfl, h, zcy.zero b at_ far, hz.symm⟩
 have HNO := Lib.hid hno
 clear hr hl hno
 by_cases h1 : (at_ : Int) ≥ n
 · go_enter Tryz.func67, Tryz.ntmps67
   go_wp2
   go_ret
   exact HNO.out (matF_no (.inl (by rw [HL.out]; omega))) _ ⟨0, rfl⟩
 by_cases h2 : far < 1
 · go_enter Tryz.func67, Tryz.ntmps67
   go_wp2
   go_ret
   exact HNO.out (matF_no (.inr (.inl h2))) _ ⟨0, rfl⟩
 by_cases h3 : far > (at_ : Int)
 · go_enter Tryz.func67, Tryz.ntmps67
   go_wp2
   go_ret
   exact HNO.out (matF_no (.inr (.inr (by omega)))) _ ⟨0, rfl⟩
 obtain ⟨f, rfl⟩ : ∃ f : Nat, far = (f : Int) := ⟨far.toNat, by omega⟩
 have HG0 := Lib.hid (matF_yes (b := b) (a := at_) (f := f) (by rw [HL.out]; omega) (by omega) (by omega))
 go_enter Tryz.func67, Tryz.ntmps67
 go_wp2_with fail
 go_loopw [9] (fun v wr => ∃ m : Nat, v = .int .i64 m ∧ m ≤ 258 ∧ at_ + m ≤ n ∧ Hid (∀ j, j < m → b.getD (at_ + j) 0 = b.getD (at_ + j - f) 0) ∧ Hid (∃ q, wr = w.drewN q) ∧ Hid (matF b at_ f = matG b at_ f (258 - m) m)) (fun v _ => 258 - (intOf v).toNat)
 case atStart => exact ⟨0, rfl, by omega, by omega, Lib.hid (fun j hj => by omega), Lib.hid ⟨0, rfl⟩, HG0⟩
 case round =>
   obtain ⟨m, rfl, hm, hmn, HJ, HQ, HG⟩ := hrel
   obtain ⟨q, hq⟩ := HQ.out
   have HE := Lib.hid (show ¬ (m < 258 ∧ at_ + m < b.length ∧ b.getD (at_ + m) 0 = b.getD (at_ + m - f) 0) → ∀ W, (∃ q, W = w.drewN q) → ∃ k : Nat, Ending.returned (.int .i64 (m : Nat)) = .returned (.int .i64 k) ∧ (∃ q, W = w.drewN q) ∧ zcy b at_ f k ∧ k = matF b at_ f from fun hst W hW => ⟨m, rfl, hW, ⟨hm, fun _ => ⟨by omega, by omega, by rw [HL.out]; exact hmn, HJ.out⟩⟩, by rw [HG.out, matG_stop hst]⟩)
   have HQQ := Lib.hid hq
   clear hq HQ
   by_cases c1 : m < 258
   case neg =>
     have d1 : decide ((m : Int) < 258) = false := decide_eq_false (by omega)
     have d1b : ¬ (m : Int) < 258 := by omega
     clear HJ
     go_wp2_with fail
     go_quiet (fail)
     go_wp2
     go_ret
     exact HE.out (fun h => c1 h.1) _ ⟨q + nq, by rw [HQQ.out]; exact zcg _ _ _⟩
   have d1 : decide ((m : Int) < 258) = true := decide_eq_true (by omega)
   by_cases c2 : at_ + m < n
   case neg =>
     have d2 : decide ((at_ : Int) + (m : Int) < (n : Int)) = false := decide_eq_false (by omega)
     clear HJ
     go_wp2_with fail
     go_quiet (fail)
     go_wp2
     go_ret
     exact HE.out (fun h => c2 (by rw [← HL.out]; exact h.2.1)) _ ⟨q + nq, by rw [HQQ.out]; exact zcg _ _ _⟩
   have d2 : decide ((at_ : Int) + (m : Int) < (n : Int)) = true := decide_eq_true (by omega)
   obtain ⟨bb, off, rfl, -, hcc⟩ := HR.out.at 0 0 (by omega)
   have z1 : wr.cell? ⟨bb, off + (at_ + m), none⟩ = some (.int .u8 (b.getD (at_ + m) 0).toNat) := by rw [HQQ.out]; exact hcc (at_ + m) c2
   have z2 : wr.cell? ⟨bb, off + (at_ + m - f), none⟩ = some (.int .u8 (b.getD (at_ + m - f) 0).toNat) := by rw [HQQ.out]; exact hcc (at_ + m - f) (by omega)
   have HJS := Lib.hid (show b.getD (at_ + m) 0 = b.getD (at_ + m - f) 0 → ∀ j, j < m + 1 → b.getD (at_ + j) 0 = b.getD (at_ + j - f) 0 from fun h j hj => by
     rcases Nat.lt_or_eq_of_le (Nat.le_of_lt_succ hj) with h1 | h1
     · exact HJ.out j h1
     · rw [h1]; exact h)
   have HGS := Lib.hid (show b.getD (at_ + m) 0 = b.getD (at_ + m - f) 0 → matF b at_ f = matG b at_ f (258 - (m + 1)) (m + 1) from fun h => by rw [HG.out, matG_go c1 (by rw [HL.out]; exact c2) h])
   have HEN := Lib.hid (show ¬ b.getD (at_ + m) 0 = b.getD (at_ + m - f) 0 → _ from fun h => HE.out (fun g => h g.2.2))
   clear hcc HE
   generalize b.getD (at_ + m) 0 = x at z1 HJS HGS HEN
   generalize b.getD (at_ + m - f) 0 = y at z2 HJS HGS HEN
   obtain ⟨A, hA⟩ : ∃ A, at_ + m = A := ⟨_, rfl⟩
   have e1 : (at_ : Int) + (m : Int) = (A : Int) := by omega
   have e2 : ((A : Int) - (f : Int)) = ((A - f : Nat) : Int) := by omega
   have hAf : A - f < n := by omega
   have hAn : A < n := by omega
   rw [hA] at z1 z2
   rw [e1] at d2
   have HAA := Lib.hid hA
   clear hA
   generalize A - f = A2 at z2 e2 hAf
   have hA2i : (A2 : Int) < (n : Int) := by omega
   have hAi : (A : Int) < (n : Int) := by omega
   by_cases hxy : x = y
   · have d3 : ((x.toNat : Int) == (y.toNat : Int)) = true := by rw [hxy]; simp
     have d3b : decide ((x.toNat : Int) = (y.toNat : Int)) = true := decide_eq_true (by rw [hxy])
     have HJ2 := Lib.hid (HJS.out hxy)
     have HG2 := Lib.hid (HGS.out hxy)
     clear HJ HJS HGS HEN HG hxy
     generalize (x.toNat : Int) = X at z1 d3 d3b
     generalize (y.toNat : Int) = Y at z2 d3 d3b
     go_wp2_with fail
     go_quiet (fail)
     go_wp2_with fail
     go_roundw
     case rel => exact ⟨m + 1, by go_num, by omega, by have := HAA.out; omega, HJ2, Lib.hid ⟨q + nq, by rw [HQQ.out]; exact zcg _ _ _⟩, HG2⟩
     case measure => simp [intOf]; omega
   · have hne : x.toNat ≠ y.toNat := fun h => hxy (UInt8.toNat_inj.1 h)
     have d3b : decide ((x.toNat : Int) = (y.toNat : Int)) = false := decide_eq_false (by omega)
     have d3 : ((x.toNat : Int) == (y.toNat : Int)) = false := d3b
     have HEE := Lib.hid (HEN.out hxy)
     clear HJ HJS HGS HEN HG hxy hne
     generalize (x.toNat : Int) = X at z1 d3 d3b
     generalize (y.toNat : Int) = Y at z2 d3 d3b
     go_wp2_with fail
     go_quiet (fail)
     go_wp2
     go_ret
     exact HEE.out _ ⟨q + nq, by rw [HQQ.out]; exact zcg _ _ _⟩
def thV (x y z : Nat) : Value := .agg #[.int .u8 x, .int .u8 y, .int .u8 z]
def AtEnd (w : World) (b : List UInt8) (i : Nat) (e : Ending) (w' : World) : Prop := Below w.heap.size w w' ∧ ∃ (x y z : Nat) (is : Bool), e = .returned (.tuple #[thV x y z, .bool is]) ∧ x < 256 ∧ y < 256 ∧ z < 256 ∧ (is = true → trip b i = some (x, y, z)) ∧ (is = false → trip b i = none)
theorem at_any {w : World} {a : Option Addr} {n cap fb i : Nat} {b : List UInt8} (hr : Row w 1 a n cap (b.map fun x => .int .u8 x.toNat)) (c0 : w.cell? ⟨fb, 0, none⟩ = some (.slice a n cap)) (hi : i < 1000000000) :
   Calls Tryz.prog 66 #[.pointer (some ⟨fb, 0, none⟩), .int .i64 i] w (AtEnd w b i) := by
 have hl : b.length = n := hr.len1
 have hcapm := hr.2.2.1
 have hcapn := hr.2.1
 unfold maxLen at hcapm
 have hfb := World.block_lt_of_cell? w _ c0
 have hb0 := zam w (.cells #[.int .u8 0, .int .u8 0, .int .u8 0] 116)
 have c1 := cell?_keep hb0 c0
 have HR := Lib.hid (hr.mono hb0)
 have HB := Lib.hid hb0
 clear hr c0 hb0
 by_cases h3 : (i : Int) + 3 > n
 · have d : decide ((i : Int) + 3 > n) = true := decide_eq_true h3
   have HT := Lib.hid (show trip b i = none from if_neg (by rw [hl]; omega))
   clear hl
   go_enter Tryz.func66, Tryz.ntmps66
   go_wp2_with fail
   have hnew := heap_alloc_new w (.cells #[.int .u8 0, .int .u8 0, .int .u8 0] 116)
   have q0 := cell_of_row _ _ 0 _ _ _ hnew
   have q1 := cell_of_row _ _ 1 _ _ _ hnew
   have q2 := cell_of_row _ _ 2 _ _ _ hnew
   refine bodyPost_ret (v := .tuple #[thV 0 0 0, .bool false]) (by simp [results, Tryz.results66, go_sem, q0, q1, q2, thV]) rfl ⟨HB.out, 0, 0, 0, false, rfl, by omega, by omega, by omega, fun h => (by cases h), fun _ => HT.out⟩
 · have d : decide ((i : Int) + 3 > n) = false := decide_eq_false h3
   obtain ⟨bb, off, rfl, -, hcc⟩ := HR.out.at 0 0 (by omega)
   obtain ⟨i1, hi1⟩ : ∃ i1, i1 = i + 1 := ⟨_, rfl⟩
   obtain ⟨i2, hi2⟩ : ∃ i2, i2 = i + 2 := ⟨_, rfl⟩
   have z0 := hcc i (by omega)
   have z1 := hcc i1 (by omega)
   have z2 := hcc i2 (by omega)
   have HT := Lib.hid (show trip b i = some ((b.getD i 0).toNat, (b.getD i1 0).toNat, (b.getD i2 0).toNat) from by unfold trip; rw [if_pos (by rw [hl]; omega), hi1, hi2])
   clear hl
   have b0 := (b.getD i 0).toNat_lt
   have b1 := (b.getD i1 0).toNat_lt
   have b2 := (b.getD i2 0).toNat_lt
   generalize (b.getD i 0).toNat = x0 at z0 b0 HT
   generalize (b.getD i1 0).toNat = x1 at z1 b1 HT
   generalize (b.getD i2 0).toNat = x2 at z2 b2 HT
   have j1 : (i : Int) + 1 = (i1 : Int) := by omega
   have j2 : (i : Int) + 2 = (i2 : Int) := by omega
   have l0 : (i : Int) < (n : Int) := by omega
   have l1 : (i1 : Int) < (n : Int) := by omega
   have l2 : (i2 : Int) < (n : Int) := by omega
   clear hi1 hi2
   clear hcc
   go_enter Tryz.func66, Tryz.ntmps66
   go_wp2_with fail
   go_region
   go_wp2_with fail
   have hnew := heap_alloc_new w (.cells #[.int .u8 x0, .int .u8 x1, .int .u8 x2] 116)
   have q0 := cell_of_row _ _ 0 _ _ _ hnew
   have q1 := cell_of_row _ _ 1 _ _ _ hnew
   have q2 := cell_of_row _ _ 2 _ _ _ hnew
   refine bodyPost_ret (v := .tuple #[thV x0 x1 x2, .bool true]) (by simp [results, Tryz.results66, go_sem, q0, q1, q2, thV]) rfl ⟨((Below.refl _ w).alloc (Nat.le_refl _) _).drew, x0, x1, x2, true, rfl, b0, b1, b2, fun _ => HT.out, fun h => (by cases h)⟩
end Go.Proofs.YtngjbhejfojpbaaGreat
namespace Go.Proofs.YtngjbhejfojpbaaGreat
open Go.RowKit Go.Maps Go.ChangeMaps
theorem wf_u8 {x : Nat} (h : x < 256) : (Lit.int .u8 (x : Int)).wf = true := by
 simp [Lit.wf, IntKind.min, IntKind.max, IntKind.signed, IntKind.bits]; omega
theorem arrK : Go.WideMaps.ArrKey Tryz.prog 116 5 3 := ⟨Tryz.underlying116, by kernel_rfl, by kernel_rfl, by kernel_rfl⟩
theorem keyedT : Keyed Tryz.prog 116 := Keyed.of_law arrK.law
theorem typesT : ∃ m, Tryz.prog.types.size = m + 1 := ⟨Tryz.prog.types.size - 1, by kernel_rfl⟩
theorem lits_u8 {d x : Nat} (h : x < 256) : Tryz.prog.keyLits (d + 1) 5 [.int .u8 x] = some [.int .u8 x] := by
 unfold Program.keyLits
 rw [Tryz.underlying5]
 simp only
 simp [wf_u8 h]
theorem key_th {x y z : Nat} (hx : x < 256) (hy : y < 256) (hz : z < 256) : ∃ kl, keyOf Tryz.prog 116 (thV x y z) = some kl := by
 obtain ⟨m, hm⟩ := typesT
 have hk : Tryz.prog.keyType 116 = true := arrK.keyType ⟨m, hm⟩
 have hf : (thV x y z).formed Tryz.prog 116 = true := by
   unfold thV Value.formed
   rw [Tryz.underlying116]
   simp only
   rw [show Tryz.prog.cellsOf 116 = 3 from arrK.size]; rfl
 have hl : Tryz.prog.keyLits (Tryz.prog.types.size + 1) 116 (thV x y z).cells.toList = some [.int .u8 x, .int .u8 y, .int .u8 z] := by
   have hc : (thV x y z).cells.toList = [.int .u8 x, .int .u8 y, .int .u8 z] := rfl
   rw [hm, hc]
   unfold Program.keyLits
   rw [Tryz.underlying116]
   simp only
   rw [if_pos (by rw [show Tryz.prog.cellsOf 116 = 3 from arrK.size]; rfl), show Tryz.prog.cellsOf 5 = 1 from arrK.one]
   have e : List.range 3 = [0, 1, 2] := rfl
   rw [e]
   simp [lits_u8 hx, lits_u8 hy, lits_u8 hz]
 refine ⟨.string (keyBytes [.int .u8 x, .int .u8 y, .int .u8 z]), ?_⟩
 unfold keyOf
 rw [Tryz.underlying116]
 simp only
 rw [hk, hf, hl]
 rfl
theorem zeroT (w : World) : (zeroValue 3).run Tryz.prog w = .ok (.int .i64 0) w := by kernel_rfl
def litO : Option Nat → DataW Nat
 | none => .nil
 | some p => .lit (.int .i64 p)
def MapT (w : World) (mb : Nat) (b : List UInt8) (n i : Nat) : Prop :=
 ∃ D : DataW Nat, w.ownsMap Tryz.prog 116 (plainElem Tryz.prog 3) mb n D ∧ IsMap D ∧ ∀ x y z kl, keyOf Tryz.prog 116 (thV x y z) = some kl → D.atKey kl .nil = litO (zbx b i (x, y, z))
theorem MapT.made (w : World) (b : List UInt8) : MapT (w.alloc (.map #[] 0)) w.heap.size b 0 0 :=
 ⟨.map [], World.ownsMap_made w _ _ _, isMap_empty, fun x y z kl _ => by simp [DataW.atKey, zbx, litO]⟩
theorem MapT.lt {w : World} {mb n i : Nat} {b : List UInt8} (h : MapT w mb b n i) : mb < w.heap.size := by obtain ⟨D, h, -⟩ := h; exact h.lt
theorem MapT.next {w : World} {mb n m i : Nat} {b : List UInt8} (h : MapT w mb b n i) (hm : n ≤ m) (ht : trip b i = none) : MapT w mb b m (i + 1) := by
 obtain ⟨D, h, r, s⟩ := h
 exact ⟨D, h.mono hm, r, fun x y z kl h1 => by rw [lastP_none _ ht]; exact s x y z kl h1⟩
theorem MapT.keep {w w' : World} {mb n i : Nat} {b : List UInt8} (h : MapT w mb b n i) (hb : w'.heap[mb]? = w.heap[mb]?) : MapT w' mb b n i := by
 obtain ⟨D, ⟨es, clock, h1, h2⟩, r⟩ := h
 exact ⟨D, ⟨es, clock, hb.trans h1, h2⟩, r⟩
theorem MapT.look {w : World} {mb n i : Nat} {b : List UInt8} (h : MapT w mb b n i) {x y z : Nat} (hx : x < 256) (hy : y < 256) (hz : z < 256) :
   ∃ (c : Int) (is : Bool), (Instr.lookup 75 (.map (some mb)) (thV x y z) true).run Tryz.prog w = .ok (.tuple #[.int .i64 c, .bool is]) w ∧ (is = true → ∃ p : Nat, zbx b i (x, y, z) = some p ∧ c = p) ∧ (is = false → zbx b i (x, y, z) = none) := by
 obtain ⟨D, ⟨es, clock, hb, F, hs, rfl⟩, hm, hD⟩ := h
 obtain ⟨kl, hk⟩ := key_th hx hy hz
 have hat := hD x y z kl hk
 rcases Maps.fit_look true keyedT Tryz.underlying75 (zeroT w) hb F hk with ⟨hrun, -, h0⟩ | ⟨e0, u, -, -, hrun, hRv, h1, -⟩
 · rw [h0 .nil] at hat
   refine ⟨0, false, by rw [hrun]; rfl, fun h => by simp at h, fun _ => ?_⟩
   cases hl : zbx b i (x, y, z) with
   | none => rfl
   | some p => rw [hl] at hat; cases hat
 · obtain ⟨c, hv, hu⟩ := plainElem_int_inv Tryz.underlying3 hRv
   rw [h1 .nil, hu.1] at hat
   refine ⟨c, true, by rw [hrun, hv]; rfl, fun _ => ?_, fun h => by simp at h⟩
   cases hl : zbx b i (x, y, z) with
   | none => rw [hl] at hat; cases hat
   | some p =>
     rw [hl] at hat
     refine ⟨p, rfl, ?_⟩
     cases hat
     rfl
theorem MapT.store {w : World} {mb n i : Nat} {b : List UInt8} (h : MapT w mb b n i) {x y z : Nat} (hx : x < 256) (hy : y < 256) (hz : z < 256) (ht : trip b i = some (x, y, z)) (hN : i ≤ 1000000000) (hn : n < maxLen) :
   ∃ w', (Instr.mapUpdate 75 (.map (some mb)) (thV x y z) (.int .i64 i)).run Tryz.prog w = .ok () w' ∧ MapT w' mb b (n + 1) (i + 1) ∧ w.grownBy w' (some mb) ∧ w'.heap.size = w.heap.size := by
 obtain ⟨D, ho, hm, hD⟩ := h
 obtain ⟨kl, hk⟩ := key_th hx hy hz
 obtain ⟨es, clock, hb, F, hs, hDe⟩ := ho
 have hR : plainElem (H := Nat) Tryz.prog 3 (.int .i64 (i : Int)) = some (.lit (.int .i64 (i : Int)), []) := plainElem_int Tryz.underlying3 (by simp [Lit.wf, IntKind.min, IntKind.max, IntKind.signed, IntKind.bits]; omega)
 obtain ⟨es', clock', hrun, F', hput, _⟩ := Maps.fit_store (R' := plainElem Tryz.prog 3) keyedT Tryz.underlying75 hb F (Nat.lt_of_le_of_lt hs hn) (fun _ _ _ _ hz => hz) hk hR
 obtain ⟨w1, hrun1, ho1, hg1⟩ := World.ownsMap.update (R := plainElem Tryz.prog 3) ⟨es, clock, hb, F, hs, hDe⟩ keyedT Tryz.underlying75 hn hk hR
 have hw1 : w1 = setBlock w mb (.map es' clock') := by
   rw [hrun] at hrun1
   simp only [Result.ok.injEq] at hrun1
   exact hrun1.2.symm
 refine ⟨w1, hrun1, ⟨D.put kl (.lit (.int .i64 i)), ho1, hm.put _ _, fun x2 y2 z2 kj hj => ?_⟩, hg1, by rw [hw1]; simp [setBlock]⟩
 by_cases he : kj = kl
 · subst he
   have e := keyedT.inj hj hk
   simp only [thV, Value.agg.injEq, Array.mk.injEq, List.cons.injEq, Value.int.injEq, true_and, and_true] at e
   obtain ⟨e1, e2, e3⟩ := e
   obtain rfl : x2 = x := by omega
   obtain rfl : y2 = y := by omega
   obtain rfl : z2 = z := by omega
   rw [atKey_put_same hm (keyedT.key hk), lastP_put ht]
   rfl
 · rw [atKey_put_other he, lastP_other ht (fun e => he ?_)]
   · exact hD x2 y2 z2 kj hj
   · cases e
     rw [hj] at hk
     exact Option.some.inj hk
structure FinQ (w : World) (fb pb mb : Nat) (a : Option Addr) (n cap cnt cp : Nat) (b : List UInt8) : Prop where
 c0 : w.cell? ⟨fb, 0, none⟩ = some (.slice a n cap)
 c1 : w.cell? ⟨fb, 1, none⟩ = some (.map (some mb))
 c2 : w.cell? ⟨fb, 2, none⟩ = some (.slice (some ⟨pb, 0, none⟩) n n)
 row : Row w 1 a n cap (b.map fun x => .int .u8 x.toNat)
 m : MapT w mb b cnt cnt
 p : ∃ f : Nat → Int, w.heap[pb]? = some (.cells (fl n fun j => .int .i64 (f j)).toArray 3 (0, 0)) ∧ ∀ j, j < cp → f j = zec b j
 pm : pb ≠ mb
 fp : fb ≠ pb
 fm : fb ≠ mb
 ap : ∀ x, a = some x → x.block ≠ pb ∧ x.block ≠ mb
theorem FinQ.plt {w : World} {fb pb mb : Nat} {a : Option Addr} {n cap cnt cp : Nat} {b : List UInt8} (h : FinQ w fb pb mb a n cap cnt cp b) : pb < w.heap.size := by
 obtain ⟨f, hf, -⟩ := h.p
 exact (Array.getElem?_eq_some_iff.1 hf).1
theorem FinQ.keeps {w w' : World} {fb pb mb : Nat} {a : Option Addr} {n cap cnt cp : Nat} {b : List UInt8} {S : Nat → Prop} (h : FinQ w fb pb mb a n cap cnt cp b) (hk : zaa S w w') (h1 : ¬ S fb) (h2 : ¬ S pb) (h3 : ¬ S mb) (h4 : ∀ x, a = some x → ¬ S x.block) : FinQ w' fb pb mb a n cap cnt cp b where
 c0 := hk.cell h.c0 h1
 c1 := hk.cell h.c1 h1
 c2 := hk.cell h.c2 h1
 row := h.row.keeps hk h4
 m := h.m.keep (hk.block _ h.m.lt h3)
 p := by
   obtain ⟨f, hf, r⟩ := h.p
   exact ⟨f, hk.obj hf h2, r⟩
 pm := h.pm
 fp := h.fp
 fm := h.fm
 ap := h.ap
theorem FinQ.below {w w' : World} {fb pb mb : Nat} {a : Option Addr} {n cap cnt cp : Nat} {b : List UInt8} (h : FinQ w fb pb mb a n cap cnt cp b) (hb : Below w.heap.size w w') : FinQ w' fb pb mb a n cap cnt cp b where
 c0 := cell?_keep hb h.c0
 c1 := cell?_keep hb h.c1
 c2 := cell?_keep hb h.c2
 row := h.row.mono hb
 m := h.m.keep (hb.block _ h.m.lt)
 p := by
   obtain ⟨f, hf, r⟩ := h.p
   exact ⟨f, zbm hb hf, r⟩
 pm := h.pm
 fp := h.fp
 fm := h.fm
 ap := h.ap
theorem FinQ.setP {w : World} {fb pb mb : Nat} {a : Option Addr} {n cap cnt cp : Nat} {b : List UInt8} (h : FinQ w fb pb mb a n cap cnt cp b) (i : Nat) (c : Int) (hc : cp ≤ i) : FinQ (w.setCell ⟨pb, i, none⟩ (.int .i64 c)) fb pb mb a n cap cnt cp b := by
 have hk : zaa (fun b => b = pb) w (w.setCell ⟨pb, i, none⟩ (.int .i64 c)) := (zaa.refl (fun b => b = pb) w).setCell (a := ⟨pb, i, none⟩) (.inl rfl) _
 exact {
   c0 := hk.cell h.c0 h.fp
   c1 := hk.cell h.c1 h.fp
   c2 := hk.cell h.c2 h.fp
   row := h.row.keeps hk fun x hx => (h.ap x hx).1
   m := h.m.keep (hk.block _ h.m.lt (Ne.symm h.pm))
   p := by
     obtain ⟨f, hf, r⟩ := h.p
     refine ⟨fun j => if j = i then c else f j, ?_, fun j hj => ?_⟩
     · rw [zaG hf]
       exact congrArg (fun x => some (Obj.cells (List.toArray x) _ _)) (zal fun j _ => by by_cases h0 : j = i <;> simp [h0])
     · show (if j = i then c else f j) = _
       rw [if_neg (by omega)]
       exact r j hj
   pm := h.pm
   fp := h.fp
   fm := h.fm
   ap := h.ap }
theorem FinQ.setPl {w : World} {fb pb mb : Nat} {a : Option Addr} {n cap cnt cp : Nat} {b : List UInt8} (h : FinQ w fb pb mb a n cap cnt cp b) (c : Int) (hc : c = zec b cp) : FinQ (w.setCell ⟨pb, cp, none⟩ (.int .i64 c)) fb pb mb a n cap cnt (cp + 1) b := by
 have hk : zaa (fun b => b = pb) w (w.setCell ⟨pb, cp, none⟩ (.int .i64 c)) := (zaa.refl (fun b => b = pb) w).setCell (a := ⟨pb, cp, none⟩) (.inl rfl) _
 exact {
   c0 := hk.cell h.c0 h.fp
   c1 := hk.cell h.c1 h.fp
   c2 := hk.cell h.c2 h.fp
   row := h.row.keeps hk fun x hx => (h.ap x hx).1
   m := h.m.keep (hk.block _ h.m.lt (Ne.symm h.pm))
   p := by
     obtain ⟨f, hf, r⟩ := h.p
     refine ⟨fun j => if j = cp then c else f j, ?_, fun j hj => ?_⟩
     · rw [zaG hf]
       exact congrArg (fun x => some (Obj.cells (List.toArray x) _ _)) (zal fun j _ => by by_cases h0 : j = cp <;> simp [h0])
     · show (if j = cp then c else f j) = _
       by_cases h0 : j = cp
       · rw [if_pos h0, h0]; exact hc
       · rw [if_neg h0]; exact r j (by omega)
   pm := h.pm
   fp := h.fp
   fm := h.fm
   ap := h.ap }
theorem FinQ.setM {w w' : World} {fb pb mb : Nat} {a : Option Addr} {n cap cnt cp : Nat} {b : List UInt8} (h : FinQ w fb pb mb a n cap cnt cp b) (hm : MapT w' mb b (cnt + 1) (cnt + 1)) (hk : zaa (fun b => b = mb) w w') : FinQ w' fb pb mb a n cap (cnt + 1) cp b where
 c0 := hk.cell h.c0 h.fm
 c1 := hk.cell h.c1 h.fm
 c2 := hk.cell h.c2 h.fm
 row := h.row.keeps hk fun x hx => (h.ap x hx).2
 m := hm
 p := by
   obtain ⟨f, hf, r⟩ := h.p
   exact ⟨f, hk.obj hf h.pm, r⟩
 pm := h.pm
 fp := h.fp
 fm := h.fm
 ap := h.ap
theorem FinQ.drew {w : World} {fb pb mb : Nat} {a : Option Addr} {n cap cnt cp : Nat} {b : List UInt8} (h : FinQ w fb pb mb a n cap cnt cp b) : FinQ w.drew fb pb mb a n cap cnt cp b :=
 h.keeps (S := fun _ => False) ⟨rfl, rfl, rfl, Nat.le_refl _, fun _ _ _ => rfl⟩ id id id fun _ _ => id
theorem zaa.drew {S : Nat → Prop} {w w' : World} (h : zaa S w w') : zaa S w w'.drew := ⟨h.os, h.tape, h.output, h.size, h.block⟩
theorem FinQ.skip {w : World} {fb pb mb : Nat} {a : Option Addr} {n cap cnt cp : Nat} {b : List UInt8} (h : FinQ w fb pb mb a n cap cnt cp b) (ht : trip b cnt = none) : FinQ w fb pb mb a n cap (cnt + 1) cp b := { h with m := h.m.next (Nat.le_succ _) ht }
def NoteEnd (w : World) (fb pb mb : Nat) (a : Option Addr) (n cap cnt : Nat) (b : List UInt8) (e : Ending) (w' : World) : Prop := e = .returned (.tuple #[]) ∧ FinQ w' fb pb mb a n cap (cnt + 1) (cnt + 1) b ∧ zaa (fun b => b = pb ∨ b = mb) w w'
theorem zaa.of_below2 {w w' : World} {S : Nat → Prop} (h : Below w.heap.size w w') : zaa S w w' := ⟨h.os, h.tape, h.output, h.size, fun b hb _ => h.block b hb⟩
theorem note_any {w : World} {fb pb mb : Nat} {a : Option Addr} {n cap i : Nat} {b : List UInt8} (h : FinQ w fb pb mb a n cap i i b) (hi : i < n) (hn : n ≤ 100000000) :
   Calls Tryz.prog 39 #[.pointer (some ⟨fb, 0, none⟩), .int .i64 i] w (NoteEnd w fb pb mb a n cap i b) := by
 have HAT := Lib.hid (at_any h.row h.c0 (i := i) (by omega))
 have HQ := Lib.hid h
 clear h
 go_enter Tryz.func39, Tryz.ntmps39
 go_wp2_with fail
 refine HAT.out.mono ?_
 rintro e w1 ⟨hb, x, y, z, is, rfl, hx, hy, hz, ht1, ht0⟩
 have HT1 := Lib.hid ht1
 have HT0 := Lib.hid ht0
 clear ht1 ht0
 unfold thV
 have hq1 := HQ.out.below hb
 have k1 : zaa (fun b => b = pb ∨ b = mb) w w1 := zaa.of_below2 hb
 have hbA := zam w1 (.cells #[.int .u8 x, .int .u8 y, .int .u8 z] 116)
 have HN := Lib.hid (show FinQ (w1.alloc (.cells #[.int .u8 x, .int .u8 y, .int .u8 z] 116)) fb pb mb a n cap i i b ∧ zaa (fun b => b = pb ∨ b = mb) w (w1.alloc (.cells #[.int .u8 x, .int .u8 y, .int .u8 z] 116)) from ⟨hq1.below hbA, k1.alloc _⟩)
 have hnew := heap_alloc_new w1 (.cells #[.int .u8 x, .int .u8 y, .int .u8 z] 116)
 have hqb := hq1.plt
 have t0 := cell_of_row _ _ 0 _ _ _ hnew
 have t1 := cell_of_row _ _ 1 _ _ _ hnew
 have t2 := cell_of_row _ _ 2 _ _ _ hnew
 obtain ⟨tb, htb⟩ : ∃ tb, tb = w1.heap.size := ⟨_, rfl⟩
 rw [← htb] at t0 t1 t2 hqb
 simp at t0 t1 t2
 have HB := Lib.hid htb
 have hsz : tb < (w1.alloc (.cells #[.int .u8 x, .int .u8 y, .int .u8 z] 116)).heap.size := by rw [zae]; omega
 have hfp := HQ.out.fp
 have hptb : pb ≠ tb := by have := hq1.plt; omega
 have hftb : fb ≠ tb := by have : fb < w1.heap.size := World.block_lt_of_cell? w1 _ hq1.c0; omega
 have hmtb : mb ≠ tb := by have := hq1.m.lt; omega
 clear hnew hbA k1 hq1 htb hb
 go_upto_region 1 with fail
 generalize w1.alloc (.cells #[.int .u8 x, .int .u8 y, .int .u8 z] 116) = w2 at HN t0 t1 t2 hsz ⊢
 rw [← HB.out]
 obtain ⟨hq2, hk2⟩ := HN.out
 have d2 := hq2.c2
 obtain ⟨f, hpf, hf⟩ := hq2.p
 have p2 := zai hpf i hi
 have p3 := zaI hpf i
 have HQ3 := Lib.hid (hq2.setP i (-1) (Nat.le_refl i))
 have HQ3b := Lib.hid (fun h => hq2.setPl (-1) h)
 have HK3 := Lib.hid (hk2.setCell (a := ⟨pb, i, none⟩) (.inl (.inl rfl)) (.int .i64 (-1)))
 clear hq2 hk2 hpf hf HQ HN
 have hin : (i : Int) < (n : Int) := by omega
 go_upto_region 2 with fail
 have t03 : (w2.setCell ⟨pb, i, none⟩ (.int .i64 (-1))).cell? ⟨tb, 0, none⟩ = some (.int .u8 x) := by rw [← t0]; exact World.cell?_setCell_far _ _ _ _ hptb
 have t13 : (w2.setCell ⟨pb, i, none⟩ (.int .i64 (-1))).cell? ⟨tb, 1, none⟩ = some (.int .u8 y) := by rw [← t1]; exact World.cell?_setCell_far _ _ _ _ hptb
 have t23 : (w2.setCell ⟨pb, i, none⟩ (.int .i64 (-1))).cell? ⟨tb, 2, none⟩ = some (.int .u8 z) := by rw [← t2]; exact World.cell?_setCell_far _ _ _ _ hptb
 clear t0 t1 t2 d2 p2 p3
 generalize w2.setCell ⟨pb, i, none⟩ (.int .i64 (-1)) = w3 at HQ3 HQ3b HK3 t03 t13 t23 ⊢
 cases is with
 | false =>
   go_wp2_with fail
   go_end0
   exact ⟨rfl, (HQ3b.out (prevP_none (HT0.out (by simp))).symm).skip (HT0.out (by simp)), HK3.out⟩
 | true =>
   have d1 := HQ3.out.c1
   have d2 := HQ3.out.c2
   obtain ⟨c, is, hrun, hc1, hc0⟩ := (HQ3.out.m.keep (w' := w3.drew) rfl).look hx hy hz
   unfold thV at hrun
   have HC1 := Lib.hid hc1
   have HC0 := Lib.hid hc0
   clear hc1 hc0
   go_wp2_with fail
   go_region
   have HEND := Lib.hid (show ∀ w4, FinQ w4 fb pb mb a n cap i (i + 1) b → zaa (fun b => b = pb ∨ b = mb) w w4 → ∃ w5, (Instr.mapUpdate 75 (.map (some mb)) (.agg #[.int .u8 x, .int .u8 y, .int .u8 z]) (.int .i64 i)).run Tryz.prog w4.drew = .ok () w5 ∧ NoteEnd w fb pb mb a n cap i b (.returned (.tuple #[])) w5 from by
     intro w4 hq hk
     obtain ⟨w5, hr, hm, hg, -⟩ := hq.drew.m.store hx hy hz (HT1.out (by simp)) (by omega) (by unfold maxLen; omega)
     have hk5 : zaa (fun b => b = mb) w4.drew w5 := zaa.of_grown hg fun k hk => by injection hk with hk; exact hk.symm
     exact ⟨w5, hr, rfl, hq.drew.setM hm hk5, hk.drew.trans hk5 fun b hb => .inl (.inr hb)⟩)
   cases is with
   | false =>
     obtain ⟨w5, hrun5, hend⟩ := HEND.out w3.drew (HQ3b.out (by rw [zeL (HT1.out (by simp)), HC0.out (by simp)])).drew HK3.out.drew
     have HE5 := Lib.hid hend
     clear hrun hend
     go_wp2_with fail
     go_region
     go_end0
     exact HE5.out
   | true =>
     obtain ⟨f, hpf, hf⟩ := HQ3.out.drew.p
     have p2 := zai hpf i hi
     have p3 := zaI hpf i
     obtain ⟨lp, hlp, hcl⟩ := HC1.out rfl
     have hq4 := (HQ3.out.setPl c (by rw [zeL (HT1.out (by simp)), hlp, hcl])).drew
     have hk4 := (HK3.out.setCell (a := ⟨pb, i, none⟩) (.inl (.inl rfl)) (.int .i64 c)).drew
     obtain ⟨w5, hrun5, hend⟩ := HEND.out _ hq4 hk4
     have HE5 := Lib.hid hend
     clear hrun hend hq4 hk4 hpf hf hlp hcl
     go_wp2_with fail
     go_region
     go_end0
     exact HE5.out
theorem tsize_any {w : World} (y l : Nat) (f : Int) (hl : l ≤ 100000) :
   Calls Tryz.prog 38 #[.agg #[.int .u8 y,   .int .i64 (l : Nat), .int .i64 f]] w fun e w' => e = .returned (.int .i64 ((max 1 l : Nat) : Int)) ∧ Below w.heap.size w w' := by
 have hb := zam w (.cells #[.int .u8 y, .int .i64 (l : Nat), .int .i64 f] 79)
 go_enter Tryz.func38, Tryz.ntmps38
 go_wp2_with fail
 · go_ret
   exact ⟨zaK (by omega), hb⟩
 · go_ret
   exact ⟨zaK (by omega), hb⟩
def RepOk (b : List UInt8) (i k : Nat) (far : Int) : Prop := (k = 0 ∧ far = 0) ∨ (0 < k ∧ zcy b i far k ∧ far ≤ 32768)
def ze9 (w : World) (b : List UInt8) (i : Nat) (e : Ending) (w' : World) : Prop := Below w.heap.size w w' ∧ ∃ (k : Nat) (far : Int), e = .returned (.tuple #[.int .i64 k, .int .i64 far]) ∧ RepOk b i k far ∧ (0 < k → 3 ≤ k) ∧ za0 b i = (k, far)
theorem best_any {w : World} {fb pb mb : Nat} {a : Option Addr} {n cap i : Nat} {b : List UInt8} (h : FinQ w fb pb mb a n cap i i b) (hi : i < n) (hn : n ≤ 100000000) :
   Calls Tryz.prog 37 #[.pointer (some ⟨fb, 0, none⟩), .int .i64 i] w (ze9 w b i) := by
 have HAT := Lib.hid (at_any h.row h.c0 (i := i) (by omega))
 have HQ := Lib.hid h
 clear h
 go_enter Tryz.func37, Tryz.ntmps37
 go_wp2
 go_step3
 go_wp2_with fail
 refine HAT.out.mono ?_
 rintro e w1 ⟨hb, x, y, z, is, rfl, hx, hy, hz, ht1, ht0⟩
 have HT1 := Lib.hid ht1
 have HT0 := Lib.hid ht0
 clear ht1 ht0
 unfold thV
 have hq1 := HQ.out.below hb
 have hbA := zam w1 (.cells #[.int .u8 x, .int .u8 y, .int .u8 z] 116)
 have HN := Lib.hid (show FinQ (w1.alloc (.cells #[.int .u8 x, .int .u8 y, .int .u8 z] 116)) fb pb mb a n cap i i b ∧ Below w.heap.size w (w1.alloc (.cells #[.int .u8 x, .int .u8 y, .int .u8 z] 116)) from ⟨hq1.below hbA, hb.alloc hb.size _⟩)
 have hnew := heap_alloc_new w1 (.cells #[.int .u8 x, .int .u8 y, .int .u8 z] 116)
 have t0 := cell_of_row _ _ 0 _ _ _ hnew
 have t1 := cell_of_row _ _ 1 _ _ _ hnew
 have t2 := cell_of_row _ _ 2 _ _ _ hnew
 obtain ⟨tb, htb⟩ : ∃ tb, tb = w1.heap.size := ⟨_, rfl⟩
 rw [← htb] at t0 t1 t2
 simp at t0 t1 t2
 clear hnew hbA hq1 hb
 go_upto_region 3 with fail
 generalize w1.alloc (.cells #[.int .u8 x, .int .u8 y, .int .u8 z] 116) = w2 at HN t0 t1 t2 ⊢
 rw [← htb]
 clear htb
 have d1 := HN.out.1.c1
 obtain ⟨c, was, hrun, hc1, hc0⟩ := (HN.out.1.m.keep (w' := w2.drew) rfl).look hx hy hz
 unfold thV at hrun
 have HC1 := Lib.hid hc1
 have HC0 := Lib.hid hc0
 clear hc1 hc0
 have HNO := Lib.hid (show za0 b i = (0, 0) → ∀ q, ze9 w b i (.returned (.tuple #[.int .i64 0, .int .i64 0])) (w2.drewN q) from fun hz q => ⟨HN.out.2.trans (za9 (Below.refl _ _) q), 0, 0, rfl, .inl ⟨rfl, rfl⟩, (fun h => by omega), hz⟩)
 go_upto_region 4 with fail
 go_region
 by_cases hcase : is = true ∧ was = true
 case neg =>
   have hor : is = false ∨ was = false := by
     cases is <;> cases was <;> simp at hcase ⊢
   have hz : za0 b i = (0, 0) := by
     cases his : is with
     | false => exact bestF_none (HT0.out his)
     | true => exact bestF_last (HT1.out his) (HC0.out (hor.resolve_left (by rw [his]; decide)))
   have HZ := Lib.hid (HNO.out hz)
   clear hrun hz
   rcases hor with rfl | rfl
   · go_wp2_with fail
     go_ret2
     exact HZ.out 1
   · cases is with
     | false =>
       go_wp2_with fail
       go_ret2
       exact HZ.out 1
     | true =>
       go_wp2_with fail
       go_ret2
       exact HZ.out 1
 obtain ⟨rfl, rfl⟩ := hcase
 obtain ⟨lp, hlp, hcl⟩ := HC1.out rfl
 subst hcl
 have HX0 := Lib.hid (bestF_yes (HT1.out (by simp)) hlp)
 have hcc := zfi hlp
 clear hlp
 have HQ2 := Lib.hid HN.out.1.drew
 have HB2 := Lib.hid (show Below w.heap.size w w2.drew from HN.out.2.trans (za9 (Below.refl _ _) 1))
 clear hrun HN HNO t0 t1 t2 d1 HAT HQ HC1 HC0 HT0 HT1
 generalize w2.drew = w3 at HQ2 HB2 ⊢
 have HE := Lib.hid (show ∀ (L : Nat) (F : Int) (W : World), Below w3.heap.size w3 W → RepOk b i L F → 3 ≤ L → za0 b i = (L, F) → ze9 w b i (.returned (.tuple #[.int .i64 L, .int .i64 F])) W from fun L F W hW hr h3 hx => ⟨HB2.out.trans (hW.mono HB2.out.size), L, F, rfl, hr, fun _ => h3, hx⟩)
 have HE0 := Lib.hid (show ∀ (W : World), Below w3.heap.size w3 W → za0 b i = (0, 0) → ze9 w b i (.returned (.tuple #[.int .i64 0, .int .i64 0])) W from fun W hW hx => ⟨HB2.out.trans (hW.mono HB2.out.size), 0, 0, rfl, .inl ⟨rfl, rfl⟩, (fun h => by omega), hx⟩)
 go_wp2_with fail
 go_step3
 go_wp2_with fail
 go_loopw [6, 7, 10, 12, 13] (fun vl vf vp vn vk wr => ∃ (p : Int) (m L : Nat) (F : Int), vp = .int .i64 p ∧ vn = .int .i64 m ∧ vl = .int .i64 L ∧ vf = .int .i64 F ∧ m ≤ 32 ∧ (-1 ≤ p ∧ p < i) ∧ L ≤ 258 ∧ Hid (RepOk b i L F) ∧ Hid (Below w3.heap.size w3 wr) ∧ Hid (za0 b i = zbs (zdd b i (33 - m) p (L, F)))) (fun _ _ _ vn _ _ => 32 - (intOf vn).toNat)
 case atStart => exact ⟨lp, 0, 0, 0, rfl, rfl, rfl, rfl, by omega, by omega, by omega, Lib.hid (.inl ⟨rfl, rfl⟩), Lib.hid (Below.refl _ _), HX0⟩
 case round =>
   obtain ⟨p, m, L, F, rfl, rfl, rfl, rfl, hm, hp, hL, HR, HW, HX⟩ := hrel
   have hq := HQ2.out.below HW.out
   have e0 := hq.c0
   have e2 := hq.c2
   have HROW := Lib.hid hq.row
   have HP := Lib.hid hq.p
   clear hq
   by_cases c1 : 0 ≤ p
   case neg =>
     have d1 : decide (p ≥ 0) = false := decide_eq_false (by omega)
     have d1b : ¬ (0 ≤ p) := c1
     have HS := Lib.hid (show za0 b i = zbs (L, F) from by rw [HX.out, zeX (fun h => c1 h.1)])
     by_cases h3 : L < 3
     · have d3 : decide ((L : Int) < 3) = true := decide_eq_true (by omega)
       go_wp2_with fail
       try rw [Exit.noGoto_ret]
       go_ret2
       exact HE0.out _ HW.out (by rw [HS.out, lr0 h3])
     · have d3 : decide ((L : Int) < 3) = false := decide_eq_false (by omega)
       go_wp2_with fail
       try rw [Exit.noGoto_ret]
       go_ret2
       exact HE.out _ _ _ HW.out HR.out (by omega) (by rw [HS.out, lr1 h3])
   have d1 : decide (p ≥ 0) = true := decide_eq_true (by omega)
   by_cases c2 : (i : Int) - p ≤ 32768
   case neg =>
     have d2 : decide ((i : Int) - p ≤ 32768) = false := decide_eq_false (by omega)
     have HS := Lib.hid (show za0 b i = zbs (L, F) from by rw [HX.out, zeX (fun h => c2 h.2)])
     by_cases h3 : L < 3
     · have d3 : decide ((L : Int) < 3) = true := decide_eq_true (by omega)
       go_wp2_with fail
       try rw [Exit.noGoto_ret]
       go_ret2
       exact HE0.out _ HW.out (by rw [HS.out, lr0 h3])
     · have d3 : decide ((L : Int) < 3) = false := decide_eq_false (by omega)
       go_wp2_with fail
       try rw [Exit.noGoto_ret]
       go_ret2
       exact HE.out _ _ _ HW.out HR.out (by omega) (by rw [HS.out, lr1 h3])
   have d2 : decide ((i : Int) - p ≤ 32768) = true := decide_eq_true c2
   have HM := Lib.hid (match_any HROW.out i ((i : Int) - p) (by omega) (by omega))
   go_wp2_with fail
   refine HM.out.mono ?_
   rintro e wq ⟨k, rfl, ⟨q, rfl⟩, hmk, hkm⟩
   have HWq := Lib.hid (za9 HW.out q)
   have HMK := Lib.hid hmk
   obtain ⟨f, hpf, hf⟩ := HP.out
   obtain ⟨pn, rfl⟩ : ∃ pn : Nat, p = pn := ⟨p.toNat, by omega⟩
   have g2 : (wr.drewN q).cell? ⟨pb, pn, none⟩ = some (.int .i64 (f pn)) := zai (w := wr.drewN q) hpf pn (by omega)
   have e2q : (wr.drewN q).cell? ⟨fb, 2, none⟩ = some (.slice (some ⟨pb, 0, none⟩) n n) := e2
   have hfq := hf pn (by omega)
   have hfp : -1 ≤ f pn ∧ f pn < (i : Int) := by rw [hfq]; have := prevP_bd b pn; omega
   have HSY := Lib.hid (fun h : (L, F).1 < k => bestS_yes hkm h)
   have HSN := Lib.hid (fun h : ¬ (L, F).1 < k => bestS_no hkm h)
   have HXE := Lib.hid (fun (h : m = 32 ∨ (zcx b i (pn : Int) (L, F)).1 = 258) => show za0 b i = zbs (zcx b i (pn : Int) (L, F)) from by rw [HX.out, bestG_end hm ⟨by omega, c2⟩ h])
   have HXG := Lib.hid (fun (h : ¬ m = 32) (he : ¬ (zcx b i (pn : Int) (L, F)).1 = 258) => show za0 b i = zbs (zdd b i (33 - (m + 1)) (f pn) (zcx b i (pn : Int) (L, F))) from by rw [HX.out, bestG_go (by omega) ⟨by omega, c2⟩ he, Int.toNat_natCast, hfq])
   have hpn : (pn : Int) < (n : Int) := by omega
   have hk258 : k ≤ 258 := hmk.1
   generalize f pn = fp at g2 hfp hfq HXG
   clear hmk hpf hf HM HP HROW HW e0 e2 d1 d2 hfq hkm HX
   generalize wr.drewN q = w4 at HWq g2 e2q ⊢
   have hfar : (i : Int) - pn ≤ 32768 := c2
   have HF := Lib.hid (show ∀ K' : Nat, K' = k → L < k → RepOk b i k ((i : Int) - pn) from fun _ _ h => .inr ⟨by omega, HMK.out, hfar⟩)
   by_cases hkl : L < k
   · have dk : decide ((k : Int) > (L : Int)) = true := decide_eq_true (by omega)
     have dk2 : (L : Int) < (k : Int) := by omega
     have HR2 := Lib.hid (HF.out k rfl hkl)
     have HXS := Lib.hid (HSY.out hkl)
     clear HF HMK HR c2 c1 HSY HSN
     go_upto_region 12 with fail
     by_cases m32 : m = 32
     · have dm : ((m : Int) == 32) = true := by rw [m32]; rfl
       have dm2 : decide ((m : Int) = 32) = true := decide_eq_true (by omega)
       have HX2 := Lib.hid (show za0 b i = zbs (k, (i : Int) - (pn : Int)) from by rw [HXE.out (.inl m32), HXS.out])
       clear m32
       by_cases h3 : k < 3
       · have d3 : decide ((k : Int) < 3) = true := decide_eq_true (by omega)
         go_wp2_with fail
         try rw [Exit.noGoto_ret]
         go_ret2
         exact HE0.out _ HWq.out (by rw [HX2.out, lr0 h3])
       · have d3 : decide ((k : Int) < 3) = false := decide_eq_false (by omega)
         go_wp2_with fail
         try rw [Exit.noGoto_ret]
         go_ret2
         exact HE.out _ _ _ HWq.out HR2.out (by omega) (by rw [HX2.out, lr1 h3])
     have dm : ((m : Int) == 32) = false := by simp; omega
     have dm2 : decide ((m : Int) = 32) = false := decide_eq_false (by omega)
     by_cases l258 : k = 258
     · have dl : ((k : Int) == 258) = true := by rw [l258]; rfl
       have dl2 : decide ((k : Int) = 258) = true := decide_eq_true (by omega)
       have h3 : ¬ k < 3 := by omega
       have d3 : decide ((k : Int) < 3) = false := decide_eq_false (by omega)
       have HX2 := Lib.hid (show za0 b i = zbs (k, (i : Int) - (pn : Int)) from by rw [HXE.out (.inr (by rw [HXS.out]; exact l258)), HXS.out])
       clear l258
       go_wp2_with fail
       try rw [Exit.noGoto_ret]
       go_ret2
       exact HE.out _ _ _ HWq.out HR2.out (by omega) (by rw [HX2.out, lr1 h3])
     have dl : ((k : Int) == 258) = false := by simp; omega
     have dl2 : decide ((k : Int) = 258) = false := decide_eq_false (by omega)
     have HXN := Lib.hid (show za0 b i = zbs (zdd b i (33 - (m + 1)) fp (k, (i : Int) - (pn : Int))) from by rw [HXG.out m32 (by rw [HXS.out]; exact l258), HXS.out])
     clear HXG HXE HXS
     go_wp2_with fail
     go_roundw
     case rel => exact ⟨fp, m + 1, k, _, rfl, by go_num, rfl, rfl, by omega, hfp, hk258, HR2, HWq, HXN⟩
     case measure => simp [intOf]; omega
   · have dk : decide ((k : Int) > (L : Int)) = false := decide_eq_false (by omega)
     have dk2 : ¬ (L : Int) < (k : Int) := by omega
     have HR2 := HR
     have HXS := Lib.hid (HSN.out hkl)
     clear HF HMK HR c2 c1 HSY HSN
     go_upto_region 12 with fail
     by_cases m32 : m = 32
     · have dm : ((m : Int) == 32) = true := by rw [m32]; rfl
       have dm2 : decide ((m : Int) = 32) = true := decide_eq_true (by omega)
       have HX2 := Lib.hid (show za0 b i = zbs (L, F) from by rw [HXE.out (.inl m32), HXS.out])
       clear m32
       by_cases h3 : L < 3
       · have d3 : decide ((L : Int) < 3) = true := decide_eq_true (by omega)
         go_wp2_with fail
         try rw [Exit.noGoto_ret]
         go_ret2
         exact HE0.out _ HWq.out (by rw [HX2.out, lr0 h3])
       · have d3 : decide ((L : Int) < 3) = false := decide_eq_false (by omega)
         go_wp2_with fail
         try rw [Exit.noGoto_ret]
         go_ret2
         exact HE.out _ _ _ HWq.out HR2.out (by omega) (by rw [HX2.out, lr1 h3])
     have dm : ((m : Int) == 32) = false := by simp; omega
     have dm2 : decide ((m : Int) = 32) = false := decide_eq_false (by omega)
     by_cases l258 : L = 258
     · have dl : ((L : Int) == 258) = true := by rw [l258]; rfl
       have dl2 : decide ((L : Int) = 258) = true := decide_eq_true (by omega)
       have h3 : ¬ L < 3 := by omega
       have d3 : decide ((L : Int) < 3) = false := decide_eq_false (by omega)
       have HX2 := Lib.hid (show za0 b i = zbs (L, F) from by rw [HXE.out (.inr (by rw [HXS.out]; exact l258)), HXS.out])
       clear l258
       go_wp2_with fail
       try rw [Exit.noGoto_ret]
       go_ret2
       exact HE.out _ _ _ HWq.out HR2.out (by omega) (by rw [HX2.out, lr1 h3])
     have dl : ((L : Int) == 258) = false := by simp; omega
     have dl2 : decide ((L : Int) = 258) = false := decide_eq_false (by omega)
     have HXN := Lib.hid (show za0 b i = zbs (zdd b i (33 - (m + 1)) fp (L, F)) from by rw [HXG.out m32 (by rw [HXS.out]; exact l258), HXS.out])
     clear HXG HXE HXS
     go_wp2_with fail
     go_roundw
     case rel => exact ⟨fp, m + 1, L, _, rfl, by go_num, rfl, rfl, by omega, hfp, hL, HR2, HWq, HXN⟩
     case measure => simp [intOf]; omega
end Go.Proofs.YtngjbhejfojpbaaGreat
