/-
  Our texts Dw3 to Zl2, in one.
-/
import Derived.Test.YtkikhmdpcanidaaGreatPkC6
import Derived.BigQuiet
import Derived.BigRegion
import Derived.Deep.RegionHeld
import Derived.Maps.OwnSet
import Derived.WideKeyArr
import Derived.Maps.OwnOps
import Derived.Lib.SlBytesConst
import Derived.Lib.SmallJoins
import Derived.Deep.RegionHeld3
set_option maxRecDepth 8000
set_option maxHeartbeats 8000000
namespace Go.Proofs.YtkikhmdpcanidaaGreat
open Go.RowKit
def tokV : List LT → List Value
 | [] => []
 | t :: l => .int .u8 t.b.toNat :: .int .i64 t.len :: .int .i64 t.far :: tokV l
theorem zfc : ∀ a b : List LT, tokV (a ++ b) = tokV a ++ tokV b
 | [], _ => rfl
 | t :: a, b => by simp only [List.cons_append, tokV, zfc a b]
theorem tokV_at : ∀ (l : List LT) (i : Nat) (t : LT), l[i]? = some t → (tokV l)[i * 3]? = some (.int .u8 t.b.toNat) ∧ (tokV l)[i * 3 + 1]? = some (.int .i64 t.len) ∧ (tokV l)[i * 3 + 2]? = some (.int .i64 t.far)
 | [], i, t, h => by simp at h
 | x :: l, 0, t, h => by
   have h : x = t := by simpa using h
   subst h
   exact ⟨rfl, rfl, rfl⟩
 | x :: l, i + 1, t, h => by
   have := tokV_at l i t (by simpa using h)
   rw [show (i + 1) * 3 = i * 3 + 1 + 1 + 1 from by omega]
   simpa [tokV] using this
noncomputable def tokC (l d : List Int) : List LT → List Bool
 | [] => []
 | t :: ts => t.bits l d ++ tokC l d ts
theorem tokC_snoc (l d : List Int) : ∀ (ts : List LT) (t : LT), tokC l d (ts ++ [t]) = tokC l d ts ++ t.bits l d
 | [], t => by simp [tokC]
 | x :: ts, t => by simp only [List.cons_append, tokC, tokC_snoc l d ts t, List.append_assoc]
theorem zfG (l d : List Int) : ∀ ts : List LT, tokB l d ts = tokC l d ts ++ za1 l 256 (lenN l 256)
 | [] => rfl
 | t :: ts => by simp only [tokB, tokC, zfG l d ts, List.append_assoc]
theorem LT.bits_le {l d : List Int} (hl : ∀ s, lenN l s ≤ 15) (hd : ∀ s, lenN d s ≤ 15) {t : LT} (ht : t.may) : (t.bits l d).length ≤ 60 := by
 unfold LT.bits
 unfold LT.may at ht
 by_cases h0 : t.len = 0
 · rw [if_pos h0, zas]
   have := hl t.b.toNat
   unfold lenN at this ⊢; omega
 · rw [if_neg h0] at ht ⊢
   have h1 := zc4 ht.2.1 ht.2.2.1
   have h2 := zcO ht.2.2.2.1 ht.2.2.2.2
   simp only [List.length_append, zas, zae]
   have a := hl (symN t.len)
   have b := hd (farN t.far)
   unfold lenN at a b ⊢; omega
theorem tokC_le {l d : List Int} (hl : ∀ s, lenN l s ≤ 15) (hd : ∀ s, lenN d s ≤ 15) : ∀ {ts : List LT}, (∀ t ∈ ts, t.may) → (tokC l d ts).length ≤ 60 * ts.length
 | [], _ => by simp [tokC]
 | t :: ts, h => by
   have h1 := LT.bits_le hl hd (h t (List.mem_cons_self ..))
   have h2 := tokC_le hl hd (ts := ts) fun u hu => h u (List.mem_cons_of_mem _ hu)
   simp only [tokC, List.length_append, List.length_cons]; omega
theorem symV7_is {x : Nat} (h3 : 3 ≤ x) (h8 : x ≤ 258) : zez x = ((symN x : Int), (symR x : Int), (symB x : Int)) := by unfold zez; rw [if_neg (by omega), refS_is h3 h8]
theorem farV7_is {x : Nat} (h1 : 1 ≤ x) (h2 : x ≤ 32768) : zev x = ((farN x : Int), (farR x : Int), (farB x : Int)) := by unfold zev; rw [if_neg (by omega), refF_is h1]
theorem ze0 {w : World} {S Bt Bd : Nat → Prop} {wb cap pt pd : Nat} {a : Option Addr} {B : List Bool} {ts : List LT} {l d : List Int} (h : WrQ w S wb false B) (hr : Row w 3 a ts.length cap (tokV ts)) (ha : ∀ x, a = some x → ¬ S x.block)
   (hT : IsTb w Bt pt l) (hBt : ∀ b, Bt b → ¬ S b ∧ b < w.heap.size) (hD : IsTb w Bd pd d) (hBd : ∀ b, Bd b → ¬ S b ∧ b < w.heap.size) (hts : ∀ t ∈ ts, t.may ∧ CodT l d t) (h256 : 0 < l.getD 256 0) (hlen : ts.length ≤ 100000) (hlt : B.length < 68719476736) :
   Calls Tryz.prog 83 #[wrA wb, .slice a ts.length cap, .pointer (some ⟨pt, 0, none⟩), .pointer (some ⟨pd, 0, none⟩)] w fun e w' => e = .returned (.tuple #[]) ∧ zab w S wb false (B ++ tokB l d ts) w' := by
 have hc : (w.alloc (.cells #[.pointer (some ⟨wb, 0, none⟩)] 48)).cell? ⟨w.heap.size, 0, none⟩ = some (.pointer (some ⟨wb, 0, none⟩)) := by
   rw [cell_of_row _ _ 0 _ _ _ (heap_alloc_new w _)]; rfl
 have hno : ¬ S w.heap.size := h.out
 have HN := Lib.hid (zab.refl (h.alloc (.cells #[.pointer (some ⟨wb, 0, none⟩)] 48)))
 have HE := Lib.hid (fun (B' : List Bool) (w' : World) (hn : zab (w.alloc (.cells #[.pointer (some ⟨wb, 0, none⟩)] 48)) S wb false B' w') => zab.trans (S := S) ((zaa.refl S w).alloc (.cells #[.pointer (some ⟨wb, 0, none⟩)] 48)) (fun b hb => .inl hb) hn)
 have hb0 := zai w (.cells #[.pointer (some ⟨wb, 0, none⟩)] 48)
 have HR := Lib.hid (hr.mono hb0)
 have HT := Lib.hid (hT.mono hb0)
 have HD := Lib.hid (hD.mono hb0)
 have hsz : (w.alloc (.cells #[.pointer (some ⟨wb, 0, none⟩)] 48)).heap.size = w.heap.size + 1 := zac _ _
 have HBT := Lib.hid (show ∀ b, Bt b → ¬ S b ∧ b < (w.alloc (.cells #[.pointer (some ⟨wb, 0, none⟩)] 48)).heap.size from fun b hb => ⟨(hBt b hb).1, by have := (hBt b hb).2; omega⟩)
 have HBD := Lib.hid (show ∀ b, Bd b → ¬ S b ∧ b < (w.alloc (.cells #[.pointer (some ⟨wb, 0, none⟩)] 48)).heap.size from fun b hb => ⟨(hBd b hb).1, by have := (hBd b hb).2; omega⟩)
 have H256 := Lib.hid h256
 have hb0w : w.heap.size < (w.alloc (.cells #[.pointer (some ⟨wb, 0, none⟩)] 48)).heap.size := by omega
 have hl15 : ∀ s, lenN l s ≤ 15 := zcE (zat hT.room).2.2.1
 have hd15 : ∀ s, lenN d s ≤ 15 := zcE (zat hD.room).2.2.1
 have HTS := Lib.hid hts
 have HCL := Lib.hid (show ∀ i, (tokC l d (ts.take i)).length ≤ 6000000 from fun i => by
   have h1 := tokC_le hl15 hd15 (ts := ts.take i) fun t ht => (hts t (List.mem_of_mem_take ht)).1
   have h2 : (ts.take i).length ≤ ts.length := by simp; omega
   have h3 := Nat.mul_le_mul_left 60 (Nat.le_trans h2 hlen)
   omega)
 have hcapm := hr.2.2.1
 have hcapn := hr.2.1
 unfold maxLen at hcapm
 have hno2 := Lib.hid hno
 have HA := Lib.hid ha
 have HC := Lib.hid hc
 obtain ⟨n, hn⟩ : ∃ n, n = ts.length := ⟨_, rfl⟩
 rw [← hn] at HR hlen hcapn ⊢
 have HLN := Lib.hid hn
 clear hr hT hD hBt hBd hts h256 hb0 hsz h hc hno ha hn
 unfold wrA
 go_enter Tryz.func83, Tryz.ntmps83
 go_wp2_with fail
 generalize w.alloc (.cells #[.pointer (some ⟨wb, 0, none⟩)] 48) = w0 at HN HE HR HT HD HBT HBD hb0w HC ⊢
 go_loopw [15] (fun v wr => ∃ i : Nat, v = .int .i64 i ∧ i ≤ n ∧ Hid (zab w0 S wb false (B ++ tokC l d (ts.take i)) wr)) (fun v _ => n - (intOf v).toNat)
 case atStart => exact ⟨0, rfl, Nat.zero_le _, by rw [List.take_zero, tokC, List.append_nil]; exact HN⟩
 case round =>
   obtain ⟨i, rfl, hi, HW⟩ := hrel
   by_cases hlt2 : i < n
   case neg =>
     have hie : i = n := by omega
     subst hie
     have hcd : decide ((i : Int) < (i : Int)) = false := decide_eq_false (by omega)
     have c1 := HW.out.cell HC.out hno2.out
     have hs := HCL.out i
     have HP := Lib.hid (zcc (s := 256) HW.out HT.out HBT.out (by rw [List.length_append]; omega) (by
       have h := H256.out
       rcases Nat.lt_or_ge 256 l.length with h1 | h1
       · exact h1
       · rw [List.getD_eq_getElem?_getD, List.getElem?_eq_none h1] at h; exact absurd h (by decide)) H256.out)
     go_wp2_with fail
     refine HP.out.mono ?_
     rintro e w2 ⟨rfl, hn2⟩
     have HN2 := Lib.hid (show zab w0 S wb false (B ++ tokB l d ts) w2 from by
       rw [List.take_of_length_le (by rw [← HLN.out]; exact Nat.le_refl _), List.append_assoc, ← zfG] at hn2
       exact hn2)
     clear hn2 HP
     go_wp2_with fail
     go_end0
     exact ⟨rfl, HE.out _ _ HN2.out⟩
   have hcd : decide ((i : Int) < (n : Int)) = true := decide_eq_true (by omega)
   have hin : (i : Int) < (n : Int) := by omega
   obtain ⟨t, ht⟩ : ∃ t, ts[i]? = some t := ⟨_, List.getElem?_eq_getElem (by rw [← HLN.out]; exact hlt2)⟩
   obtain ⟨hmay, hcod⟩ := HTS.out t (List.mem_of_getElem? ht)
   obtain ⟨S1, q1, k1, s1⟩ := HW.out
   have hrow : Row wr 3 a n cap (tokV ts) := HR.out.keeps k1 HA.out
   obtain ⟨bb, off, rfl, hbb, hcc⟩ := hrow.2.2.2.2 (by omega)
   obtain ⟨t0, t1, t2⟩ := tokV_at ts i t ht
   have z0 := hcc _ _ t0
   have z1 := hcc _ _ t1
   have z2 := hcc _ _ t2
   rw [← Nat.add_assoc] at z1 z2
   have c1 := k1.cell HC.out hno2.out
   have HSN := Lib.hid (show tokC l d (ts.take (i + 1)) = tokC l d (ts.take i) ++ t.bits l d from by
     rw [List.take_add_one, ht]; exact tokC_snoc l d _ _)
   have hS1 : ∀ b, b < w0.heap.size → ¬ S b → ¬ S1 b := fun b hb hn h1 => by
     rcases s1 b h1 with h2 | h2
     · exact hn h2
     · omega
   have hk : ∀ o, zaa (fun _ => False) wr (wr.alloc o) := fun o => (zaa.refl _ wr).alloc o
   have hlt1 : ∀ b, S1 b → b < wr.heap.size := fun b hb => (q1.lt b hb).2
   have hszw := k1.size
   obtain ⟨o, ho⟩ : ∃ o : Obj, o = .cells #[.int .u8 t.b.toNat, .int .i64 t.len, .int .i64 t.far] 123 := ⟨_, rfl⟩
   have hnew : (wr.alloc o).heap[wr.heap.size]? = some (.cells #[.int .u8 t.b.toNat, .int .i64 t.len, .int .i64 t.far] 123 (0, 0)) := by rw [ho]; exact heap_alloc_new wr _
   have HNi := Lib.hid (zab.refl (q1.alloc o))
   have HEND := Lib.hid (fun (B' : List Bool) (W' : World) (hn : zab (wr.alloc o) S1 wb false B' W') => zab.trans (k1.trans (hk o) (fun _ h => h.elim)) s1 hn)
   have HCE := Lib.hid (fun (B' : List Bool) (W' : World) (hn : zab (wr.alloc o) S1 wb false B' W') => hn.cell ((hk o).cell c1 id) (hS1 _ hb0w hno2.out))
   have HC0 := Lib.hid (fun (B' : List Bool) (W' : World) (hn : zab (wr.alloc o) S1 wb false B' W') => hn.cell (b := wr.heap.size) (k := 0) (by rw [cell_of_row _ _ 0 _ _ _ hnew]; rfl) (fun h => by have := hlt1 _ h; omega))
   have HC1 := Lib.hid (fun (B' : List Bool) (W' : World) (hn : zab (wr.alloc o) S1 wb false B' W') => hn.cell (b := wr.heap.size) (k := 1) (by rw [cell_of_row _ _ 1 _ _ _ hnew]; rfl) (fun h => by have := hlt1 _ h; omega))
   have HC2 := Lib.hid (fun (B' : List Bool) (W' : World) (hn : zab (wr.alloc o) S1 wb false B' W') => hn.cell (b := wr.heap.size) (k := 2) (by rw [cell_of_row _ _ 2 _ _ _ hnew]; rfl) (fun h => by have := hlt1 _ h; omega))
   have HTi := Lib.hid ((HT.out.keeps k1 (fun b hb => (HBT.out b hb).1)).mono (zai wr o))
   have HDi := Lib.hid ((HD.out.keeps k1 (fun b hb => (HBD.out b hb).1)).mono (zai wr o))
   have hwi : (wr.alloc o).heap.size = wr.heap.size + 1 := zac wr o
   have HBTi := Lib.hid (show ∀ b, Bt b → ¬ S1 b ∧ b < (wr.alloc o).heap.size from fun b hb => by
     obtain ⟨h1, h2⟩ := HBT.out b hb
     exact ⟨hS1 b h2 h1, by omega⟩)
   have HBDi := Lib.hid (show ∀ b, Bd b → ¬ S1 b ∧ b < (wr.alloc o).heap.size from fun b hb => by
     obtain ⟨h1, h2⟩ := HBD.out b hb
     exact ⟨hS1 b h2 h1, by omega⟩)
   have hsL := HCL.out i
   have hbl : (B ++ tokC l d (ts.take i)).length ≤ 68800000000 := by rw [List.length_append]; omega
   have HSN2 := Lib.hid (show B ++ tokC l d (ts.take (i + 1)) = (B ++ tokC l d (ts.take i)) ++ t.bits l d from by rw [HSN.out, List.append_assoc])
   generalize (B ++ tokC l d (ts.take i)) = Bi at HNi HSN2 hbl
   rw [ho] at HNi HEND HCE HC0 HC1 HC2 HTi HDi HBTi HBDi
   clear hcc hrow t0 t1 t2 hS1 hk hlt1 hnew hwi q1 k1 s1 HW HSN hsL HCL HTS HR HT HD HBT HBD HN ho
   unfold LT.may at hmay
   unfold CodT at hcod
   unfold LT.bits at HSN2
   by_cases h0 : t.len = 0
   · rw [if_pos h0] at hcod HSN2
     have he : decide ((t.len : Int) = 0) = true := decide_eq_true (by omega)
     have heb : ((t.len : Int) == 0) = true := he
     have c00 := HC0.out _ _ HNi.out
     have c01 := HC1.out _ _ HNi.out
     have cE := HCE.out _ _ HNi.out
     have hbt := t.b.toNat_lt
     have HP := Lib.hid (zcc (s := t.b.toNat) HNi.out HTi.out HBTi.out (by omega) (by
       rcases Nat.lt_or_ge t.b.toNat l.length with h1 | h1
       · exact h1
       · rw [List.getD_eq_getElem?_getD, List.getElem?_eq_none h1] at hcod; exact absurd hcod (by decide)) hcod)
     clear h0 hmay hcod HC0 HC1 HC2 HCE HTi HDi HBTi HBDi HNi
     generalize t.len = ln at *
     generalize t.far = fa at *
     generalize t.b.toNat = bt at *
     go_wp2_with fail
     refine HP.out.mono ?_
     rintro e w2 ⟨rfl, hn2⟩
     rw [← HSN2.out] at hn2
     have HN2 := Lib.hid (HEND.out _ _ hn2)
     clear hn2 HP HEND
     go_wp2_with fail
     go_roundw
     case rel => exact ⟨i + 1, by go_num, by omega, HN2⟩
     case measure => simp [intOf]; omega
   · rw [if_neg h0] at hcod HSN2 hmay
     obtain ⟨-, m3, m8, f1, f2⟩ := hmay
     obtain ⟨hc1, hc2⟩ := hcod
     obtain ⟨y1, y2, -, -, y5, y6, -, -⟩ := zc4 m3 m8
     obtain ⟨g1, -, -, g4, g5, -, -⟩ := zcO f1 f2
     have he : decide ((t.len : Int) = 0) = false := decide_eq_false (by omega)
     have heb : ((t.len : Int) == 0) = false := he
     have HSY := Lib.hid (fun W : World => by have h := dsym_any (t.len : Int) W (by omega); rw [symV7_is m3 m8] at h; exact h)
     have HFY := Lib.hid (fun W : World => by have h := dfar_any (t.far : Int) W (by omega); rw [farV7_is f1 f2] at h; exact h)
     have c01 := HC1.out _ _ HNi.out
     clear h0 m3 m8 f1 f2 HC0
     generalize t.len = ln at *
     generalize t.far = fa at *
     generalize t.b.toNat = bt at *
     have hl1 : symN ln < l.length := by
       rcases Nat.lt_or_ge (symN ln) l.length with h1 | h1
       · exact h1
       · rw [List.getD_eq_getElem?_getD, List.getElem?_eq_none h1] at hc1; exact absurd hc1 (by decide)
     have hd1 : farN fa < d.length := by
       rcases Nat.lt_or_ge (farN fa) d.length with h1 | h1
       · exact h1
       · rw [List.getD_eq_getElem?_getD, List.getElem?_eq_none h1] at hc2; exact absurd hc2 (by decide)
     have hq1 : (za1 l (symN ln) (lenN l (symN ln))).length ≤ 15 := by
       rw [zas]; have := hl15 (symN ln); unfold lenN at this ⊢; omega
     have hq2 : (za1 d (farN fa) (lenN d (farN fa))).length ≤ 15 := by
       rw [zas]; have := hd15 (farN fa); unfold lenN at this ⊢; omega
     have HP1 := Lib.hid (zcc (s := symN ln) HNi.out HTi.out HBTi.out (by omega) hl1 hc1)
     generalize za1 l (symN ln) (lenN l (symN ln)) = L1 at HP1 HSN2 hq1
     have HP3 := Lib.hid (fun (W : World) (B' : List Bool) (hn : zab (wr.alloc (.cells #[.int .u8 bt, .int .i64 ln, .int .i64 fa] 123)) S1 wb false B' W) (hb : B'.length ≤ 68800000100) => zcc (s := farN fa) hn HDi.out HBDi.out (by omega) hd1 hc2)
     generalize za1 d (farN fa) (lenN d (farN fa)) = L3 at HP3 HSN2 hq2
     generalize symN ln = sN at *
     generalize symR ln = sR at *
     generalize symB ln = sB at *
     generalize farN fa = fN at *
     generalize farR fa = fR at *
     generalize farB fa = fB at *
     have hsR : sR < 32 := Nat.lt_of_lt_of_le y5 (Nat.pow_le_pow_right (by omega) y6 : 2 ^ sB ≤ 2 ^ 5)
     have hfR : fR < 8192 := Nat.lt_of_lt_of_le g4 (Nat.pow_le_pow_right (by omega) g5 : 2 ^ fB ≤ 2 ^ 13)
     clear HTi HDi HBTi HBDi hl1 hd1 hc1 hc2 hl15 hd15
     go_wp2_with fail
     refine (HSY.out _).mono ?_
     rintro e W ⟨rfl, rfl⟩
     have cE := HCE.out _ _ HNi.out
     go_wp2_with fail
     refine HP1.out.mono ?_
     rintro e w2 ⟨rfl, hn2⟩
     have cE2 := HCE.out _ _ hn2
     have HN2 := Lib.hid hn2
     clear hn2 HP1 HSY cE c01
     go_wp2_with fail
     refine (zaC HN2.out sB sR (by rw [List.length_append]; omega) (by omega) y5).mono ?_
     rintro e w3 ⟨rfl, hn3⟩
     have cE3 := HCE.out _ _ hn3
     have c03 := HC2.out _ _ hn3
     have HN3 := Lib.hid hn3
     clear hn3 HN2 cE2
     go_wp2_with fail
     refine (HFY.out _).mono ?_
     rintro e W ⟨rfl, rfl⟩
     go_wp2_with fail
     refine (HP3.out _ _ HN3.out (by rw [List.length_append, List.length_append, zae]; omega)).mono ?_
     rintro e w4 ⟨rfl, hn4⟩
     have cE4 := HCE.out _ _ hn4
     have HN4 := Lib.hid hn4
     clear hn4 HN3 cE3 c03 HP3 HFY
     go_wp2_with fail
     refine (zaC HN4.out fB fR (by rw [List.length_append, List.length_append, List.length_append, zae]; omega) (by omega) g4).mono ?_
     rintro e w5 ⟨rfl, hn5⟩
     have HN5 := Lib.hid (show zab w0 S wb false (B ++ tokC l d (ts.take (i + 1))) w5 from by
       have h := HEND.out _ _ hn5
       rw [HSN2.out]
       simp only [List.append_assoc] at h ⊢
       exact h)
     clear hn5 HN4 cE4 HEND
     go_wp2_with fail
     go_roundw
     case rel => exact ⟨i + 1, by go_num, by omega, HN5⟩
     case measure => simp [intOf]; omega
end Go.Proofs.YtkikhmdpcanidaaGreat
namespace Go.Proofs.YtkikhmdpcanidaaGreat
open Go.RowKit Go.Sort
theorem WrQ.blw {w w' : World} {wb : Nat} {B : List Bool} {S1 : Nat → Prop} (q : WrQ w S1 wb false B) (hb : Below w.heap.size w w') : WrQ w' S1 wb false B :=
 q.keeps (T := fun b => w.heap.size ≤ b) (zaa.of_below hb fun b hb => hb) (fun b hb h => by have := (q.lt b hb).2; omega)
theorem fixed_blk {w : World} {S : Nat → Prop} {wb cap : Nat} {a : Option Addr} {B : List Bool} {ts : List LT} (last : Bool) (h : WrQ w S wb false B) (hr : Row w 3 a ts.length cap (tokV ts)) (ha : ∀ x, a = some x → ¬ S x.block) (hal : ∀ x, a = some x → x.block < w.heap.size) (hts : ∀ t ∈ ts, t.may)
   (hlen : ts.length ≤ 100000) (hlt : B.length < 34359738368) :
   Calls Tryz.prog 53 #[wrA wb, .slice a ts.length cap, .bool last] w fun e w' => e = .returned (.tuple #[]) ∧ zab w S wb false (B ++ fixB last ts) w' := by
 have hc : (w.alloc (.cells #[.pointer (some ⟨wb, 0, none⟩)] 48)).cell? ⟨w.heap.size, 0, none⟩ = some (.pointer (some ⟨wb, 0, none⟩)) := by
   rw [cell_of_row _ _ 0 _ _ _ (heap_alloc_new w _)]; rfl
 have hno : ¬ S w.heap.size := h.out
 have HQ := Lib.hid (h.alloc (.cells #[.pointer (some ⟨wb, 0, none⟩)] 48))
 have HE := Lib.hid (fun (B' : List Bool) (w' : World) (hn : zab (w.alloc (.cells #[.pointer (some ⟨wb, 0, none⟩)] 48)) S wb false B' w') => zab.trans (S := S) ((zaa.refl S w).alloc (.cells #[.pointer (some ⟨wb, 0, none⟩)] 48)) (fun b hb => .inl hb) hn)
 have HR := Lib.hid (hr.mono (zai w (.cells #[.pointer (some ⟨wb, 0, none⟩)] 48)))
 have hb0w : w.heap.size < (w.alloc (.cells #[.pointer (some ⟨wb, 0, none⟩)] 48)).heap.size := by rw [zac]; omega
 have HA := Lib.hid ha
 have HTS := Lib.hid hts
 have HX := Lib.hid hno
 have halt : ∀ x, a = some x → x.block < (w.alloc (.cells #[.pointer (some ⟨wb, 0, none⟩)] 48)).heap.size := fun x hx => by have := hal x hx; omega
 have HAL := Lib.hid halt
 have hcapm := hr.2.2.1
 have hcapn := hr.2.1
 unfold maxLen at hcapm
 obtain ⟨n, hn⟩ : ∃ n, n = ts.length := ⟨_, rfl⟩
 have HLN := Lib.hid hn
 rw [← hn] at hlen hcapn ⊢
 clear h hr ha hal hts hno halt hn
 unfold wrA
 have HST := Lib.hid (zdb (kind := 1) last HQ.out (by omega) (by omega))
 unfold wrA at HST
 go_enter Tryz.func53, Tryz.ntmps53
 go_wp2_with fail
 generalize w.alloc (.cells #[.pointer (some ⟨wb, 0, none⟩)] 48) = w0 at HQ HE HR hb0w HST hc HAL ⊢
 refine HST.out.mono ?_
 rintro e w1 ⟨rfl, hn1⟩
 have c1 := hn1.cell hc HX.out
 obtain ⟨S1, q1, k1, s1⟩ := hn1
 have hs1 := k1.size
 go_wp2_with fail
 refine (fixed_any w1).mono ?_
 rintro e w2 ⟨a2, cA, b2, cB, rfl, hrA, hrB, hnA, hnB, hb2, -⟩
 have hs2 := hb2.size
 have HRA := Lib.hid hrA
 have HRB := Lib.hid hrB
 go_wp2_with fail
 have hNA := ze5 320 zbA a2 288 cA fixL w2 HRA.out zc6 (by omega) hnA
 refine hNA.mono ?_
 rintro e w3 ⟨p3, rfl, hT3, hb3⟩
 have hs3 := hb3.size
 have hrB3 := HRB.out.mono hb3
 clear hNA
 go_wp2_with fail
 have hNB := ze5 320 zbA b2 30 cB Go.Proofs.YtkikhmdpcanidaaGreat.fixD w3 hrB3 zda (by omega) hnB
 refine hNB.mono ?_
 rintro e w4 ⟨p4, rfl, hT4, hb4⟩
 have hs4 := hb4.size
 clear hNB
 have hb14 : Below w1.heap.size w1 w4 := (hb2.trans (hb3.mono hs2)).trans (hb4.mono (by omega))
 have c4 := zah hb14 (World.block_lt_of_cell? w1 _ c1) c1
 have q4 := WrQ.blw q1 hb14
 have k4 : zaa S w0 w4 := k1.trans (zaa.of_below hb14 fun b hb => hb) (fun b hb => .inr (by omega))
 have s4 : ∀ b, S1 b → b < w1.heap.size := fun b hb => (q1.lt b hb).2
 have HTK := Lib.hid (ze0 (ts := ts) (a := a) (cap := cap) q4 (HR.out.keeps k4 HA.out) (fun x hx h1 => by
   rcases s1 _ h1 with h2 | h2
   · exact HA.out x hx h2
   · have := HAL.out x hx; omega)
   (hT3.mono hb4) (fun b hb => ⟨fun h1 => by have := s4 b h1; have := hb.1; omega, Nat.lt_of_lt_of_le hb.2 hs4⟩) hT4 (fun b hb => ⟨fun h1 => by have := s4 b h1; have := hb.1; omega, hb.2⟩) (fun t ht => ⟨HTS.out t ht, fix_cod (HTS.out t ht)⟩) (zdK (by decide)) (by rw [← HLN.out]; exact hlen) (by rw [List.length_append, zak]; omega))
 rw [← HLN.out] at HTK
 unfold wrA at HTK
 have HEND := Lib.hid (fun (w5 : World) (hn : zab w4 S1 wb false (B ++ zcd last 1 ++ tokB fixL Go.Proofs.YtkikhmdpcanidaaGreat.fixD ts) w5) => show zab w S wb false (B ++ fixB last ts) w5 from by
   have h := HE.out _ _ (zab.trans k4 s1 hn)
   rw [List.append_assoc] at h
   exact h)
 clear q1 k1 s1 q4 k4 s4 hb14 hT3 hT4 hb2 hb3 hb4 hrA hrB hrB3 c1 hc HRA HRB
 go_wp2_with fail
 refine HTK.out.mono ?_
 rintro e w5 ⟨rfl, hn5⟩
 have HN5 := Lib.hid (HEND.out _ hn5)
 clear hn5 HTK HEND
 go_wp2_with fail
 go_end0
 exact ⟨rfl, HN5.out⟩
end Go.Proofs.YtkikhmdpcanidaaGreat
namespace Go.Proofs.YtkikhmdpcanidaaGreat
open Go.RowKit
theorem zcm (w : World) (p q : Nat) : (w.drewN p).drewN q = w.drewN (p + q) := by simp [World.drewN, Nat.add_assoc]
def zcI (b : List UInt8) (at_ : Nat) (far : Int) (k : Nat) : Prop := k ≤ 258 ∧ (0 < k → 1 ≤ far ∧ far ≤ at_ ∧ at_ + k ≤ b.length ∧ ∀ j, j < k → b.getD (at_ + j) 0 = b.getD (at_ + j - far.toNat) 0)
theorem zcI.zero (b : List UInt8) (at_ : Nat) (far : Int) : zcI b at_ far 0 := ⟨by omega, fun h => by omega⟩
theorem match_any {w : World} {a : Option Addr} {n cap : Nat} {b : List UInt8} (hr : Row w 1 a n cap (b.map fun x => .int .u8 x.toNat)) (at_ : Nat) (far : Int) (hat : at_ < 1000000000) (hfar : -1000000000 ≤ far ∧ far ≤ 1000000000) :
   Calls Tryz.prog 117 #[.slice a n cap, .int .i64 at_, .int .i64 far, .int .i64 258] w fun e w' => ∃ k : Nat, e = .returned (.int .i64 k) ∧ (∃ q, w' = w.drewN q) ∧ zcI b at_ far k := by
 have hl : b.length = n := by have := hr.1; simpa using this
 have hcapm := hr.2.2.1
 have hcapn := hr.2.1
 unfold maxLen at hcapm
 have HR := Lib.hid hr
 have HL := Lib.hid hl
 have hno : ∀ w', (∃ q, w' = w.drewN q) → ∃ k : Nat, Ending.returned (.int .i64 0) = .returned (.int .i64 k) ∧ (∃ q, w' = w.drewN q) ∧ zcI b at_ far k := fun w' h => ⟨0, rfl, h, zcI.zero b at_ far⟩
 have HNO := Lib.hid hno
 clear hr hl hno
 by_cases h1 : (at_ : Int) ≥ n
 · go_enter Tryz.func117, Tryz.ntmps117
   go_wp2
   go_ret
   exact HNO.out _ ⟨0, rfl⟩
 by_cases h2 : far < 1
 · go_enter Tryz.func117, Tryz.ntmps117
   go_wp2
   go_ret
   exact HNO.out _ ⟨0, rfl⟩
 by_cases h3 : far > (at_ : Int)
 · go_enter Tryz.func117, Tryz.ntmps117
   go_wp2
   go_ret
   exact HNO.out _ ⟨0, rfl⟩
 obtain ⟨f, rfl⟩ : ∃ f : Nat, far = (f : Int) := ⟨far.toNat, by omega⟩
 go_enter Tryz.func117, Tryz.ntmps117
 go_wp2_with fail
 go_loopw [9] (fun v wr => ∃ m : Nat, v = .int .i64 m ∧ m ≤ 258 ∧ at_ + m ≤ n ∧ Hid (∀ j, j < m → b.getD (at_ + j) 0 = b.getD (at_ + j - f) 0) ∧ Hid (∃ q, wr = w.drewN q)) (fun v _ => 258 - (intOf v).toNat)
 case atStart => exact ⟨0, rfl, by omega, by omega, Lib.hid (fun j hj => by omega), Lib.hid ⟨0, rfl⟩⟩
 case round =>
   obtain ⟨m, rfl, hm, hmn, HJ, HQ⟩ := hrel
   obtain ⟨q, hq⟩ := HQ.out
   have HE := Lib.hid (show ∀ W, (∃ q, W = w.drewN q) → ∃ k : Nat, Ending.returned (.int .i64 (m : Nat)) = .returned (.int .i64 k) ∧ (∃ q, W = w.drewN q) ∧ zcI b at_ f k from fun W hW => ⟨m, rfl, hW, hm, fun _ => ⟨by omega, by omega, by rw [HL.out]; exact hmn, HJ.out⟩⟩)
   have HQQ := Lib.hid hq
   clear hq HQ
   by_cases c1 : m < 258
   case neg =>
     have d1 : decide ((m : Int) < 258) = false := decide_eq_false (by omega)
     have d1b : ¬ (m : Int) < 258 := by omega
     clear HJ
     go_wp2_with fail
     go_quiet (fail)
     go_wp2
     go_ret
     exact HE.out _ ⟨q + nq, by rw [HQQ.out]; exact zcm _ _ _⟩
   have d1 : decide ((m : Int) < 258) = true := decide_eq_true (by omega)
   by_cases c2 : at_ + m < n
   case neg =>
     have d2 : decide ((at_ : Int) + (m : Int) < (n : Int)) = false := decide_eq_false (by omega)
     clear HJ
     go_wp2_with fail
     go_quiet (fail)
     go_wp2
     go_ret
     exact HE.out _ ⟨q + nq, by rw [HQQ.out]; exact zcm _ _ _⟩
   have d2 : decide ((at_ : Int) + (m : Int) < (n : Int)) = true := decide_eq_true (by omega)
   obtain ⟨bb, off, rfl, -, hcc⟩ := HR.out.at 0 0 (by omega)
   have z1 : wr.cell? ⟨bb, off + (at_ + m), none⟩ = some (.int .u8 (b.getD (at_ + m) 0).toNat) := by rw [HQQ.out]; exact hcc (at_ + m) c2
   have z2 : wr.cell? ⟨bb, off + (at_ + m - f), none⟩ = some (.int .u8 (b.getD (at_ + m - f) 0).toNat) := by rw [HQQ.out]; exact hcc (at_ + m - f) (by omega)
   have HJS := Lib.hid (show b.getD (at_ + m) 0 = b.getD (at_ + m - f) 0 → ∀ j, j < m + 1 → b.getD (at_ + j) 0 = b.getD (at_ + j - f) 0 from fun h j hj => by
     rcases Nat.lt_or_eq_of_le (Nat.le_of_lt_succ hj) with h1 | h1
     · exact HJ.out j h1
     · rw [h1]; exact h)
   clear hcc
   generalize b.getD (at_ + m) 0 = x at z1 HJS
   generalize b.getD (at_ + m - f) 0 = y at z2 HJS
   obtain ⟨A, hA⟩ : ∃ A, at_ + m = A := ⟨_, rfl⟩
   have e1 : (at_ : Int) + (m : Int) = (A : Int) := by omega
   have e2 : ((A : Int) - (f : Int)) = ((A - f : Nat) : Int) := by omega
   have hAf : A - f < n := by omega
   have hAn : A < n := by omega
   rw [hA] at z1 z2
   rw [e1] at d2
   have HAA := Lib.hid hA
   clear hA
   generalize A - f = A2 at z2 e2 hAf
   have hA2i : (A2 : Int) < (n : Int) := by omega
   have hAi : (A : Int) < (n : Int) := by omega
   by_cases hxy : x = y
   · have d3 : ((x.toNat : Int) == (y.toNat : Int)) = true := by rw [hxy]; simp
     have d3b : decide ((x.toNat : Int) = (y.toNat : Int)) = true := decide_eq_true (by rw [hxy])
     have HJ2 := Lib.hid (HJS.out hxy)
     clear HJ HJS hxy
     generalize (x.toNat : Int) = X at z1 d3 d3b
     generalize (y.toNat : Int) = Y at z2 d3 d3b
     go_wp2_with fail
     go_quiet (fail)
     go_wp2_with fail
     go_roundw
     case rel => exact ⟨m + 1, by go_num, by omega, by have := HAA.out; omega, HJ2, Lib.hid ⟨q + nq, by rw [HQQ.out]; exact zcm _ _ _⟩⟩
     case measure => simp [intOf]; omega
   · have hne : x.toNat ≠ y.toNat := fun h => hxy (UInt8.toNat_inj.1 h)
     have d3b : decide ((x.toNat : Int) = (y.toNat : Int)) = false := decide_eq_false (by omega)
     have d3 : ((x.toNat : Int) == (y.toNat : Int)) = false := d3b
     clear HJ HJS hxy hne
     generalize (x.toNat : Int) = X at z1 d3 d3b
     generalize (y.toNat : Int) = Y at z2 d3 d3b
     go_wp2_with fail
     go_quiet (fail)
     go_wp2
     go_ret
     exact HE.out _ ⟨q + nq, by rw [HQQ.out]; exact zcm _ _ _⟩
def thV (x y z : Nat) : Value := .agg #[.int .u8 x, .int .u8 y, .int .u8 z]
def AtEnd (w : World) (e : Ending) (w' : World) : Prop := Below w.heap.size w w' ∧ ∃ (x y z : Nat) (is : Bool), e = .returned (.tuple #[thV x y z, .bool is]) ∧ x < 256 ∧ y < 256 ∧ z < 256
theorem at_any {w : World} {a : Option Addr} {n cap fb i : Nat} {b : List UInt8} (hr : Row w 1 a n cap (b.map fun x => .int .u8 x.toNat)) (c0 : w.cell? ⟨fb, 0, none⟩ = some (.slice a n cap)) (hi : i < 1000000000) :
   Calls Tryz.prog 116 #[.pointer (some ⟨fb, 0, none⟩), .int .i64 i] w (AtEnd w) := by
 have hcapm := hr.2.2.1
 have hcapn := hr.2.1
 unfold maxLen at hcapm
 have hfb := World.block_lt_of_cell? w _ c0
 have hb0 := zai w (.cells #[.int .u8 0, .int .u8 0, .int .u8 0] 159)
 have c1 := cell?_keep hb0 c0
 have HR := Lib.hid (hr.mono hb0)
 have HB := Lib.hid hb0
 clear hr c0 hb0
 by_cases h3 : (i : Int) + 3 > n
 · have d : decide ((i : Int) + 3 > n) = true := decide_eq_true h3
   go_enter Tryz.func116, Tryz.ntmps116
   go_wp2_with fail
   have hnew := heap_alloc_new w (.cells #[.int .u8 0, .int .u8 0, .int .u8 0] 159)
   have q0 := cell_of_row _ _ 0 _ _ _ hnew
   have q1 := cell_of_row _ _ 1 _ _ _ hnew
   have q2 := cell_of_row _ _ 2 _ _ _ hnew
   refine bodyPost_ret (v := .tuple #[thV 0 0 0, .bool false]) (by simp [results, Tryz.results116, go_sem, q0, q1, q2, thV]) rfl ⟨HB.out, 0, 0, 0, false, rfl, by omega, by omega, by omega⟩
 · have d : decide ((i : Int) + 3 > n) = false := decide_eq_false h3
   obtain ⟨bb, off, rfl, -, hcc⟩ := HR.out.at 0 0 (by omega)
   obtain ⟨i1, hi1⟩ : ∃ i1, i1 = i + 1 := ⟨_, rfl⟩
   obtain ⟨i2, hi2⟩ : ∃ i2, i2 = i + 2 := ⟨_, rfl⟩
   have z0 := hcc i (by omega)
   have z1 := hcc i1 (by omega)
   have z2 := hcc i2 (by omega)
   have b0 := (b.getD i 0).toNat_lt
   have b1 := (b.getD i1 0).toNat_lt
   have b2 := (b.getD i2 0).toNat_lt
   generalize (b.getD i 0).toNat = x0 at z0 b0
   generalize (b.getD i1 0).toNat = x1 at z1 b1
   generalize (b.getD i2 0).toNat = x2 at z2 b2
   have j1 : (i : Int) + 1 = (i1 : Int) := by omega
   have j2 : (i : Int) + 2 = (i2 : Int) := by omega
   have l0 : (i : Int) < (n : Int) := by omega
   have l1 : (i1 : Int) < (n : Int) := by omega
   have l2 : (i2 : Int) < (n : Int) := by omega
   clear hi1 hi2
   clear hcc
   go_enter Tryz.func116, Tryz.ntmps116
   go_wp2_with fail
   go_region
   go_wp2_with fail
   have hnew := heap_alloc_new w (.cells #[.int .u8 x0, .int .u8 x1, .int .u8 x2] 159)
   have q0 := cell_of_row _ _ 0 _ _ _ hnew
   have q1 := cell_of_row _ _ 1 _ _ _ hnew
   have q2 := cell_of_row _ _ 2 _ _ _ hnew
   refine bodyPost_ret (v := .tuple #[thV x0 x1 x2, .bool true]) (by simp [results, Tryz.results116, go_sem, q0, q1, q2, thV]) rfl ⟨((Below.refl _ w).alloc (Nat.le_refl _) _).drew, x0, x1, x2, true, rfl, b0, b1, b2⟩
end Go.Proofs.YtkikhmdpcanidaaGreat
namespace Go.Proofs.YtkikhmdpcanidaaGreat
open Go.RowKit Go.Maps Go.ChangeMaps
theorem wf_u8 {x : Nat} (h : x < 256) : (Lit.int .u8 (x : Int)).wf = true := by
 simp [Lit.wf, IntKind.min, IntKind.max, IntKind.signed, IntKind.bits]; omega
theorem arrK : Go.WideMaps.ArrKey Tryz.prog 159 5 3 := ⟨Tryz.underlying159, by kernel_rfl, by kernel_rfl, by kernel_rfl⟩
theorem keyedT : Keyed Tryz.prog 159 := Keyed.of_law arrK.law
theorem typesT : ∃ m, Tryz.prog.types.size = m + 1 := ⟨Tryz.prog.types.size - 1, by kernel_rfl⟩
theorem lits_u8 {d x : Nat} (h : x < 256) : Tryz.prog.keyLits (d + 1) 5 [.int .u8 x] = some [.int .u8 x] := by
 unfold Program.keyLits
 rw [Tryz.underlying5]
 simp only
 simp [wf_u8 h]
theorem key_th {x y z : Nat} (hx : x < 256) (hy : y < 256) (hz : z < 256) : ∃ kl, keyOf Tryz.prog 159 (thV x y z) = some kl := by
 obtain ⟨m, hm⟩ := typesT
 have hk : Tryz.prog.keyType 159 = true := arrK.keyType ⟨m, hm⟩
 have hf : (thV x y z).formed Tryz.prog 159 = true := by
   unfold thV Value.formed
   rw [Tryz.underlying159]
   simp only
   rw [show Tryz.prog.cellsOf 159 = 3 from arrK.size]; rfl
 have hl : Tryz.prog.keyLits (Tryz.prog.types.size + 1) 159 (thV x y z).cells.toList = some [.int .u8 x, .int .u8 y, .int .u8 z] := by
   have hc : (thV x y z).cells.toList = [.int .u8 x, .int .u8 y, .int .u8 z] := rfl
   rw [hm, hc]
   unfold Program.keyLits
   rw [Tryz.underlying159]
   simp only
   rw [if_pos (by rw [show Tryz.prog.cellsOf 159 = 3 from arrK.size]; rfl), show Tryz.prog.cellsOf 5 = 1 from arrK.one]
   have e : List.range 3 = [0, 1, 2] := rfl
   rw [e]
   simp [lits_u8 hx, lits_u8 hy, lits_u8 hz]
 refine ⟨.string (keyBytes [.int .u8 x, .int .u8 y, .int .u8 z]), ?_⟩
 unfold keyOf
 rw [Tryz.underlying159]
 simp only
 rw [hk, hf, hl]
 rfl
theorem zeroT (w : World) : (zeroValue 3).run Tryz.prog w = .ok (.int .i64 0) w := by kernel_rfl
def MapT (w : World) (mb n N : Nat) : Prop :=
 ∃ D : DataW Nat, w.ownsMap Tryz.prog 159 (plainElem Tryz.prog 3) mb n D ∧ IsMap D ∧ ∀ kl c, WideAt.IsKeyLit kl → D.atKey kl .nil = .lit (.int .i64 c) → 0 ≤ c ∧ c < N
theorem MapT.made (w : World) (N : Nat) : MapT (w.alloc (.map #[] 0)) w.heap.size 0 N :=
 ⟨.map [], World.ownsMap_made w _ _ _, isMap_empty, fun k c _ h => by simp [DataW.atKey] at h⟩
theorem MapT.lt {w : World} {mb n N : Nat} (h : MapT w mb n N) : mb < w.heap.size := by obtain ⟨D, h, -⟩ := h; exact h.lt
theorem MapT.mono {w : World} {mb n m N M : Nat} (h : MapT w mb n N) (hm : n ≤ m) (hN : N ≤ M) : MapT w mb m M := by
 obtain ⟨D, h, r, s⟩ := h
 exact ⟨D, h.mono hm, r, fun kl c h1 h2 => by have := s kl c h1 h2; omega⟩
theorem MapT.keep {w w' : World} {mb n N : Nat} (h : MapT w mb n N) (hb : w'.heap[mb]? = w.heap[mb]?) : MapT w' mb n N := by
 obtain ⟨D, ⟨es, clock, h1, h2⟩, r⟩ := h
 exact ⟨D, ⟨es, clock, hb.trans h1, h2⟩, r⟩
theorem MapT.look {w : World} {mb n N : Nat} (h : MapT w mb n N) {x y z : Nat} (hx : x < 256) (hy : y < 256) (hz : z < 256) :
   ∃ (c : Int) (is : Bool), (Instr.lookup 119 (.map (some mb)) (thV x y z) true).run Tryz.prog w = .ok (.tuple #[.int .i64 c, .bool is]) w ∧ (is = true → 0 ≤ c ∧ c < N) ∧ (is = false → c = 0) := by
 obtain ⟨D, ⟨es, clock, hb, F, hs, rfl⟩, hm, hD⟩ := h
 obtain ⟨kl, hk⟩ := key_th hx hy hz
 rcases Maps.fit_look true keyedT Tryz.underlying119 (zeroT w) hb F hk with ⟨hrun, -, h0⟩ | ⟨e0, u, -, -, hrun, hRv, h1, -⟩
 · exact ⟨0, false, by rw [hrun]; rfl, ⟨fun h => by simp at h, fun _ => rfl⟩⟩
 · obtain ⟨c, hv, hu⟩ := plainElem_int_inv Tryz.underlying3 hRv
   refine ⟨c, true, by rw [hrun, hv]; rfl, ⟨fun _ => hD kl c (keyedT.key hk) ?_, fun h => by simp at h⟩⟩
   rw [h1 .nil, hu.1]
theorem MapT.store {w : World} {mb n N : Nat} (h : MapT w mb n N) {x y z : Nat} (hx : x < 256) (hy : y < 256) (hz : z < 256) {i : Nat} (hi : i < N) (hN : N ≤ 1000000000) (hn : n < maxLen) :
   ∃ w', (Instr.mapUpdate 119 (.map (some mb)) (thV x y z) (.int .i64 i)).run Tryz.prog w = .ok () w' ∧ MapT w' mb (n + 1) N ∧ w.grownBy w' (some mb) ∧ w'.heap.size = w.heap.size := by
 obtain ⟨D, ho, hm, hD⟩ := h
 obtain ⟨kl, hk⟩ := key_th hx hy hz
 obtain ⟨es, clock, hb, F, hs, hDe⟩ := ho
 have hR : plainElem (H := Nat) Tryz.prog 3 (.int .i64 (i : Int)) = some (.lit (.int .i64 (i : Int)), []) := plainElem_int Tryz.underlying3 (by simp [Lit.wf, IntKind.min, IntKind.max, IntKind.signed, IntKind.bits]; omega)
 obtain ⟨es', clock', hrun, F', hput, _⟩ := Maps.fit_store (R' := plainElem Tryz.prog 3) keyedT Tryz.underlying119 hb F (Nat.lt_of_le_of_lt hs hn) (fun _ _ _ _ hz => hz) hk hR
 obtain ⟨w1, hrun1, ho1, hg1⟩ := World.ownsMap.update (R := plainElem Tryz.prog 3) ⟨es, clock, hb, F, hs, hDe⟩ keyedT Tryz.underlying119 hn hk hR
 have hw1 : w1 = setBlock w mb (.map es' clock') := by
   rw [hrun] at hrun1
   simp only [Result.ok.injEq] at hrun1
   exact hrun1.2.symm
 refine ⟨w1, hrun1, ⟨D.put kl (.lit (.int .i64 i)), ho1, hm.put _ _, fun kj c hj hc => ?_⟩, hg1, by rw [hw1]; simp [setBlock]⟩
 by_cases he : kj = kl
 · subst he
   rw [atKey_put_same hm hj] at hc
   cases hc
   omega
 · rw [atKey_put_other he] at hc
   exact hD kj c hj hc
structure FinQ (w : World) (fb pb mb : Nat) (a : Option Addr) (n cap cnt : Nat) (b : List UInt8) : Prop where
 c0 : w.cell? ⟨fb, 0, none⟩ = some (.slice a n cap)
 c1 : w.cell? ⟨fb, 1, none⟩ = some (.map (some mb))
 c2 : w.cell? ⟨fb, 2, none⟩ = some (.slice (some ⟨pb, 0, none⟩) n n)
 row : Row w 1 a n cap (b.map fun x => .int .u8 x.toNat)
 m : MapT w mb cnt n
 p : ∃ f : Nat → Int, w.heap[pb]? = some (.cells (fl n fun j => .int .i64 (f j)).toArray 3 (0, 0)) ∧ ∀ j, j < n → -1 ≤ f j ∧ f j < n
 pm : pb ≠ mb
 fp : fb ≠ pb
 fm : fb ≠ mb
 ap : ∀ x, a = some x → x.block ≠ pb ∧ x.block ≠ mb
theorem FinQ.plt {w : World} {fb pb mb : Nat} {a : Option Addr} {n cap cnt : Nat} {b : List UInt8} (h : FinQ w fb pb mb a n cap cnt b) : pb < w.heap.size := by
 obtain ⟨f, hf, -⟩ := h.p
 exact (Array.getElem?_eq_some_iff.1 hf).1
theorem FinQ.keeps {w w' : World} {fb pb mb : Nat} {a : Option Addr} {n cap cnt : Nat} {b : List UInt8} {S : Nat → Prop} (h : FinQ w fb pb mb a n cap cnt b) (hk : zaa S w w') (h1 : ¬ S fb) (h2 : ¬ S pb) (h3 : ¬ S mb) (h4 : ∀ x, a = some x → ¬ S x.block) : FinQ w' fb pb mb a n cap cnt b where
 c0 := hk.cell h.c0 h1
 c1 := hk.cell h.c1 h1
 c2 := hk.cell h.c2 h1
 row := h.row.keeps hk h4
 m := h.m.keep (hk.block _ h.m.lt h3)
 p := by
   obtain ⟨f, hf, r⟩ := h.p
   exact ⟨f, hk.obj hf h2, r⟩
 pm := h.pm
 fp := h.fp
 fm := h.fm
 ap := h.ap
theorem FinQ.below {w w' : World} {fb pb mb : Nat} {a : Option Addr} {n cap cnt : Nat} {b : List UInt8} (h : FinQ w fb pb mb a n cap cnt b) (hb : Below w.heap.size w w') : FinQ w' fb pb mb a n cap cnt b where
 c0 := cell?_keep hb h.c0
 c1 := cell?_keep hb h.c1
 c2 := cell?_keep hb h.c2
 row := h.row.mono hb
 m := h.m.keep (hb.block _ h.m.lt)
 p := by
   obtain ⟨f, hf, r⟩ := h.p
   exact ⟨f, zaU hb hf, r⟩
 pm := h.pm
 fp := h.fp
 fm := h.fm
 ap := h.ap
theorem FinQ.setP {w : World} {fb pb mb : Nat} {a : Option Addr} {n cap cnt : Nat} {b : List UInt8} (h : FinQ w fb pb mb a n cap cnt b) (i : Nat) (c : Int) (hc : -1 ≤ c ∧ c < n) : FinQ (w.setCell ⟨pb, i, none⟩ (.int .i64 c)) fb pb mb a n cap cnt b := by
 have hk : zaa (fun b => b = pb) w (w.setCell ⟨pb, i, none⟩ (.int .i64 c)) := (zaa.refl (fun b => b = pb) w).setCell (a := ⟨pb, i, none⟩) (.inl rfl) _
 exact {
   c0 := hk.cell h.c0 h.fp
   c1 := hk.cell h.c1 h.fp
   c2 := hk.cell h.c2 h.fp
   row := h.row.keeps hk fun x hx => (h.ap x hx).1
   m := h.m.keep (hk.block _ h.m.lt (Ne.symm h.pm))
   p := by
     obtain ⟨f, hf, r⟩ := h.p
     refine ⟨fun j => if j = i then c else f j, ?_, fun j hj => ?_⟩
     · rw [zaG hf]
       exact congrArg (fun x => some (Obj.cells (List.toArray x) _ _)) (zam fun j _ => by by_cases h0 : j = i <;> simp [h0])
     · by_cases h0 : j = i
       · simp only [h0, if_true]; exact hc
       · simp only [h0, if_false]; exact r j hj
   pm := h.pm
   fp := h.fp
   fm := h.fm
   ap := h.ap }
theorem FinQ.setM {w w' : World} {fb pb mb : Nat} {a : Option Addr} {n cap cnt : Nat} {b : List UInt8} (h : FinQ w fb pb mb a n cap cnt b) (hm : MapT w' mb (cnt + 1) n) (hk : zaa (fun b => b = mb) w w') : FinQ w' fb pb mb a n cap (cnt + 1) b where
 c0 := hk.cell h.c0 h.fm
 c1 := hk.cell h.c1 h.fm
 c2 := hk.cell h.c2 h.fm
 row := h.row.keeps hk fun x hx => (h.ap x hx).2
 m := hm
 p := by
   obtain ⟨f, hf, r⟩ := h.p
   exact ⟨f, hk.obj hf h.pm, r⟩
 pm := h.pm
 fp := h.fp
 fm := h.fm
 ap := h.ap
theorem FinQ.drew {w : World} {fb pb mb : Nat} {a : Option Addr} {n cap cnt : Nat} {b : List UInt8} (h : FinQ w fb pb mb a n cap cnt b) : FinQ w.drew fb pb mb a n cap cnt b :=
 h.keeps (S := fun _ => False) ⟨rfl, rfl, rfl, Nat.le_refl _, fun _ _ _ => rfl⟩ id id id fun _ _ => id
theorem zaa.drew {S : Nat → Prop} {w w' : World} (h : zaa S w w') : zaa S w w'.drew := ⟨h.os, h.tape, h.output, h.size, h.block⟩
theorem FinQ.more {w : World} {fb pb mb : Nat} {a : Option Addr} {n cap cnt m : Nat} {b : List UInt8} (h : FinQ w fb pb mb a n cap cnt b) (hm : cnt ≤ m) : FinQ w fb pb mb a n cap m b := { h with m := h.m.mono hm (Nat.le_refl _) }
def NoteEnd (w : World) (fb pb mb : Nat) (a : Option Addr) (n cap cnt : Nat) (b : List UInt8) (e : Ending) (w' : World) : Prop := e = .returned (.tuple #[]) ∧ FinQ w' fb pb mb a n cap (cnt + 1) b ∧ zaa (fun b => b = pb ∨ b = mb) w w'
theorem zaa.of_below2 {w w' : World} {S : Nat → Prop} (h : Below w.heap.size w w') : zaa S w w' := ⟨h.os, h.tape, h.output, h.size, fun b hb _ => h.block b hb⟩
theorem note_any {w : World} {fb pb mb : Nat} {a : Option Addr} {n cap cnt i : Nat} {b : List UInt8} (h : FinQ w fb pb mb a n cap cnt b) (hi : i < n) (hn : n ≤ 100000000) (hcnt : cnt ≤ 1000000000) :
   Calls Tryz.prog 86 #[.pointer (some ⟨fb, 0, none⟩), .int .i64 i] w (NoteEnd w fb pb mb a n cap cnt b) := by
 have HAT := Lib.hid (at_any h.row h.c0 (i := i) (by omega))
 have HQ := Lib.hid h
 clear h
 go_enter Tryz.func86, Tryz.ntmps86
 go_wp2_with fail
 refine HAT.out.mono ?_
 rintro e w1 ⟨hb, x, y, z, is, rfl, hx, hy, hz⟩
 unfold thV
 have hq1 := HQ.out.below hb
 have k1 : zaa (fun b => b = pb ∨ b = mb) w w1 := zaa.of_below2 hb
 have hbA := zai w1 (.cells #[.int .u8 x, .int .u8 y, .int .u8 z] 159)
 have HN := Lib.hid (show FinQ (w1.alloc (.cells #[.int .u8 x, .int .u8 y, .int .u8 z] 159)) fb pb mb a n cap cnt b ∧ zaa (fun b => b = pb ∨ b = mb) w (w1.alloc (.cells #[.int .u8 x, .int .u8 y, .int .u8 z] 159)) from ⟨hq1.below hbA, k1.alloc _⟩)
 have hnew := heap_alloc_new w1 (.cells #[.int .u8 x, .int .u8 y, .int .u8 z] 159)
 have hqb := hq1.plt
 have t0 := cell_of_row _ _ 0 _ _ _ hnew
 have t1 := cell_of_row _ _ 1 _ _ _ hnew
 have t2 := cell_of_row _ _ 2 _ _ _ hnew
 obtain ⟨tb, htb⟩ : ∃ tb, tb = w1.heap.size := ⟨_, rfl⟩
 rw [← htb] at t0 t1 t2 hqb
 simp at t0 t1 t2
 have HB := Lib.hid htb
 have hsz : tb < (w1.alloc (.cells #[.int .u8 x, .int .u8 y, .int .u8 z] 159)).heap.size := by rw [zac]; omega
 have hfp := HQ.out.fp
 have hptb : pb ≠ tb := by have := hq1.plt; omega
 have hftb : fb ≠ tb := by have : fb < w1.heap.size := World.block_lt_of_cell? w1 _ hq1.c0; omega
 have hmtb : mb ≠ tb := by have := hq1.m.lt; omega
 clear hnew hbA k1 hq1 htb hb
 go_upto_region 1 with fail
 generalize w1.alloc (.cells #[.int .u8 x, .int .u8 y, .int .u8 z] 159) = w2 at HN t0 t1 t2 hsz ⊢
 rw [← HB.out]
 obtain ⟨hq2, hk2⟩ := HN.out
 have d2 := hq2.c2
 obtain ⟨f, hpf, hf⟩ := hq2.p
 have p2 := zaj hpf i hi
 have p3 := zaM hpf i
 have HQ3 := Lib.hid (hq2.setP i (-1) ⟨by omega, by omega⟩)
 have HK3 := Lib.hid (hk2.setCell (a := ⟨pb, i, none⟩) (.inl (.inl rfl)) (.int .i64 (-1)))
 clear hq2 hk2 hpf hf HQ HN
 have hin : (i : Int) < (n : Int) := by omega
 go_upto_region 2 with fail
 have t03 : (w2.setCell ⟨pb, i, none⟩ (.int .i64 (-1))).cell? ⟨tb, 0, none⟩ = some (.int .u8 x) := by rw [← t0]; exact World.cell?_setCell_far _ _ _ _ hptb
 have t13 : (w2.setCell ⟨pb, i, none⟩ (.int .i64 (-1))).cell? ⟨tb, 1, none⟩ = some (.int .u8 y) := by rw [← t1]; exact World.cell?_setCell_far _ _ _ _ hptb
 have t23 : (w2.setCell ⟨pb, i, none⟩ (.int .i64 (-1))).cell? ⟨tb, 2, none⟩ = some (.int .u8 z) := by rw [← t2]; exact World.cell?_setCell_far _ _ _ _ hptb
 clear t0 t1 t2 d2 p2 p3
 generalize w2.setCell ⟨pb, i, none⟩ (.int .i64 (-1)) = w3 at HQ3 HK3 t03 t13 t23 ⊢
 cases is with
 | false =>
   go_wp2_with fail
   go_end0
   exact ⟨rfl, HQ3.out.more (by omega), HK3.out⟩
 | true =>
   have d1 := HQ3.out.c1
   have d2 := HQ3.out.c2
   obtain ⟨c, is, hrun, hc1, hc0⟩ := (HQ3.out.m.keep (w' := w3.drew) rfl).look hx hy hz
   unfold thV at hrun
   have HC1 := Lib.hid hc1
   have HC0 := Lib.hid hc0
   clear hc1 hc0
   go_wp2_with fail
   go_region
   have HEND := Lib.hid (show ∀ w4, FinQ w4 fb pb mb a n cap cnt b → zaa (fun b => b = pb ∨ b = mb) w w4 → ∃ w5, (Instr.mapUpdate 119 (.map (some mb)) (.agg #[.int .u8 x, .int .u8 y, .int .u8 z]) (.int .i64 i)).run Tryz.prog w4.drew = .ok () w5 ∧ NoteEnd w fb pb mb a n cap cnt b (.returned (.tuple #[])) w5 from by
     intro w4 hq hk
     obtain ⟨w5, hr, hm, hg, -⟩ := hq.drew.m.store hx hy hz hi (by omega) (by unfold maxLen; omega)
     have hk5 : zaa (fun b => b = mb) w4.drew w5 := zaa.of_grown hg fun k hk => by injection hk with hk; exact hk.symm
     exact ⟨w5, hr, rfl, hq.drew.setM hm hk5, hk.drew.trans hk5 fun b hb => .inl (.inr hb)⟩)
   cases is with
   | false =>
     obtain ⟨w5, hrun5, hend⟩ := HEND.out w3.drew HQ3.out.drew HK3.out.drew
     have HE5 := Lib.hid hend
     clear hrun hend
     go_wp2_with fail
     go_region
     go_end0
     exact HE5.out
   | true =>
     obtain ⟨f, hpf, hf⟩ := HQ3.out.drew.p
     have p2 := zaj hpf i hi
     have p3 := zaM hpf i
     have hcc := HC1.out rfl
     have hq4 := (HQ3.out.setP i c ⟨by omega, by omega⟩).drew
     have hk4 := (HK3.out.setCell (a := ⟨pb, i, none⟩) (.inl (.inl rfl)) (.int .i64 c)).drew
     obtain ⟨w5, hrun5, hend⟩ := HEND.out _ hq4 hk4
     have HE5 := Lib.hid hend
     clear hrun hend hq4 hk4 hpf hf hcc
     go_wp2_with fail
     go_region
     go_end0
     exact HE5.out
theorem tsize_any {w : World} (y l : Nat) (f : Int) (hl : l ≤ 100000) :
   Calls Tryz.prog 85 #[.agg #[.int .u8 y,   .int .i64 (l : Nat), .int .i64 f]] w fun e w' => e = .returned (.int .i64 ((max 1 l : Nat) : Int)) ∧ Below w.heap.size w w' := by
 have hb := zai w (.cells #[.int .u8 y, .int .i64 (l : Nat), .int .i64 f] 123)
 go_enter Tryz.func85, Tryz.ntmps85
 go_wp2_with fail
 · go_ret
   exact ⟨zaI (by omega), hb⟩
 · go_ret
   exact ⟨zaI (by omega), hb⟩
def RepOk (b : List UInt8) (i k : Nat) (far : Int) : Prop := (k = 0 ∧ far = 0) ∨ (0 < k ∧ zcI b i far k ∧ far ≤ 32768)
def zfj (w : World) (b : List UInt8) (i : Nat) (e : Ending) (w' : World) : Prop := Below w.heap.size w w' ∧ ∃ (k : Nat) (far : Int), e = .returned (.tuple #[.int .i64 k, .int .i64 far]) ∧ RepOk b i k far ∧ (0 < k → 3 ≤ k)
theorem best_any {w : World} {fb pb mb : Nat} {a : Option Addr} {n cap cnt i : Nat} {b : List UInt8} (h : FinQ w fb pb mb a n cap cnt b) (hi : i < n) (hn : n ≤ 100000000) :
   Calls Tryz.prog 84 #[.pointer (some ⟨fb, 0, none⟩), .int .i64 i] w (zfj w b i) := by
 have HAT := Lib.hid (at_any h.row h.c0 (i := i) (by omega))
 have HQ := Lib.hid h
 clear h
 go_enter Tryz.func84, Tryz.ntmps84
 go_wp2
 go_step3
 go_wp2_with fail
 refine HAT.out.mono ?_
 rintro e w1 ⟨hb, x, y, z, is, rfl, hx, hy, hz⟩
 unfold thV
 have hq1 := HQ.out.below hb
 have hbA := zai w1 (.cells #[.int .u8 x, .int .u8 y, .int .u8 z] 159)
 have HN := Lib.hid (show FinQ (w1.alloc (.cells #[.int .u8 x, .int .u8 y, .int .u8 z] 159)) fb pb mb a n cap cnt b ∧ Below w.heap.size w (w1.alloc (.cells #[.int .u8 x, .int .u8 y, .int .u8 z] 159)) from ⟨hq1.below hbA, hb.alloc hb.size _⟩)
 have hnew := heap_alloc_new w1 (.cells #[.int .u8 x, .int .u8 y, .int .u8 z] 159)
 have t0 := cell_of_row _ _ 0 _ _ _ hnew
 have t1 := cell_of_row _ _ 1 _ _ _ hnew
 have t2 := cell_of_row _ _ 2 _ _ _ hnew
 obtain ⟨tb, htb⟩ : ∃ tb, tb = w1.heap.size := ⟨_, rfl⟩
 rw [← htb] at t0 t1 t2
 simp at t0 t1 t2
 clear hnew hbA hq1 hb
 go_upto_region 3 with fail
 generalize w1.alloc (.cells #[.int .u8 x, .int .u8 y, .int .u8 z] 159) = w2 at HN t0 t1 t2 ⊢
 rw [← htb]
 clear htb
 have d1 := HN.out.1.c1
 obtain ⟨c, was, hrun, hc1, hc0⟩ := (HN.out.1.m.keep (w' := w2.drew) rfl).look hx hy hz
 unfold thV at hrun
 have HC1 := Lib.hid hc1
 clear hc1 hc0
 have HNO := Lib.hid (show ∀ q, zfj w b i (.returned (.tuple #[.int .i64 0, .int .i64 0])) (w2.drewN q) from fun q => ⟨HN.out.2.trans (zau (Below.refl _ _) q), 0, 0, rfl, .inl ⟨rfl, rfl⟩, fun h => by omega⟩)
 go_upto_region 4 with fail
 go_region
 by_cases hcase : is = true ∧ was = true
 case neg =>
   have hor : is = false ∨ was = false := by
     cases is <;> cases was <;> simp at hcase ⊢
   clear hrun
   rcases hor with rfl | rfl
   · go_wp2_with fail
     go_ret2
     exact HNO.out 1
   · cases is with
     | false =>
       go_wp2_with fail
       go_ret2
       exact HNO.out 1
     | true =>
       go_wp2_with fail
       go_ret2
       exact HNO.out 1
 obtain ⟨rfl, rfl⟩ := hcase
 have hcc := HC1.out rfl
 have HQ2 := Lib.hid HN.out.1.drew
 have HB2 := Lib.hid (show Below w.heap.size w w2.drew from HN.out.2.trans (zau (Below.refl _ _) 1))
 clear hrun HN HNO t0 t1 t2 d1 HAT HQ HC1
 generalize w2.drew = w3 at HQ2 HB2 ⊢
 have HE := Lib.hid (show ∀ (L : Nat) (F : Int) (W : World), Below w3.heap.size w3 W → RepOk b i L F → 3 ≤ L → zfj w b i (.returned (.tuple #[.int .i64 L, .int .i64 F])) W from fun L F W hW hr h3 => ⟨HB2.out.trans (hW.mono HB2.out.size), L, F, rfl, hr, fun _ => h3⟩)
 have HE0 := Lib.hid (show ∀ (W : World), Below w3.heap.size w3 W → zfj w b i (.returned (.tuple #[.int .i64 0, .int .i64 0])) W from fun W hW => ⟨HB2.out.trans (hW.mono HB2.out.size), 0, 0, rfl, .inl ⟨rfl, rfl⟩, fun h => by omega⟩)
 go_wp2_with fail
 go_step3
 go_wp2_with fail
 go_loopw [6, 7, 10, 12, 13] (fun vl vf vp vn vk wr => ∃ (p : Int) (m L : Nat) (F : Int), vp = .int .i64 p ∧ vn = .int .i64 m ∧ vl = .int .i64 L ∧ vf = .int .i64 F ∧ m ≤ 32 ∧ (-1 ≤ p ∧ p < n) ∧ L ≤ 258 ∧ Hid (RepOk b i L F) ∧ Hid (Below w3.heap.size w3 wr)) (fun _ _ _ vn _ _ => 32 - (intOf vn).toNat)
 case atStart => exact ⟨c, 0, 0, 0, rfl, rfl, rfl, rfl, by omega, by omega, by omega, Lib.hid (.inl ⟨rfl, rfl⟩), Lib.hid (Below.refl _ _)⟩
 case round =>
   obtain ⟨p, m, L, F, rfl, rfl, rfl, rfl, hm, hp, hL, HR, HW⟩ := hrel
   have hq := HQ2.out.below HW.out
   have e0 := hq.c0
   have e2 := hq.c2
   have HROW := Lib.hid hq.row
   have HP := Lib.hid hq.p
   clear hq
   by_cases c1 : 0 ≤ p
   case neg =>
     have d1 : decide (p ≥ 0) = false := decide_eq_false (by omega)
     have d1b : ¬ (0 ≤ p) := c1
     by_cases h3 : L < 3
     · have d3 : decide ((L : Int) < 3) = true := decide_eq_true (by omega)
       go_wp2_with fail
       try rw [Exit.noGoto_ret]
       go_ret2
       exact HE0.out _ HW.out
     · have d3 : decide ((L : Int) < 3) = false := decide_eq_false (by omega)
       go_wp2_with fail
       try rw [Exit.noGoto_ret]
       go_ret2
       exact HE.out _ _ _ HW.out HR.out (by omega)
   have d1 : decide (p ≥ 0) = true := decide_eq_true (by omega)
   by_cases c2 : (i : Int) - p ≤ 32768
   case neg =>
     have d2 : decide ((i : Int) - p ≤ 32768) = false := decide_eq_false (by omega)
     by_cases h3 : L < 3
     · have d3 : decide ((L : Int) < 3) = true := decide_eq_true (by omega)
       go_wp2_with fail
       try rw [Exit.noGoto_ret]
       go_ret2
       exact HE0.out _ HW.out
     · have d3 : decide ((L : Int) < 3) = false := decide_eq_false (by omega)
       go_wp2_with fail
       try rw [Exit.noGoto_ret]
       go_ret2
       exact HE.out _ _ _ HW.out HR.out (by omega)
   have d2 : decide ((i : Int) - p ≤ 32768) = true := decide_eq_true c2
   have HM := Lib.hid (match_any HROW.out i ((i : Int) - p) (by omega) (by omega))
   go_wp2_with fail
   refine HM.out.mono ?_
   rintro e wq ⟨k, rfl, ⟨q, rfl⟩, hmk⟩
   have HWq := Lib.hid (zau HW.out q)
   have HMK := Lib.hid hmk
   obtain ⟨f, hpf, hf⟩ := HP.out
   obtain ⟨pn, rfl⟩ : ∃ pn : Nat, p = pn := ⟨p.toNat, by omega⟩
   have g2 : (wr.drewN q).cell? ⟨pb, pn, none⟩ = some (.int .i64 (f pn)) := zaj (w := wr.drewN q) hpf pn (by omega)
   have e2q : (wr.drewN q).cell? ⟨fb, 2, none⟩ = some (.slice (some ⟨pb, 0, none⟩) n n) := e2
   have hfp := hf pn (by omega)
   have hpn : (pn : Int) < (n : Int) := by omega
   have hk258 : k ≤ 258 := hmk.1
   generalize f pn = fp at g2 hfp
   clear hmk hpf hf HM HP HROW HW e0 e2 d1 d2
   generalize wr.drewN q = w4 at HWq g2 e2q ⊢
   have hfar : (i : Int) - pn ≤ 32768 := c2
   have HF := Lib.hid (show ∀ K' : Nat, K' = k → L < k → RepOk b i k ((i : Int) - pn) from fun _ _ h => .inr ⟨by omega, HMK.out, hfar⟩)
   by_cases hkl : L < k
   · have dk : decide ((k : Int) > (L : Int)) = true := decide_eq_true (by omega)
     have dk2 : (L : Int) < (k : Int) := by omega
     have HR2 := Lib.hid (HF.out k rfl hkl)
     clear HF HMK HR c2 c1
     go_upto_region 12 with fail
     by_cases m32 : m = 32
     · have dm : ((m : Int) == 32) = true := by rw [m32]; rfl
       have dm2 : decide ((m : Int) = 32) = true := decide_eq_true (by omega)
       clear m32
       by_cases h3 : k < 3
       · have d3 : decide ((k : Int) < 3) = true := decide_eq_true (by omega)
         go_wp2_with fail
         try rw [Exit.noGoto_ret]
         go_ret2
         exact HE0.out _ HWq.out
       · have d3 : decide ((k : Int) < 3) = false := decide_eq_false (by omega)
         go_wp2_with fail
         try rw [Exit.noGoto_ret]
         go_ret2
         exact HE.out _ _ _ HWq.out HR2.out (by omega)
     have dm : ((m : Int) == 32) = false := by simp; omega
     have dm2 : decide ((m : Int) = 32) = false := decide_eq_false (by omega)
     by_cases l258 : k = 258
     · have dl : ((k : Int) == 258) = true := by rw [l258]; rfl
       have dl2 : decide ((k : Int) = 258) = true := decide_eq_true (by omega)
       have h3 : ¬ k < 3 := by omega
       have d3 : decide ((k : Int) < 3) = false := decide_eq_false (by omega)
       clear l258
       go_wp2_with fail
       try rw [Exit.noGoto_ret]
       go_ret2
       exact HE.out _ _ _ HWq.out HR2.out (by omega)
     have dl : ((k : Int) == 258) = false := by simp; omega
     have dl2 : decide ((k : Int) = 258) = false := decide_eq_false (by omega)
     go_wp2_with fail
     go_roundw
     case rel => exact ⟨fp, m + 1, k, _, rfl, by go_num, rfl, rfl, by omega, hfp, hk258, HR2, HWq⟩
     case measure => simp [intOf]; omega
   · have dk : decide ((k : Int) > (L : Int)) = false := decide_eq_false (by omega)
     have dk2 : ¬ (L : Int) < (k : Int) := by omega
     have HR2 := HR
     clear HF HMK HR c2 c1
     go_upto_region 12 with fail
     by_cases m32 : m = 32
     · have dm : ((m : Int) == 32) = true := by rw [m32]; rfl
       have dm2 : decide ((m : Int) = 32) = true := decide_eq_true (by omega)
       clear m32
       by_cases h3 : L < 3
       · have d3 : decide ((L : Int) < 3) = true := decide_eq_true (by omega)
         go_wp2_with fail
         try rw [Exit.noGoto_ret]
         go_ret2
         exact HE0.out _ HWq.out
       · have d3 : decide ((L : Int) < 3) = false := decide_eq_false (by omega)
         go_wp2_with fail
         try rw [Exit.noGoto_ret]
         go_ret2
         exact HE.out _ _ _ HWq.out HR2.out (by omega)
     have dm : ((m : Int) == 32) = false := by simp; omega
     have dm2 : decide ((m : Int) = 32) = false := decide_eq_false (by omega)
     by_cases l258 : L = 258
     · have dl : ((L : Int) == 258) = true := by rw [l258]; rfl
       have dl2 : decide ((L : Int) = 258) = true := decide_eq_true (by omega)
       have h3 : ¬ L < 3 := by omega
       have d3 : decide ((L : Int) < 3) = false := decide_eq_false (by omega)
       clear l258
       go_wp2_with fail
       try rw [Exit.noGoto_ret]
       go_ret2
       exact HE.out _ _ _ HWq.out HR2.out (by omega)
     have dl : ((L : Int) == 258) = false := by simp; omega
     have dl2 : decide ((L : Int) = 258) = false := decide_eq_false (by omega)
     go_wp2_with fail
     go_roundw
     case rel => exact ⟨fp, m + 1, L, _, rfl, by go_num, rfl, rfl, by omega, hfp, hL, HR2, HWq⟩
     case measure => simp [intOf]; omega
theorem heap_made {w : World} {base bo n : Nat} (h : w.ownsRow base 3 1 (.slice (some ⟨bo, 0, none⟩) n n) n (madeCells #[.int .i64 0] (n * 1)).toList) : w.heap[bo]? = some (.cells (fl n fun _ => .int .i64 0).toArray 3 (0, 0)) := by
 rcases h.2 with ⟨h1, -⟩ | ⟨g, cap, cur, hv, -, hg, -, -, hcs, htk⟩
 · cases h1
 · simp only [Value.slice.injEq, Option.some.injEq, Addr.mk.injEq] at hv
   obtain ⟨⟨rfl, -, -⟩, -, rfl⟩ := hv
   rw [hg, ← zcl]
   rw [Nat.mul_one] at hcs htk
   rw [List.take_of_length_le (by rw [Array.length_toList, hcs]; exact Nat.le_refl _)] at htk
   rw [toList_madeCells_one] at htk
   rw [← htk]
theorem ETokL : zcW Tryz.prog 89 123 (.agg #[.int .u8 0, .int .i64 0, .int .i64 0]) 3 24 := ⟨Tryz.underlying89, by kernel_rfl, rfl, by omega⟩
theorem ETInt : zcW Tryz.prog 34 3 (.int .i64 0) 1 8 := ⟨Tryz.underlying34, by kernel_rfl, rfl, by omega⟩
theorem row_newT (w : World) (x y z : Value) (e : TypeId) : Row (w.alloc (.cells #[x, y, z] e)) 3 (some ⟨w.heap.size, 0, none⟩) 1 1 [x, y, z] :=
 ⟨rfl, Nat.le_refl _, by simp [maxLen], fun h => (by cases h), fun _ => ⟨w.heap.size, 0, rfl, by rw [zac]; omega, fun j u hj => by
   rw [Nat.zero_add, cell_of_row _ _ _ _ _ _ (zaf _ rfl)]; simpa using hj⟩⟩
theorem one3 {x y z : Value} (hx : x.oneCell' = true) (hy : y.oneCell' = true) (hz : z.oneCell' = true) : ∀ u ∈ [x, y, z], u.oneCell' = true := by
 intro u hu
 simp at hu
 rcases hu with rfl | rfl | rfl
 · exact hx
 · exact hy
 · exact hz
theorem cells3 {w : World} {g : Nat} {x y z : Value} {e : TypeId} (h : w.heap[g]? = some (.cells #[x, y, z] e (0, 0))) : (w.cell? ⟨g, 0, none⟩ = some x ∧ w.cell? ⟨g, 1, none⟩ = some y ∧ w.cell? ⟨g, 2, none⟩ = some z) ∧ ∀ j, w.frozen? ⟨g, j, none⟩ = false :=
 ⟨⟨by rw [cell_of_row w g 0 _ _ _ h]; rfl, by rw [cell_of_row w g 1 _ _ _ h]; rfl, by rw [cell_of_row w g 2 _ _ _ h]; rfl⟩, fun j => frozen_of_row w g j _ _ h⟩
def TokEnd (b : List UInt8) (w : World) (e : Ending) (w' : World) : Prop :=
 Below w.heap.size w w' ∧ ∃ (ts : List LT) (a : Option Addr) (cap : Nat), e = .returned (.slice a ts.length cap) ∧ Row w' 3 a ts.length cap (tokV ts) ∧ (∀ x, a = some x → w.heap.size ≤ x.block ∧ x.block < w'.heap.size) ∧ expT ts [] = some b ∧ ts.length ≤ b.length
def TokI (w wr : World) (B1 fb pb mb : Nat) (a : Option Addr) (n cap i : Nat) (b : List UInt8) (v : Value) : Prop :=
 ∃ ts : List LT, zcb b i ts ∧ FinQ wr fb pb mb a n cap i b ∧ Below w.heap.size w wr ∧ wr.ownsRow B1 123 3 v ts.length (tokV ts) ∧ B1 ≤ wr.heap.size
theorem zdX {w : World} {a : Option Addr} {n cap : Nat} {b : List UInt8} (hr : Row w 1 a n cap (b.map fun x => .int .u8 x.toNat)) (ha : ∀ x, a = some x → x.block < w.heap.size) (hn : n ≤ 100000) :
   Calls Tryz.prog 54 #[.slice a n cap] w (TokEnd b w) := by
 have hl : b.length = n := by have := hr.1; simpa using this
 have hcapm := hr.2.2.1
 have hcapn := hr.2.1
 unfold maxLen at hcapm
 have hmm := @run_makeMap Tryz.prog
 have hd0 : decide ((n : Int) > 16777216) = false := decide_eq_false (by omega)
 have HR := Lib.hid hr
 have HA := Lib.hid ha
 have HL := Lib.hid hl
 clear hr ha hl
 go_enter Tryz.func54, Tryz.ntmps54
 go_upto_region 4 with (at_make; refine zc3 ETInt rfl (.tmp 15) (.tmp 15) rfl .i64 .i64 _ _ n rfl rfl rfl rfl (by omega) (by unfold maxLen; omega) ?_; intro w1 hown hb1; have HM := Lib.hid (heap_made hown); have HB1 := Lib.hid hb1; clear hown hb1)
 obtain ⟨fb, hfb⟩ : ∃ fb, fb = w1.heap.size := ⟨_, rfl⟩
 obtain ⟨mb, hmb⟩ : ∃ mb, mb = w.heap.size := ⟨_, rfl⟩
 have hb1 := HB1.out
 have hs1 := (Array.getElem?_eq_some_iff.1 HM.out).1
 rw [zac] at hs1
 have hbw : Below w.heap.size w w1 := (zai w _).trans (hb1.mono (by rw [zac]; omega))
 have hMb : MapT w1 mb 0 n := by
   have h := MapT.made w n
   rw [← hmb] at h
   exact h.keep (hb1.block mb (by rw [zac]; omega))
 have hbn : ∀ W : World, Below w.heap.size w W → Row W 1 a n cap (b.map fun x => .int .u8 x.toNat) := fun W hW => HR.out.mono hW
 have hQ : FinQ (w1.alloc (.cells #[.slice a n cap, .map (some mb), .slice (some ⟨mb + 1, 0, none⟩) n n] 121)) fb (mb + 1) mb a n cap 0 b := {
   c0 := by rw [hfb, cell_of_row _ _ 0 _ _ _ (heap_alloc_new w1 _)]; rfl
   c1 := by rw [hfb, cell_of_row _ _ 1 _ _ _ (heap_alloc_new w1 _)]; rfl
   c2 := by rw [hfb, cell_of_row _ _ 2 _ _ _ (heap_alloc_new w1 _)]; rfl
   row := hbn _ (hbw.alloc hbw.size _)
   m := hMb.keep ((zai w1 _).block mb (by omega))
   p := ⟨fun _ => 0, zaE _ (by have h := HM.out; rw [zac, ← hmb] at h; exact h), fun j hj => ⟨by show (-1 : Int) ≤ 0; omega, by show (0 : Int) < n; omega⟩⟩
   pm := by omega
   fp := by omega
   fm := by omega
   ap := fun x hx => by have := HA.out x hx; omega }
 have HI0 := Lib.hid (show TokI w (w1.alloc (.cells #[.slice a n cap, .map (some mb), .slice (some ⟨mb + 1, 0, none⟩) n n] 121)) (fb + 1) fb (mb + 1) mb a n cap 0 b (.slice none 0 0) from
   ⟨[], zcb.zero b, hQ, hbw.alloc hbw.size _, World.ownsRow_nil _ _ _ _, by rw [zac]; omega⟩)
 have hlay : mb < fb ∧ mb + 1 < fb ∧ w.heap.size ≤ mb ∧ w.heap.size ≤ mb + 1 := by omega
 clear hb1 hs1 hbw hMb hbn hQ HM HB1 hmm
 rw [← hfb, ← hmb]
 generalize w1.alloc (.cells #[.slice a n cap, .map (some mb), .slice (some ⟨mb + 1, 0, none⟩) n n] 121) = w2 at HI0 ⊢
 clear hfb
 have HMB := Lib.hid hmb
 clear hmb
 generalize mb + 1 = pb at HI0 hlay ⊢
 go_wp2_with fail
 go_loopw [4, 5] (fun v vi wr => ∃ i : Nat, vi = .int .i64 i ∧ i ≤ n ∧ Hid (TokI w wr (fb + 1) fb pb mb a n cap i b v)) (fun _ vi _ => n - (intOf vi).toNat)
 case atStart => exact ⟨0, rfl, Nat.zero_le _, HI0⟩
 case round =>
   obtain ⟨i, rfl, hi, HI⟩ := hrel
   by_cases hlt : i < n
   case neg =>
     have hd1 : decide ((i : Int) < (n : Int)) = false := decide_eq_false (by omega)
     go_wp2_with fail
     have hin : i = n := by omega
     subst hin
     obtain ⟨ts, h1, h2, h3, h4, -⟩ := HI.out
     obtain ⟨aS, cS, rfl, hrow, haS⟩ := Row.of_owns h4
     have HEND := Lib.hid (show TokEnd b w (.returned (.slice aS ts.length cS)) wr from by
       have hts := h1.len (Nat.le_of_eq HL.out.symm)
       refine ⟨h3, ts, aS, cS, rfl, hrow, fun x hx => ⟨by have := haS x hx; omega, ?_⟩, ?_, by rw [HL.out]; exact hts⟩
       · have := h4.lt x.block (by rw [hx]; rfl)
         exact this.2
       · have h := h1
         unfold zcb at h
         rw [List.take_of_length_le (Nat.le_of_eq HL.out)] at h
         exact h)
     clear h1 h2 h3 h4 hrow haS HI
     go_wp2_with fail
     go_ret
     exact HEND.out
   have hd1 : decide ((i : Int) < (n : Int)) = true := decide_eq_true (by omega)
   have hin : (i : Int) < (n : Int) := by omega
   obtain ⟨ts, h1, h2, h3, h4, h5⟩ := HI.out
   obtain ⟨bb, off, rfl, -, hcc⟩ := h2.row.at 0 0 (by omega)
   have z0 := hcc i hlt
   have HTT := Lib.hid h1
   have HX := Lib.hid (show ∃ u : UInt8, u = b.getD i 0 from ⟨_, rfl⟩)
   have hx256 := (b.getD i 0).toNat_lt
   obtain ⟨x, hx⟩ : ∃ x, x = (b.getD i 0).toNat := ⟨_, rfl⟩
   have HXX := Lib.hid hx
   rw [← hx] at z0 hx256
   clear hx hcc HX
   have hbA := zai wr (.cells #[.int .u8 x, .int .i64 0, .int .i64 0] 123)
   have HS3 := Lib.hid (show FinQ (wr.alloc (.cells #[.int .u8 x, .int .i64 0, .int .i64 0] 123)) fb pb mb (some ⟨bb, off, none⟩) n cap i b ∧ Below w.heap.size w (wr.alloc (.cells #[.int .u8 x, .int .i64 0, .int .i64 0] 123)) ∧ (wr.alloc (.cells #[.int .u8 x, .int .i64 0, .int .i64 0] 123)).ownsRow (fb + 1) 123 3 u4 ts.length (tokV ts) from
     ⟨h2.below hbA, h3.alloc h3.size _, zag h4 hbA⟩)
   have HBK := Lib.hid (heap_alloc_new wr (.cells #[.int .u8 x, .int .i64 0, .int .i64 0] 123))
   have HOB := Lib.hid (show ∀ q, u4.ownBlock = some q → fb + 1 ≤ q ∧ q < wr.heap.size from h4.lt)
   have hs3 := zac wr (.cells #[.int .u8 x, .int .i64 0, .int .i64 0] 123)
   have HBEST := Lib.hid (best_any HS3.out.1 hlt (by omega))
   clear h1 h2 h3 h4 HI hbA
   go_upto_region 8 with fail
   obtain ⟨tb, htb⟩ : ∃ tb, tb = wr.heap.size := ⟨_, rfl⟩
   rw [← htb] at hs3 HBK HOB h5 ⊢
   have HTB := Lib.hid htb
   clear htb z0
   generalize wr.alloc (.cells #[.int .u8 x, .int .i64 0, .int .i64 0] 123) = w3 at HS3 HBK hs3 HBEST ⊢
   go_upto_region 9 with fail
   refine HBEST.out.mono ?_
   rintro e w4 ⟨hb4, kk, far, rfl, hrep, h3k⟩
   have hq4 := HS3.out.1.below hb4
   have hbw4 : Below w.heap.size w w4 := HS3.out.2.1.trans (hb4.mono HS3.out.2.1.size)
   have ho4 := zag HS3.out.2.2 hb4
   have hblk4 := zaU hb4 HBK.out
   have hs4 := hb4.size
   clear hb4 HBEST HS3 HBK
   by_cases hk0 : kk = 0
   · subst hk0
     obtain ⟨⟨T0, T1, T2⟩, -⟩ := cells3 hblk4
     have dk0 : decide ((0 : Int) > 0) = false := by decide
     have HQ6 := Lib.hid hq4
     have HB6 := Lib.hid hbw4
     have HO6 := Lib.hid ho4
     have hs6 : tb + 1 ≤ w4.heap.size := by omega
     have hiM : i + max 1 0 ≤ n := by omega
     have HNEW := Lib.hid (show ∃ t : LT, x = t.b.toNat ∧ 0 = t.len ∧ (0 : Int) = t.far ∧ zcb b (i + max 1 0) (ts ++ [t]) from ⟨⟨b.getD i 0, 0, 0⟩, HXX.out, rfl, rfl, HTT.out.lit (by rw [HL.out]; exact hlt)⟩)
     have hLk : (0 : Nat) ≤ 258 := by omega
     obtain ⟨X, hX⟩ : ∃ X, X = x := ⟨_, rfl⟩
     obtain ⟨Lk, hLk0⟩ : ∃ Lk : Nat, Lk = 0 := ⟨_, rfl⟩
     obtain ⟨F, hF⟩ : ∃ F : Int, F = 0 := ⟨_, rfl⟩
     rw [← hX] at T0 HNEW
     have T1b : w4.cell? ⟨tb, 1, none⟩ = some (.int .i64 (Lk : Nat)) := by rw [hLk0]; exact T1
     rw [← hF] at T2
     rw [← hLk0] at HNEW hiM hLk
     rw [← hF] at HNEW
     clear T1 hX hF hLk0 hq4 hbw4 ho4 hblk4 hrep h3k
     have T1 := T1b
     clear T1b
     go_upto_region 11 with fail
     generalize w4 = w6 at HQ6 HB6 HO6 T0 T1 T2 hs6 hs4 ⊢
     have hM1 : 1 ≤ max 1 Lk := by omega
     have HSZ := Lib.hid (tsize_any (w := w6) X Lk F (by omega))
     obtain ⟨M, hM⟩ : ∃ M, M = max 1 Lk := ⟨_, rfl⟩
     rw [← hM] at hiM hM1 HNEW HSZ
     have HMM := Lib.hid hM
     clear hM
     go_wp2_with fail
     refine HSZ.out.mono ?_
     rintro e w7 ⟨rfl, hb7⟩
     have HQ7 := Lib.hid (HQ6.out.below hb7)
     have HB7 := Lib.hid (show Below w.heap.size w w7 from HB6.out.trans (hb7.mono HB6.out.size))
     have HO7 := Lib.hid (zag HO6.out hb7)
     have T07 := cell?_keep hb7 T0
     have T17 := cell?_keep hb7 T1
     have T27 := cell?_keep hb7 T2
     have hS7 := hb7.size
     have hmn : 0 ≤ (M : Int) := by omega
     clear hb7 HQ6 HB6 HO6 T0 T1 T2 HSZ
     go_wp2_with fail
     go_loopw [5, 41] (fun vi vk wk => ∃ k : Nat, vk = .int .i64 k ∧ vi = .int .i64 (i + k : Nat) ∧ k ≤ M ∧ Hid (FinQ wk fb pb mb (some ⟨bb, off, none⟩) n cap (i + k) b) ∧ Hid (zaa (fun b => b = pb ∨ b = mb) w7 wk)) (fun _ vk _ => M - (intOf vk).toNat)
     case atStart => exact ⟨0, rfl, rfl, Nat.zero_le _, HQ7, Lib.hid (zaa.refl _ _)⟩
     case round =>
       obtain ⟨k, rfl, rfl, hk, HQk, HKk⟩ := hrel
       by_cases hkM : k < M
       case neg =>
         have hkM2 : k = M := by omega
         have dk : decide ((k : Int) < (M : Int)) = false := decide_eq_false (by omega)
         obtain ⟨i2, hi2⟩ : ∃ i2, i2 = i + M := ⟨_, rfl⟩
         subst hkM2
         rw [← hi2] at HQk hiM HNEW ⊢
         have hk7 := HKk.out
         have hs8 := hk7.size
         have HO8 := Lib.hid (zan HO7.out hk7 (fun q hq hc => by have := (HO7.out.lt q hq).1; omega))
         have HB8 := Lib.hid (show Below w.heap.size w wr from HB7.out.trans (hk7.below (B := w.heap.size) (by omega) (fun q hq => by omega)))
         have T08 := hk7.cell T07 (by omega)
         have T18 := hk7.cell T17 (by omega)
         have T28 := hk7.cell T27 (by omega)
         have htl : ts.length ≤ 100000 := by have := HTT.out.len (i := i) (by rw [HL.out]; omega); omega
         have HVR := Lib.hid HO8.out.lt
         have HS8 := Lib.hid hs8
         have HS7 := Lib.hid hS7
         clear hk7 hs8 T07 T17 T27 HQ7 HB7 HO7 HKk
         go_wp2_with (at_builtin; refine zal ETokL rfl (.tmp 49) (.tmp 51) rfl (fb + 1) _ ts.length _ rfl (HO8.out.alloc _) _ 1 1 _ rfl (row_newT _ _ _ _ _) (one3 rfl rfl rfl) (by unfold maxLen; omega) (by omega) (by rw [zac]; have := HS8.out; have := HS7.out; omega) ?_; intro v' w9 hO9 hg9 hnil9; have HO9 := Lib.hid hO9; have HG9 := Lib.hid hg9; clear hO9 hg9 hnil9)
         have hg9 := HG9.out
         have hs9 := hg9.size
         rw [zac] at hs9
         have hk9 : zaa (fun q => fb + 1 ≤ q) wr w9 := ((zaa.refl _ wr).alloc _).grown hg9 (fun q hq => .inl (HVR.out q hq).1)
         have HFIN := Lib.hid (show TokI w w9 (fb + 1) fb pb mb (some ⟨bb, off, none⟩) n cap i2 b v' from by
           obtain ⟨t, ht1, ht2, ht3, ht4⟩ := HNEW.out
           refine ⟨ts ++ [t], ht4, HQk.out.keeps hk9 (by omega) (by omega) (by omega) (fun q hq => by have := HA.out q hq; have := HMB.out; omega), HB8.out.trans ((hk9.below (B := fb + 1) (by have := HS8.out; have := HS7.out; omega) (fun q hq => hq)).mono (by have := HMB.out; omega)), ?_, by have := HS8.out; have := HS7.out; omega⟩
           have h := HO9.out
           rw [zfc, List.length_append]
           rw [ht1, ht2, ht3] at h
           exact h)
         clear hg9 hs9 hk9 HO9 HG9 HO8 HB8 HVR HNEW
         go_wp2_with fail
         go_roundw
         case rel => exact ⟨i2, by rw [hi2, Int.natCast_add], hiM, HFIN⟩
         case measure => simp [intOf]; omega
       have dk : decide ((k : Int) < (M : Int)) = true := decide_eq_true (by omega)
       have HNT := Lib.hid (note_any (i := i + k) HQk.out (by omega) (by omega) (by omega))
       go_wp2_with fail
       refine HNT.out.mono ?_
       rintro e w8 ⟨rfl, hq8, hk8⟩
       have HQ8 := Lib.hid hq8
       have HK8 := Lib.hid (HKk.out.trans hk8 fun q hq => .inl hq)
       clear hq8 hk8 HNT HKk HQk
       go_wp2_with fail
       go_roundw
       case rel => exact ⟨k + 1, by go_num, by go_num, by omega, HQ8, HK8⟩
       case measure => simp [intOf]; omega
   · obtain ⟨⟨T0, T1, T2⟩, hfz⟩ := cells3 hblk4
     have f0 := hfz 0
     have f1 := hfz 1
     have f2 := hfz 2
     have dk0 : decide ((kk : Int) > 0) = true := decide_eq_true (by omega)
     rcases hrep with ⟨h0, -⟩ | ⟨hpos, hmo, hf32⟩
     · exact absurd h0 hk0
     obtain ⟨hk258, hmm2⟩ := hmo
     obtain ⟨hf1, hfi, hkn, hmt⟩ := hmm2 hpos
     obtain ⟨F, rfl⟩ : ∃ F : Nat, far = F := ⟨far.toNat, by omega⟩
     have hiM : i + max 1 kk ≤ n := by have := HL.out; omega
     have HNEW := Lib.hid (show ∃ t : LT, 0 = t.b.toNat ∧ kk = t.len ∧ (F : Int) = t.far ∧ zcb b (i + max 1 kk) (ts ++ [t]) from ⟨⟨0, kk, F⟩, rfl, rfl, rfl, by
       rw [show max 1 kk = kk from by omega]
       exact HTT.out.rep (h3k hpos) hk258 (by omega) (by omega) (by omega) hkn (fun j hj => by have h := hmt j hj; simpa using h)⟩)
     have hdk : (0 : Int) < (kk : Int) := by omega
     clear hmm2 hmt hf1 hfi hf32 h3k hkn hfz
     have HQ4 := Lib.hid hq4
     have HB4 := Lib.hid hbw4
     have HO4 := Lib.hid ho4
     have HBL4 := Lib.hid hblk4
     clear hq4 hbw4 ho4 hblk4
     go_upto_region 11 with fail
     have hk6 : zaa (fun q => q = tb) w4 (((w4.setCell ⟨tb, 0, none⟩ (.int .u8 0)).setCell ⟨tb, 1, none⟩ (.int .i64 (kk : Nat))).setCell ⟨tb, 2, none⟩ (.int .i64 (F : Nat))) := (((zaa.refl (fun q => q = tb) w4).setCell (a := ⟨tb, 0, none⟩) (.inl rfl) _).setCell (a := ⟨tb, 1, none⟩) (.inl rfl) _).setCell (a := ⟨tb, 2, none⟩) (.inl rfl) _
     have e0 : (((w4.setCell ⟨tb, 0, none⟩ (.int .u8 0)).setCell ⟨tb, 1, none⟩ (.int .i64 (kk : Nat))).setCell ⟨tb, 2, none⟩ (.int .i64 (F : Nat))).cell? ⟨tb, 0, none⟩ = some (.int .u8 0) := by
       rw [World.cell?_setCell_other _ _ _ _ (by simp), World.cell?_setCell_other _ _ _ _ (by simp)]
       exact World.cell?_setCell_same _ _ _ T0
     have e1 : (((w4.setCell ⟨tb, 0, none⟩ (.int .u8 0)).setCell ⟨tb, 1, none⟩ (.int .i64 (kk : Nat))).setCell ⟨tb, 2, none⟩ (.int .i64 (F : Nat))).cell? ⟨tb, 1, none⟩ = some (.int .i64 (kk : Nat)) := by
       rw [World.cell?_setCell_other _ _ _ _ (by simp)]
       exact World.cell?_setCell_same _ _ _ (u := .int .i64 0) (by rw [World.cell?_setCell_other _ _ _ _ (by simp)]; exact T1)
     have e2 : (((w4.setCell ⟨tb, 0, none⟩ (.int .u8 0)).setCell ⟨tb, 1, none⟩ (.int .i64 (kk : Nat))).setCell ⟨tb, 2, none⟩ (.int .i64 (F : Nat))).cell? ⟨tb, 2, none⟩ = some (.int .i64 (F : Nat)) :=
       World.cell?_setCell_same _ _ _ (u := .int .i64 0) (by rw [World.cell?_setCell_other _ _ _ _ (by simp), World.cell?_setCell_other _ _ _ _ (by simp)]; exact T2)
     generalize (((w4.setCell ⟨tb, 0, none⟩ (.int .u8 0)).setCell ⟨tb, 1, none⟩ (.int .i64 (kk : Nat))).setCell ⟨tb, 2, none⟩ (.int .i64 (F : Nat))) = w6 at hk6 e0 e1 e2 ⊢
     have hs6 := hk6.size
     have HQ6 := Lib.hid (HQ4.out.keeps hk6 (by omega) (by omega) (by omega) (fun q hq => by have := HA.out q hq; have := HMB.out; omega))
     have HB6 := Lib.hid (show Below w.heap.size w w6 from HB4.out.trans ((hk6.below (B := tb) (by omega) (fun q hq => by omega)).mono (by have := HMB.out; omega)))
     have HO6 := Lib.hid (zan HO4.out hk6 (fun q hq hc => by have := (HOB.out q hq).2; omega))
     clear hk6 T0 T1 T2 f0 f1 f2 HQ4 HB4 HO4 HBL4 hk0 hpos dk0 hdk
     have hLk := hk258
     have T0 := e0
     have T1 := e1
     have T2 := e2
     clear e0 e1 e2 hk258
     obtain ⟨X, hX⟩ : ∃ X : Nat, X = 0 := ⟨_, rfl⟩
     have T0b : w6.cell? ⟨tb, 0, none⟩ = some (.int .u8 (X : Nat)) := by rw [hX]; exact T0
     have HNEW2 := Lib.hid (show ∃ t : LT, X = t.b.toNat ∧ kk = t.len ∧ (F : Int) = t.far ∧ zcb b (i + max 1 kk) (ts ++ [t]) from by rw [hX]; exact HNEW.out)
     clear T0 HNEW hX
     have T0 := T0b
     have HNEW := HNEW2
     clear T0b HNEW2
     generalize (F : Int) = F2 at T2 HNEW ⊢
     have hM1 : 1 ≤ max 1 kk := by omega
     have HSZ := Lib.hid (tsize_any (w := w6) X kk F2 (by omega))
     obtain ⟨M, hM⟩ : ∃ M, M = max 1 kk := ⟨_, rfl⟩
     rw [← hM] at hiM hM1 HNEW HSZ
     have HMM := Lib.hid hM
     clear hM
     go_wp2_with fail
     refine HSZ.out.mono ?_
     rintro e w7 ⟨rfl, hb7⟩
     have HQ7 := Lib.hid (HQ6.out.below hb7)
     have HB7 := Lib.hid (show Below w.heap.size w w7 from HB6.out.trans (hb7.mono HB6.out.size))
     have HO7 := Lib.hid (zag HO6.out hb7)
     have T07 := cell?_keep hb7 T0
     have T17 := cell?_keep hb7 T1
     have T27 := cell?_keep hb7 T2
     have hS7 := hb7.size
     have hmn : 0 ≤ (M : Int) := by omega
     clear hb7 HQ6 HB6 HO6 T0 T1 T2 HSZ
     go_wp2_with fail
     go_loopw [5, 41] (fun vi vk wk => ∃ k : Nat, vk = .int .i64 k ∧ vi = .int .i64 (i + k : Nat) ∧ k ≤ M ∧ Hid (FinQ wk fb pb mb (some ⟨bb, off, none⟩) n cap (i + k) b) ∧ Hid (zaa (fun b => b = pb ∨ b = mb) w7 wk)) (fun _ vk _ => M - (intOf vk).toNat)
     case atStart => exact ⟨0, rfl, rfl, Nat.zero_le _, HQ7, Lib.hid (zaa.refl _ _)⟩
     case round =>
       obtain ⟨k, rfl, rfl, hk, HQk, HKk⟩ := hrel
       by_cases hkM : k < M
       case neg =>
         have hkM2 : k = M := by omega
         have dk : decide ((k : Int) < (M : Int)) = false := decide_eq_false (by omega)
         obtain ⟨i2, hi2⟩ : ∃ i2, i2 = i + M := ⟨_, rfl⟩
         subst hkM2
         rw [← hi2] at HQk hiM HNEW ⊢
         have hk7 := HKk.out
         have hs8 := hk7.size
         have HO8 := Lib.hid (zan HO7.out hk7 (fun q hq hc => by have := (HO7.out.lt q hq).1; omega))
         have HB8 := Lib.hid (show Below w.heap.size w wr from HB7.out.trans (hk7.below (B := w.heap.size) (by omega) (fun q hq => by omega)))
         have T08 := hk7.cell T07 (by omega)
         have T18 := hk7.cell T17 (by omega)
         have T28 := hk7.cell T27 (by omega)
         have htl : ts.length ≤ 100000 := by have := HTT.out.len (i := i) (by rw [HL.out]; omega); omega
         have HVR := Lib.hid HO8.out.lt
         have HS8 := Lib.hid hs8
         have HS7 := Lib.hid hS7
         clear hk7 hs8 T07 T17 T27 HQ7 HB7 HO7 HKk
         go_wp2_with (at_builtin; refine zal ETokL rfl (.tmp 49) (.tmp 51) rfl (fb + 1) _ ts.length _ rfl (HO8.out.alloc _) _ 1 1 _ rfl (row_newT _ _ _ _ _) (one3 rfl rfl rfl) (by unfold maxLen; omega) (by omega) (by rw [zac]; have := HS8.out; have := HS7.out; omega) ?_; intro v' w9 hO9 hg9 hnil9; have HO9 := Lib.hid hO9; have HG9 := Lib.hid hg9; clear hO9 hg9 hnil9)
         have hg9 := HG9.out
         have hs9 := hg9.size
         rw [zac] at hs9
         have hk9 : zaa (fun q => fb + 1 ≤ q) wr w9 := ((zaa.refl _ wr).alloc _).grown hg9 (fun q hq => .inl (HVR.out q hq).1)
         have HFIN := Lib.hid (show TokI w w9 (fb + 1) fb pb mb (some ⟨bb, off, none⟩) n cap i2 b v' from by
           obtain ⟨t, ht1, ht2, ht3, ht4⟩ := HNEW.out
           refine ⟨ts ++ [t], ht4, HQk.out.keeps hk9 (by omega) (by omega) (by omega) (fun q hq => by have := HA.out q hq; have := HMB.out; omega), HB8.out.trans ((hk9.below (B := fb + 1) (by have := HS8.out; have := HS7.out; omega) (fun q hq => hq)).mono (by have := HMB.out; omega)), ?_, by have := HS8.out; have := HS7.out; omega⟩
           have h := HO9.out
           rw [zfc, List.length_append]
           rw [ht1, ht2, ht3] at h
           exact h)
         clear hg9 hs9 hk9 HO9 HG9 HO8 HB8 HVR HNEW
         go_wp2_with fail
         go_roundw
         case rel => exact ⟨i2, by rw [hi2, Int.natCast_add], hiM, HFIN⟩
         case measure => simp [intOf]; omega
       have dk : decide ((k : Int) < (M : Int)) = true := decide_eq_true (by omega)
       have HNT := Lib.hid (note_any (i := i + k) HQk.out (by omega) (by omega) (by omega))
       go_wp2_with fail
       refine HNT.out.mono ?_
       rintro e w8 ⟨rfl, hq8, hk8⟩
       have HQ8 := Lib.hid hq8
       have HK8 := Lib.hid (HKk.out.trans hk8 fun q hq => .inl hq)
       clear hq8 hk8 HNT HKk HQk
       go_wp2_with fail
       go_roundw
       case rel => exact ⟨k + 1, by go_num, by go_num, by omega, HQ8, HK8⟩
       case measure => simp [intOf]; omega
end Go.Proofs.YtkikhmdpcanidaaGreat
namespace Go.Proofs.YtkikhmdpcanidaaGreat
open Go.RowKit Go.Sort
theorem tokB_le {l d : List Int} (hl : ∀ s, lenN l s ≤ 15) (hd : ∀ s, lenN d s ≤ 15) {ts : List LT} (h : ∀ t ∈ ts, t.may) : (tokB l d ts).length ≤ 60 * ts.length + 15 := by
 rw [zfG, List.length_append, zas]
 have := tokC_le hl hd h
 have := hl 256
 omega
theorem fixB_le (last : Bool) {ts : List LT} (h : ∀ t ∈ ts, t.may) : (fixB last ts).length ≤ 60 * ts.length + 18 := by
 unfold fixB
 rw [List.length_append, zak]
 have := tokB_le (zcE (zat zc6).2.2.1) (zcE (zat zda).2.2.1) h
 omega
theorem stoB_le (p : Nat) (last : Bool) (b : List UInt8) : (stoB p last b).length ≤ 8 * b.length + 60 := by
 unfold stoB
 simp only [List.length_append, zak, zae, zbV, List.length_replicate]
 omega
def zdj (w : World) (S : Nat → Prop) (wb : Nat) (B : List Bool) (kind : Nat) (last : Bool) (b : List UInt8) (e : Ending) (w' : World) : Prop :=
 e = .returned (.tuple #[]) ∧ ∃ Z, zdB B.length kind last b Z ∧ Z.length ≤ 60 * b.length + 8000 ∧ zab w S wb false (B ++ Z) w'
def ze6 : Prop := ∀ (w : World) (S : Nat → Prop) (wb cap : Nat) (a : Option Addr) (B : List Bool) (ts : List LT) (last : Bool) (b : List UInt8), WrQ w S wb false B → Row w 3 a ts.length cap (tokV ts) → (∀ x, a = some x → ¬ S x.block) → (∀ x, a = some x → x.block < w.heap.size) →
 expT ts [] = some b → ts.length ≤ b.length → b.length ≤ 65535 → B.length < 34359738368 → Calls Tryz.prog 55 #[wrA wb, .slice a ts.length cap, .bool last] w (zdj w S wb B 2 last b)
theorem part_any {w : World} {S : Nat → Prop} {wb n cap kind : Nat} {a : Option Addr} {B : List Bool} {b : List UInt8} (last : Bool) (hk : kind ≤ 2) (hd : kind = 2 → ze6) (h : WrQ w S wb false B) (hr : Row w 1 a n cap (b.map fun x => .int .u8 x.toNat)) (ha : ∀ x, a = some x → ¬ S x.block)
   (hal : ∀ x, a = some x → x.block < w.heap.size) (hb : n ≤ 65535) (hlt : B.length < 34359738368) :
   Calls Tryz.prog 29 #[wrA wb, .slice a n cap, .int .i64 kind, .bool last] w (zdj w S wb B kind last b) := by
 have hl : b.length = n := by have := hr.1; simpa using this
 have hc : (w.alloc (.cells #[.pointer (some ⟨wb, 0, none⟩)] 48)).cell? ⟨w.heap.size, 0, none⟩ = some (.pointer (some ⟨wb, 0, none⟩)) := by
   rw [cell_of_row _ _ 0 _ _ _ (heap_alloc_new w _)]; rfl
 have hno : ¬ S w.heap.size := h.out
 have HQ := Lib.hid (h.alloc (.cells #[.pointer (some ⟨wb, 0, none⟩)] 48))
 have HE := Lib.hid (fun (B' : List Bool) (w' : World) (hn : zab (w.alloc (.cells #[.pointer (some ⟨wb, 0, none⟩)] 48)) S wb false B' w') => zab.trans (S := S) ((zaa.refl S w).alloc (.cells #[.pointer (some ⟨wb, 0, none⟩)] 48)) (fun b hb => .inl hb) hn)
 have HR := Lib.hid (hr.mono (zai w (.cells #[.pointer (some ⟨wb, 0, none⟩)] 48)))
 have hs0 : (w.alloc (.cells #[.pointer (some ⟨wb, 0, none⟩)] 48)).heap.size = w.heap.size + 1 := zac _ _
 have HSL := Lib.hid (fun b (hb : S b) => (h.lt b hb).2)
 have HA := Lib.hid ha
 have HAL := Lib.hid hal
 have HX := Lib.hid hno
 have HL := Lib.hid hl
 have HD := Lib.hid hd
 have hcapm := hr.2.2.1
 have hcapn := hr.2.1
 unfold maxLen at hcapm
 clear h hr ha hal hno hl hd
 have hk3 : kind = 0 ∨ kind = 1 ∨ kind = 2 := by omega
 rcases hk3 with rfl | rfl | rfl
 · have HST := Lib.hid (by
     have h := stored_any (a := a) (cap := cap) (b := b) last HQ.out (by rw [HL.out]; exact HR.out) HA.out (by rw [HL.out]; exact hb) (by omega)
     rw [HL.out] at h
     exact h)
   unfold wrA at HST ⊢
   go_enter Tryz.func29, Tryz.ntmps29
   go_wp2_with fail
   refine HST.out.mono ?_
   rintro e w1 ⟨rfl, hn1⟩
   have HEND := Lib.hid (show zdj w S wb B 0 last b (.returned (.tuple #[])) w1 from ⟨rfl, _, .inl ⟨rfl, by rw [HL.out]; exact hb, rfl⟩, Nat.le_trans (stoB_le _ _ _) (by omega), HE.out _ _ hn1⟩)
   clear hn1 HST
   go_wp2_with fail
   go_end0
   exact HEND.out
 · have HTK := Lib.hid (show ∀ w', Below (w.alloc (.cells #[.pointer (some ⟨wb, 0, none⟩)] 48)).heap.size (w.alloc (.cells #[.pointer (some ⟨wb, 0, none⟩)] 48)) w' → Calls Tryz.prog 54 #[.slice a n cap] w' (TokEnd b w') from
     fun w' hb' => zdX (HR.out.mono hb') (fun x hx => by have := HAL.out x hx; have := hb'.size; omega) (by omega))
   have HFX := Lib.hid (show ∀ w' w1 (ts : List LT) (aT : Option Addr) (cT : Nat), Below (w.alloc (.cells #[.pointer (some ⟨wb, 0, none⟩)] 48)).heap.size (w.alloc (.cells #[.pointer (some ⟨wb, 0, none⟩)] 48)) w' → Below w'.heap.size w' w1 → Row w1 3 aT ts.length cT (tokV ts) → (∀ x, aT = some x → w'.heap.size ≤ x.block ∧ x.block < w1.heap.size) → expT ts [] = some b → ts.length ≤ b.length →
       Calls Tryz.prog 53 #[wrA wb, .slice aT ts.length cT, .bool last] w1 (fun e w2 => e = .returned (.tuple #[]) ∧ zdj w S wb B 1 last b (.returned (.tuple #[])) w2) from
     fun w' w1 ts aT cT hb1 hb2 hrT haT heT hlT => by
       have hs1 := hb1.size
       have hs2 := hb2.size
       have hb12 : Below (w.alloc (.cells #[.pointer (some ⟨wb, 0, none⟩)] 48)).heap.size (w.alloc (.cells #[.pointer (some ⟨wb, 0, none⟩)] 48)) w1 := hb1.trans (hb2.mono hs1)
       have q1 := HQ.out.blw hb12
       have hln := HL.out
       have hnS : ∀ x, aT = some x → ¬ S x.block := fun x hx hS => by have := HSL.out _ hS; have := (haT x hx).1; omega
       refine (fixed_blk last q1 hrT hnS (fun x hx => (haT x hx).2) (zb1 heT) (by omega) (by omega)).mono ?_
       rintro e w2 ⟨rfl, hn2⟩
       refine ⟨rfl, rfl, _, .inr (.inl ⟨rfl, ts, heT, rfl⟩), Nat.le_trans (fixB_le last (zb1 heT)) (by omega), HE.out _ _ (zab.trans (S := S) (zaa.of_below2 hb12) (fun b hb => .inl hb) hn2)⟩)
   unfold wrA at HFX
   unfold wrA
   go_enter Tryz.func29, Tryz.ntmps29
   go_upto_region 5 with fail
   generalize (w.alloc (.cells #[.pointer (some ⟨wb, 0, none⟩)] 48)) = w0 at HTK HFX HQ HE HR hs0 hc ⊢
   have hw0 : w.heap.size < w0.heap.size := by omega
   go_region_with (first
     | (go_at_call 54; refine (HTK.out _ ((Below.refl _ _).drew)).mono ?_; rintro e w1 ⟨hb1, ts, aT, cT, rfl, hrT, haT, heT, hlT⟩; have hc1 : w1.cell? ⟨w.heap.size, 0, none⟩ = some (.pointer (some ⟨wb, 0, none⟩)) := zah hb1 hw0 hc)
     | (go_at_call 53; refine (HFX.out _ _ ts aT cT ((Below.refl _ _).drew) hb1 hrT haT heT hlT).mono ?_; rintro e w2 ⟨rfl, hend⟩))
   all_goals (go_wp2; go_end0; exact hend)
 · have HTK := Lib.hid (show ∀ w', Below (w.alloc (.cells #[.pointer (some ⟨wb, 0, none⟩)] 48)).heap.size (w.alloc (.cells #[.pointer (some ⟨wb, 0, none⟩)] 48)) w' → Calls Tryz.prog 54 #[.slice a n cap] w' (TokEnd b w') from
     fun w' hb' => zdX (HR.out.mono hb') (fun x hx => by have := HAL.out x hx; have := hb'.size; omega) (by omega))
   have HFX := Lib.hid (show ∀ w' w1 (ts : List LT) (aT : Option Addr) (cT : Nat), Below (w.alloc (.cells #[.pointer (some ⟨wb, 0, none⟩)] 48)).heap.size (w.alloc (.cells #[.pointer (some ⟨wb, 0, none⟩)] 48)) w' → Below w'.heap.size w' w1 → Row w1 3 aT ts.length cT (tokV ts) → (∀ x, aT = some x → w'.heap.size ≤ x.block ∧ x.block < w1.heap.size) → expT ts [] = some b → ts.length ≤ b.length →
       Calls Tryz.prog 55 #[wrA wb, .slice aT ts.length cT, .bool last] w1 (fun e w2 => e = .returned (.tuple #[]) ∧ zdj w S wb B 2 last b (.returned (.tuple #[])) w2) from
     fun w' w1 ts aT cT hb1 hb2 hrT haT heT hlT => by
       have hs1 := hb1.size
       have hs2 := hb2.size
       have hb12 : Below (w.alloc (.cells #[.pointer (some ⟨wb, 0, none⟩)] 48)).heap.size (w.alloc (.cells #[.pointer (some ⟨wb, 0, none⟩)] 48)) w1 := hb1.trans (hb2.mono hs1)
       have q1 := HQ.out.blw hb12
       have hln := HL.out
       have hnS : ∀ x, aT = some x → ¬ S x.block := fun x hx hS => by have := HSL.out _ hS; have := (haT x hx).1; omega
       refine (HD.out rfl w1 S wb cT aT B ts last b q1 hrT hnS (fun x hx => (haT x hx).2) heT hlT (by omega) hlt).mono ?_
       rintro e w2 ⟨rfl, Z, hZ, hZl, hn2⟩
       refine ⟨rfl, rfl, Z, hZ, hZl, HE.out _ _ (zab.trans (S := S) (zaa.of_below2 hb12) (fun b hb => .inl hb) hn2)⟩)
   unfold wrA at HFX
   unfold wrA
   go_enter Tryz.func29, Tryz.ntmps29
   go_upto_region 7 with fail
   generalize (w.alloc (.cells #[.pointer (some ⟨wb, 0, none⟩)] 48)) = w0 at HTK HFX HQ HE HR hs0 hc ⊢
   have hw0 : w.heap.size < w0.heap.size := by omega
   go_region_with (first
     | (go_at_call 54; refine (HTK.out _ ((Below.refl _ _).drew)).mono ?_; rintro e w1 ⟨hb1, ts, aT, cT, rfl, hrT, haT, heT, hlT⟩; have hc1 : w1.cell? ⟨w.heap.size, 0, none⟩ = some (.pointer (some ⟨wb, 0, none⟩)) := zah hb1 hw0 hc)
     | (go_at_call 55; refine (HFX.out _ _ ts aT cT ((Below.refl _ _).drew) hb1 hrT haT heT hlT).mono ?_; rintro e w2 ⟨rfl, hend⟩))
   all_goals (go_wp2; go_end0; exact hend)
def PackEnd (w : World) (b : List UInt8) (kind : Nat) (e : Ending) (w' : World) : Prop :=
 Below w.heap.size w w' ∧ ∃ (bs : List UInt8) (v : Value) (Z : List Bool), e = .returned v ∧ w'.ownsRow w.heap.size 5 1 v bs.length (bs.map fun b => .int .u8 b.toNat) ∧ zdB 0 kind true b Z ∧ zaX bs false Z ∧ Z.length ≤ 60 * b.length + 8000
theorem pack_any {w : World} {n cap kind cb : Nat} {a : Option Addr} {b : List UInt8} (hk : kind ≤ 2) (hd : kind = 2 → ze6) (hr : Row w 1 a n cap (b.map fun x => .int .u8 x.toNat)) (hal : ∀ x, a = some x → x.block < w.heap.size)
   (hc : w.cell? ⟨cb, 0, none⟩ = some (.slice a n cap)) (hb : n ≤ 65535) :
   Calls Tryz.prog 27 #[.int .i64 kind, .pointer (some ⟨cb, 0, none⟩)] w (PackEnd w b kind) := by
 have HR := Lib.hid hr
 have HAL := Lib.hid hal
 have hl : b.length = n := by have := hr.1; simpa using this
 have HL := Lib.hid hl
 have HD := Lib.hid hd
 have HNW := Lib.hid (new_wr false w)
 have hcb : cb < w.heap.size := World.block_lt_of_cell? w _ hc
 clear hr hal hl hd
 go_enter Tryz.func27, Tryz.ntmps27
 go_wp2_with fail
 refine HNW.out.mono ?_
 rintro e w1 ⟨rfl, hq1, hb1, hs1⟩
 have hc1 := zah hb1 hcb hc
 have hbA := zai w1 (.cells #[.pointer (some ⟨w.heap.size, 0, none⟩)] 48)
 have hc2 := cell?_keep hbA hc1
 have hq2 := hq1.alloc (.cells #[.pointer (some ⟨w.heap.size, 0, none⟩)] 48)
 have ht2 : (w1.alloc (.cells #[.pointer (some ⟨w.heap.size, 0, none⟩)] 48)).cell? ⟨w1.heap.size, 0, none⟩ = some (.pointer (some ⟨w.heap.size, 0, none⟩)) := by
   rw [cell_of_row _ _ 0 _ _ _ (heap_alloc_new w1 _)]; rfl
 have HB2 := Lib.hid (show Below w.heap.size w (w1.alloc (.cells #[.pointer (some ⟨w.heap.size, 0, none⟩)] 48)) from hb1.alloc hb1.size _)
 have hs2 := zac w1 (.cells #[.pointer (some ⟨w.heap.size, 0, none⟩)] 48)
 have HQ2 := Lib.hid hq2
 clear hb1 hq1 hbA hq2 hc hc1
 go_upto_region 2 with fail
 rw [hs1] at ht2 hs2
 obtain ⟨tb, htb⟩ : ∃ tb, tb = w.heap.size + 1 := ⟨_, rfl⟩
 rw [← htb] at ht2 hs2 ⊢
 generalize w1.alloc (.cells #[.pointer (some ⟨w.heap.size, 0, none⟩)] 48) = w2 at HB2 HQ2 hc2 ht2 hs2 ⊢
 obtain ⟨wb, hwb⟩ : ∃ wb, wb = w.heap.size := ⟨_, rfl⟩
 rw [← hwb] at ht2 HQ2 ⊢
 have HPT := Lib.hid (part_any (wb := wb) (n := n) (cap := cap) (kind := kind) (a := a) (B := []) (b := b) true hk HD.out HQ2.out (HR.out.mono HB2.out) (fun x hx h => by have := HAL.out x hx; omega) (fun x hx => by have := HAL.out x hx; have := HB2.out.size; omega) hb (by simp))
 unfold wrA at HPT
 have HWB := Lib.hid hwb
 have HTB := Lib.hid htb
 clear hwb htb
 go_upto_region 3 with fail
 refine HPT.out.mono ?_
 rintro e w3 ⟨rfl, Z, hZ, hZl, hn3⟩
 have ht3 := hn3.cell ht2 (by have := HWB.out; have := HTB.out; omega)
 rw [List.nil_append] at hn3
 obtain ⟨S3, q3, k3, s3⟩ := hn3
 have hb3 : Below w.heap.size w w3 := HB2.out.trans (k3.below HB2.out.size (fun b hb => by have := HWB.out; omega))
 have HBY := Lib.hid (wbytes_any wb false Z S3 w3 q3 (by have := HL.out; omega))
 have HB3 := Lib.hid hb3
 have HZ := Lib.hid (And.intro hZ hZl)
 clear hZ hZl q3 k3 s3 hb3 HPT HQ2 HNW hc2 ht2
 go_wp2_with fail
 refine HBY.out.mono ?_
 rintro e w4 ⟨bs, v, hw, rfl, hO, hb4⟩
 have HEND := Lib.hid (show PackEnd w b kind (.returned v) w4 from ⟨HB3.out.trans (hb4.mono HB3.out.size), bs, v, Z, rfl, zaD hO HB3.out.size, HZ.out.1, hw, HZ.out.2⟩)
 clear hw hO hb4 HBY
 go_wp2_with fail
 go_ret
 exact HEND.out
def DefEnd (w : World) (b : List UInt8) (kind : Nat) (e : Ending) (w' : World) : Prop :=
 Below w.heap.size w w' ∧ ∃ (bs : List UInt8) (v : Value) (Z : List Bool) (k : Nat), e = .returned (.tuple #[v, .int .i64 0]) ∧ w'.ownsRow w.heap.size 5 1 v bs.length (bs.map fun b => .int .u8 b.toNat) ∧ k ≤ 2 ∧ (kind ≤ 2 → k = kind) ∧ zdB 0 k true b Z ∧ zaX bs false Z ∧ Z.length ≤ 60 * b.length + 8000
theorem zcF {w : World} {n cap kind : Nat} {a : Option Addr} {b : List UInt8} (hk : kind ≤ 2) (hd : kind = 2 → ze6) (hr : Row w 1 a n cap (b.map fun x => .int .u8 x.toNat)) (hal : ∀ x, a = some x → x.block < w.heap.size) (hb : n ≤ 65535) :
   Calls Tryz.prog 11 #[.slice a n cap, .int .i64 kind] w (DefEnd w b kind) := by
 have hbA := zai w (.cells #[.slice a n cap] 22)
 have hsA := zac w (.cells #[.slice a n cap] 22)
 have hc : (w.alloc (.cells #[.slice a n cap] 22)).cell? ⟨w.heap.size, 0, none⟩ = some (.slice a n cap) := by
   rw [cell_of_row _ _ 0 _ _ _ (heap_alloc_new w _)]; rfl
 have HP := Lib.hid (pack_any hk hd (hr.mono hbA) (fun x hx => by have := hal x hx; omega) hc hb)
 have HB := Lib.hid hbA
 have d1 : decide ((kind : Int) < 0) = false := decide_eq_false (by omega)
 have d2 : decide ((kind : Int) > 3) = false := decide_eq_false (by omega)
 have d3 : decide ((n : Int) > 16777216) = false := decide_eq_false (by omega)
 have d4 : ((kind : Int) != 3) = true := by simp; omega
 have d4b : ((kind : Int) == 3) = false := by simp; omega
 have d4c : decide ((kind : Int) = 3) = false := decide_eq_false (by omega)
 clear hr hal hbA hsA
 go_enter Tryz.func11, Tryz.ntmps11
 go_upto_region 1 with fail
 generalize w.alloc (.cells #[.slice a n cap] 22) = w0 at HP HB hc ⊢
 go_wp2_with fail
 refine HP.out.mono ?_
 rintro e w1 ⟨hb1, bs, v, Z, rfl, hO, hZ, hw, hl⟩
 have HEND := Lib.hid (show DefEnd w b kind (.returned (.tuple #[v, .int .i64 0])) w1 from ⟨HB.out.trans (hb1.mono HB.out.size), bs, v, Z, kind, rfl, zaD hO HB.out.size, hk, fun _ => rfl, hZ, hw, hl⟩)
 clear hb1 hO hZ hw hl HP
 go_wp2_with fail
 go_ret2
 exact HEND.out
def mkB7 (l : List UInt8) : ByteArray := ⟨l.toArray⟩
theorem conv_own7 {w : World} {base : Nat} {v : Value} {o : List UInt8} (hr : w.ownsRow base 5 1 v o.length (o.map fun b => .int .u8 b.toNat)) : (convert 22 9 v).run Tryz.prog w = .ok (.string (mkB7 o)) w := by
 rcases hr.2 with ⟨rfl, h0⟩ | ⟨g, cap, cur, rfl, _⟩
 · have ho : o = [] := List.eq_nil_of_length_eq_zero h0
   subst ho
   rw [run_convert_bytes_string w 22 9 5 none 0 0 Tryz.underlying22 Tryz.underlying5 Tryz.underlying9]
   rfl
 · refine run_convert_bytes_back (P := Tryz.prog) w 22 9 5 ⟨g, 0, none⟩ cap o Tryz.underlying22 Tryz.underlying5 Tryz.underlying9 (fun j hj => ?_)
   exact hr.cells (g := g) rfl j (.int .u8 o[j].toNat) (by simp [hj])
theorem wrote_len {bs : List UInt8} {Z : List Bool} (h : zaX bs false Z) : bs.length ≤ (Z.length + 7) / 8 := Nat.le_of_eq h.1
theorem conv_z {w : World} {a : Option Addr} {cap : Nat} {bs : List UInt8} (hr : Row w 1 a bs.length cap (bs.map u8C)) : (convert 22 9 (.slice a bs.length cap)).run Tryz.prog w = .ok (.string (mkB7 bs)) w := by
 cases a with
 | none =>
   have h0 := hr.2.2.2.1 rfl
   have h1 := hr.2.1
   have ho : bs = [] := List.eq_nil_of_length_eq_zero (by omega)
   subst ho
   rw [h0]
   exact run_convert_bytes_string w 22 9 5 none 0 0 Tryz.underlying22 Tryz.underlying5 Tryz.underlying9
 | some x =>
   refine run_convert_bytes_back (P := Tryz.prog) w 22 9 5 x cap bs Tryz.underlying22 Tryz.underlying5 Tryz.underlying9 (fun j hj => ?_)
   obtain ⟨b, o, hx, -, hc⟩ := hr.2.2.2.2 (by omega)
   cases hx
   rw [Addr.add_lit]
   exact hc j (u8C bs[j]) (by simp [hj])
theorem eq_mkB7 (a b : List UInt8) : ((mkB7 a).toList == (mkB7 b).toList) = decide (a = b) := by
 have e : ∀ l, (mkB7 l).toList = l := fun l => by unfold mkB7; exact ByteArray.toList_eq _
 rw [e, e]; exact Bool.beq_eq_decide_eq a b
def zc2 (w : World) (V : List UInt8 × Nat × Int) (e : Ending) (w' : World) : Prop :=
 ∃ v B, e = .returned (.tuple #[v, .int .i64 (V.2.1 : Nat), .int .i64 V.2.2]) ∧ w'.ownsRow B 5 1 v V.1.length (V.1.map u8C) ∧ Below w.heap.size w w'
noncomputable def unpM (b : List UInt8) (most : Int) : List UInt8 × Nat × Int := if most < 0 ∨ 16777216 < most then ([], 0, 2) else unpV b most.toNat
theorem zc2.bad {w w' : World} {e : Int} (hb : Below w.heap.size w w') : zc2 w ([], 0, e) (.returned (.tuple #[.slice none 0 0, .int .i64 0, .int .i64 e])) w' := ⟨_, 0, rfl, World.ownsRow_nil _ _ _ _, hb⟩
theorem row_two {w : World} {x : Addr} {b : List UInt8} {cap : Nat} (h : Row w 1 (some x) b.length cap (b.map u8C)) (h2 : 2 ≤ b.length) : Row w 1 (if cap = 2 then some x else some (x.add 2)) (b.length - 2) (cap - 2) ((b.drop 2).map u8C) := by
 have hc := h.2.1
 by_cases e : cap = 2
 · rw [if_pos e]
   obtain ⟨h1, h3, h4, h5, h6⟩ := h
   refine ⟨by simp, by omega, by omega, fun h => (by cases h), fun h => by omega⟩
 · rw [if_neg e, List.map_drop]
   exact h.dropAt 2 h2
theorem row_four {w : World} {bb off : Nat} {b : List UInt8} {cap N : Nat} (h : Row w 1 (some ⟨bb, off, none⟩) b.length cap (b.map u8C)) (h2 : N + 6 ≤ b.length) : Row w 1 (some ⟨bb, off + (N + 2), none⟩) 4 (cap - (N + 2)) (((b.drop (N + 2)).take 4).map u8C) := by
 obtain ⟨h1, h3, h4, h5, h6⟩ := h
 obtain ⟨b', o', e, hlt, hc⟩ := h6 (by omega)
 cases e
 refine ⟨by simp; omega, by omega, by omega, fun h => (by cases h), fun _ => ⟨bb, _, rfl, hlt, fun j u hj => ?_⟩⟩
 rw [List.map_take, List.map_drop, List.getElem?_take] at hj
 split at hj
 · rw [List.getElem?_drop] at hj
   have := hc _ u hj
   rwa [show off + (N + 2 + j) = off + (N + 2) + j by omega] at this
 · cases hj
end Go.Proofs.YtkikhmdpcanidaaGreat
namespace Go.Proofs.YtkikhmdpcanidaaGreat
open Go.RowKit
def headN (l : Int) : Nat := if l = 0 then 1 else if l = 1 then 94 else if l = 3 then 218 else 156
def headBy (l : Int) : List UInt8 := [120, UInt8.ofNat (headN l)]
def HeadEnd (w : World) (l : Int) (e : Ending) (w' : World) : Prop := Below w.heap.size w w' ∧ ∃ v, e = .returned v ∧ w'.ownsRow w.heap.size 5 1 v 2 ((headBy l).map fun b => .int .u8 b.toNat)
theorem own_two {w : World} {B : Nat} {p q : Value} (h : B ≤ w.heap.size) : (w.alloc (.cells #[p, q] 5)).ownsRow B 5 1 (.slice (some ⟨w.heap.size, 0, none⟩) 2 2) 2 [p, q] :=
 ⟨rfl, .inr ⟨w.heap.size, 2, _, rfl, h, zaf _ rfl, Nat.le_refl _, by unfold maxLen; omega, rfl, rfl⟩⟩
theorem head_cells (l : Int) : ((headBy l).map fun b => Value.int .u8 b.toNat) = [.int .u8 120, .int .u8 (headN l : Nat)] := by
 have h : headN l < 256 := by
   unfold headN
   repeat' split
   all_goals decide
 unfold headBy
 simp only [List.map_cons, List.map_nil]
 rw [UInt8.toNat_ofNat', Nat.mod_eq_of_lt h]
 rfl
theorem head_any (l : Int) (w : World) (hl : -9223372036854775808 ≤ l ∧ l ≤ 9223372036854775807) : Calls Tryz.prog 23 #[.int .i64 l] w (HeadEnd w l) := by
 have HC := Lib.hid (head_cells l)
 have k0 : bits .or .i64 30720 0 = 30720 := by decide +kernel
 have k1 : bits .or .i64 30720 64 = 30784 := by decide +kernel
 have k2 : bits .or .i64 30720 128 = 30848 := by decide +kernel
 have k3 : bits .or .i64 30720 192 = 30912 := by decide +kernel
 by_cases h1 : l < 0
 · have d1 : decide (l < 0) = true := decide_eq_true h1
   have HV := Lib.hid (show headN l = 156 from by unfold headN; rw [if_neg (by omega), if_neg (by omega), if_neg (by omega)])
   go_enter Tryz.func23, Tryz.ntmps23
   go_wp2_with fail
   go_ret
   exact ⟨zai w _, _, rfl, by rw [HC.out, HV.out]; exact own_two (Nat.le_refl _)⟩
 have d1 : decide (l < 0) = false := decide_eq_false h1
 by_cases h2 : 3 < l
 · have d2 : decide (l > 3) = true := decide_eq_true h2
   have HV := Lib.hid (show headN l = 156 from by unfold headN; rw [if_neg (by omega), if_neg (by omega), if_neg (by omega)])
   go_enter Tryz.func23, Tryz.ntmps23
   go_wp2_with fail
   go_ret
   exact ⟨zai w _, _, rfl, by rw [HC.out, HV.out]; exact own_two (Nat.le_refl _)⟩
 have h4 : l = 0 ∨ l = 1 ∨ l = 2 ∨ l = 3 := by omega
 clear d1 h1 h2
 rcases h4 with rfl | rfl | rfl | rfl
 all_goals
   go_enter Tryz.func23, Tryz.ntmps23
   go_wp2_with fail
   go_ret
   exact ⟨zai w _, _, rfl, by rw [HC.out]; exact own_two (Nat.le_refl _)⟩
end Go.Proofs.YtkikhmdpcanidaaGreat
