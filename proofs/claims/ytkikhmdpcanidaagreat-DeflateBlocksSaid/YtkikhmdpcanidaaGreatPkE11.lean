/-
  Our texts HCuP to Dy3, in one.
-/
import Derived.Test.YtkikhmdpcanidaaGreatPkE10
import Derived.RangeFuncNested
import Derived.RangeFuncBound
import Derived.RangeFuncCalls
import Derived.RangeFuncLeaves
import Derived.Shelf.Abstract
import Derived.Shelf.RegionOpen
import Derived.WalkKit
import Derived.OwnWalkIn
import Derived.TacticsInMore
import Derived.LoopNIn
import Derived.LoopIn
import Derived.Sort.QuietIn
import Derived.BigRegion
import Derived.Ground.SlsfProg
import Derived.Shelf.SlSortCmp.Whole1
import Derived.Test.YtkikhmdpcanidaaGreatProg
set_option maxRecDepth 8000
set_option maxHeartbeats 8000000
namespace Go.Proofs.YtkikhmdpcanidaaGreat
def minN (limit : Nat) (D : List Nat) (i : Nat) : List Nat := ((D.take i).map fun x => min x limit) ++ D.drop i
theorem minN_len (limit : Nat) (D : List Nat) (i : Nat) : (minN limit D i).length = D.length := by
 unfold minN
 rw [List.length_append, List.length_map, ← List.length_append, List.take_append_drop]
theorem minN_zero (limit : Nat) (D : List Nat) : minN limit D 0 = D := by simp [minN]
theorem minN_all (limit : Nat) (D : List Nat) : minN limit D D.length = D.map fun x => min x limit := by simp [minN]
theorem minN_get (limit : Nat) (D : List Nat) {i : Nat} (h : i < D.length) : (minN limit D i).getD i 0 = D.getD i 0 := by
 unfold minN
 rw [List.getD_eq_getElem?_getD, List.getD_eq_getElem?_getD, List.getElem?_append_right (by simp; omega), List.getElem?_drop]
 congr 2
 simp; omega
theorem zd3 (D : List Nat) {i : Nat} (h : i < D.length) : D.take (i + 1) = D.take i ++ [D.getD i 0] := by
 rw [List.take_add_one, List.getD_eq_getElem?_getD, List.getElem?_eq_getElem h]; rfl
theorem minN_step (limit : Nat) (D : List Nat) {i : Nat} (h : i < D.length) : (minN limit D i).set i (min (D.getD i 0) limit) = minN limit D (i + 1) := by
 unfold minN
 have hl : ((D.take i).map fun x => min x limit).length = i := by simp; omega
 rw [List.set_append_right _ _ (by omega), hl, Nat.sub_self, List.drop_eq_getElem_cons h, List.set_cons_zero, zd3 D h, List.map_append, List.append_assoc]
 rfl
def zeT (limit : Nat) (D : List Nat) (i : Nat) : Int := 32768 - (sumW ((D.take i).map fun x => min x limit) : Nat)
theorem sumW_app : ∀ a b : List Nat, sumW (a ++ b) = sumW a + sumW b
 | [], b => by simp [sumW]
 | x :: a, b => by rw [List.cons_append, sumW, sumW, sumW_app a b]; omega
theorem roomN_step (limit : Nat) (D : List Nat) {i : Nat} (h : i < D.length) : zeT limit D (i + 1) = zeT limit D i - (zaw (min (D.getD i 0) limit) : Nat) := by
 unfold zeT
 rw [zd3 D h, List.map_append, sumW_app]
 simp only [List.map_cons, List.map_nil, sumW]
 omega
theorem zdU (x : Nat) : zaw x ≤ 32768 := Nat.div_le_self _ _
theorem sumW_le : ∀ L : List Nat, sumW L ≤ L.length * 32768
 | [] => by simp [sumW]
 | x :: l => by
   have := sumW_le l
   have := zdU x
   rw [sumW, List.length_cons, Nat.add_mul]; omega
theorem roomN_bd (limit : Nat) (D : List Nat) (i : Nat) : -((D.length : Int) * 32768) ≤ zeT limit D i ∧ zeT limit D i ≤ 32768 := by
 unfold zeT
 have h := sumW_le ((D.take i).map fun x => min x limit)
 have h2 : ((D.take i).map fun x => min x limit).length ≤ D.length := by simp; omega
 have h3 := Nat.mul_le_mul_right 32768 h2
 omega
theorem sumW_set : ∀ {D : List Nat} {i : Nat} (v : Nat), i < D.length → sumW (D.set i v) + zaw (D.getD i 0) = sumW D + zaw v
 | x :: l, 0, v, _ => by simp [sumW]; omega
 | x :: l, i + 1, v, h => by
   have := sumW_set (D := l) (i := i) v (by simpa using h)
   simp only [List.set_cons_succ, sumW, List.getD_cons_succ] at *
   omega
theorem roomW_two {x : Nat} (h0 : 1 ≤ x) (h : x + 1 ≤ 15) : zaw x = 2 * zaw (x + 1) := by
 obtain ⟨y, rfl⟩ : ∃ y, x = y + 1 := ⟨x - 1, by omega⟩
 exact zeV (by omega)
theorem roomW_pos {x : Nat} (h : x ≤ 15) : 1 ≤ zaw x := by
 have : ∀ y, y ≤ 15 → 1 ≤ zaw y := by decide
 exact this x h
def stpS (s : List Nat × Nat) (i : Nat) : List Nat × Nat := (s.1.set i (zaH (s.1.getD i 0) s.2).1, (zaH (s.1.getD i 0) s.2).2)
theorem stpS_fold : ∀ (A B : List Nat) (r : Nat), (List.range A.length).reverse.foldl stpS (A ++ B, r) = ((zat A.reverse r).1.reverse ++ B, (zat A.reverse r).2) := by
 intro A
 induction hA : A.length generalizing A with
 | zero =>
   intro B r
   have : A = [] := List.eq_nil_of_length_eq_zero hA
   subst this
   simp [zat]
 | succ m ih =>
   intro B r
   obtain ⟨A0, x, rfl⟩ : ∃ A0 x, A = A0 ++ [x] := by
     rcases List.eq_nil_or_concat A with h | ⟨l, a, h⟩
     · subst h; simp at hA
     · exact ⟨l, a, by rw [h, List.concat_eq_append]⟩
   have hm : A0.length = m := by simpa using hA
   rw [List.range_succ, List.reverse_append, List.reverse_singleton, List.singleton_append, List.foldl_cons]
   have e : stpS (A0 ++ [x] ++ B, r) m = (A0 ++ ((zaH x r).1 :: B), (zaH x r).2) := by
     unfold stpS
     have g : (A0 ++ [x] ++ B).getD m 0 = x := by
       rw [List.getD_eq_getElem?_getD, List.append_assoc, List.getElem?_append_right (by omega), hm, Nat.sub_self]; rfl
     simp only [g]
     rw [List.append_assoc, List.set_append_right _ _ (by omega), hm, Nat.sub_self]
     rfl
   rw [e, ih A0 hm ((zaH x r).1 :: B) (zaH x r).2, List.reverse_append]
   simp [zat]
theorem stpS_all {A : List Nat} {r c : Nat} (h : A.length = c) : (List.range c).reverse.foldl stpS (A, r) = ((zat A.reverse r).1.reverse, (zat A.reverse r).2) := by
 have := stpS_fold A [] r
 rw [List.append_nil, List.append_nil, h] at this
 exact this
theorem cutLoop_stop {limit : Nat} : ∀ {g : Nat} {D M : List Nat}, zbn limit g D = some M → sumW D ≤ 32768 → M = D
 | 0, _, _, h, _ => by simp [zbn] at h
 | g + 1, D, M, h, hs => by
   unfold zbn at h
   rw [if_pos hs] at h
   simpa using h.symm
theorem cutLoop_go {limit : Nat} : ∀ {g : Nat} {D M : List Nat}, zbn limit g D = some M → ¬ sumW D ≤ 32768 → ∃ g' n D', zbl D (limit - 1) = some (n, D') ∧ zbn limit g' D' = some M
 | 0, _, _, h, _ => by simp [zbn] at h
 | g + 1, D, M, h, hs => by
   unfold zbn at h
   rw [if_neg hs] at h
   cases hx : zbl D (limit - 1) with
   | none => rw [hx] at h; simp at h
   | some x => rw [hx] at h; exact ⟨g, x.1, x.2, rfl, h⟩
theorem incTop_hit {D M : List Nat} {m : Nat} (h : inc1 (m + 1) D = some M) : zbl D (m + 1) = some (m + 1, M) := by unfold zbl; rw [h]
theorem incTop_miss {D : List Nat} {m : Nat} (h : inc1 (m + 1) D = none) : zbl D (m + 1) = zbl D m := by
 rw [show zbl D (m + 1) = (match inc1 (m + 1) D with | some M => some (m + 1, M) | none => zbl D m) from rfl, h]
theorem sumW_inc {D : List Nat} {i m : Nat} (hi : i < D.length) (h : D.getD i 0 = m) (h0 : 1 ≤ m) (h1 : m + 1 ≤ 15) : sumW (D.set i (m + 1)) + zaw (m + 1) = sumW D := by
 have := sumW_set (D := D) (i := i) (m + 1) hi
 rw [h, roomW_two h0 h1] at this
 omega
theorem zei {y r : Nat} (h : y ≤ 1 ∨ r < zaw y) : zaH y r = (y, r) := by
 match y with
 | 0 => rfl
 | 1 => rfl
 | y + 2 =>
   unfold zaH
   rw [if_neg (by omega)]
theorem shrink_go {y r : Nat} (h : 2 ≤ y) (h2 : zaw y ≤ r) : zaH y r = zaH (y - 1) (r - zaw y) := by
 match y with
 | 0 => omega
 | 1 => omega
 | y + 2 =>
   rw [show zaH (y + 2) r = (if zaw (y + 2) ≤ r then zaH (y + 1) (r - zaw (y + 2)) else (y + 2, r)) from rfl, if_pos h2]; rfl
theorem stp_one {D : List Nat} {r i y r2 : Nat} (h : zaH (D.getD i 0) r = (y, r2)) : stpS (D, r) i = (D.set i y, r2) := by unfold stpS; simp only [h]
theorem set_set2 (D : List Nat) (i a b : Nat) : (D.set i a).set i b = D.set i b := by simp
theorem zcj {D : List Nat} {i : Nat} (h : i < D.length) (v : Nat) : (D.set i v).getD i 0 = v := by
 rw [List.getD_eq_getElem?_getD, List.getElem?_set_self h]; rfl
theorem set_get (D : List Nat) (i : Nat) : D.set i (D.getD i 0) = D := by
 induction D generalizing i with
 | nil => rfl
 | cons x l ih =>
   cases i with
   | zero => rfl
   | succ i => simp only [List.set_cons_succ, List.getD_cons_succ]; rw [ih]
theorem le_set {D : List Nat} {i v m : Nat} (h : ∀ z ∈ D, z ≤ m) (hv : v ≤ m) : ∀ z ∈ D.set i v, z ≤ m := fun z hz => by
 rcases List.mem_or_eq_of_mem_set hz with h1 | h1
 · exact h z h1
 · omega
end Go.Proofs.YtkikhmdpcanidaaGreat
namespace Go.Proofs.YtkikhmdpcanidaaGreat
open Go.RowKit Go.Sort
def SortISaid : Prop :=
 ∀ (base g cap : Nat) (D : List Nat) (w : World), w.ownsRow base 3 1 (.slice (some ⟨g, 0, none⟩) D.length cap) D.length (natV D) → D.length ≤ 1000 →
   Calls Tryz.prog 143 #[.slice (some ⟨g, 0, none⟩) D.length cap, .func (.func 144) #[] #[]] w fun e w' => e = .returned (.tuple #[]) ∧ ∃ D' : List Nat, D'.Perm D ∧ (∀ i j, i ≤ j → j < D'.length → D'.getD j 0 ≤ D'.getD i 0) ∧
     w'.ownsRow base 3 1 (.slice (some ⟨g, 0, none⟩) D.length cap) D.length (natV D') ∧ w.grownBy w' (some g)
theorem take_natV (D : List Nat) {k : Nat} (h : k < D.length) : natV (D.take (k + 1)) = natV (D.take k) ++ [.int .i64 (D.getD k 0 : Nat)] := by
 rw [zd3 D h]; simp [natV]
theorem mix_step {D D2 : List Nat} {i : Nat} (h : i < D.length) (hl : D2.length = D.length) : (D2.take i ++ D.drop i).set i (D2.getD i 0) = D2.take (i + 1) ++ D.drop (i + 1) := by
 have ht : (D2.take i).length = i := by simp; omega
 rw [List.set_append_right _ _ (by omega), ht, Nat.sub_self, List.drop_eq_getElem_cons h, List.set_cons_zero, zd3 D2 (by omega), List.append_assoc]; rfl
set_option maxRecDepth 20000 in
theorem sorted_any (hsort : SortISaid) {w : World} {bo og n ocap : Nat} {R D : List Nat} (hO : OutR w bo (rowR n R D)) (hord : ∀ i, i < R.length → w.cell? ⟨og, i, none⟩ = some (.int .i64 (R.getD i 0 : Nat))) (hne : og ≠ bo) (hog : og < w.heap.size)
   (h0 : 0 < R.length) (hR : R.length ≤ 400) (hD : D.length = R.length) (hnd : R.Nodup) (hlt : ∀ r ∈ R, r < n) :
   Calls Tryz.prog 135 #[.slice (some ⟨bo, 0, none⟩) n n, .slice (some ⟨og, 0, none⟩) R.length ocap] w fun e w' => e = .returned (.tuple #[]) ∧ ∃ D' : List Nat, D'.Perm D ∧ (∀ i j, i ≤ j → j < D'.length → D'.getD j 0 ≤ D'.getD i 0) ∧ OutR w' bo (rowR n R D') ∧ zaa (fun b => b = bo) w w' := by
 have hbo := hO.lt
 have HO := Lib.hid hO
 have HORD := Lib.hid hord
 have HS := Lib.hid hsort
 have HD := Lib.hid hD
 have HND := Lib.hid hnd
 have HLT := Lib.hid hlt
 clear hO hord hsort hD hnd hlt
 go_enter Tryz.func135, Tryz.ntmps135
 go_wp2_with fail
 go_loopw [4, 11] (fun S v wr => ∃ i : Nat, v = .int .i64 i ∧ i ≤ R.length ∧ Hid (wr.ownsRow w.heap.size 3 1 S i (natV (D.take i))) ∧ Hid (Below w.heap.size w wr)) (fun _ v _ => R.length - (intOf v).toNat)
 case atStart => exact ⟨0, rfl, Nat.zero_le _, Lib.hid (by rw [List.take_zero]; exact World.ownsRow_nil _ _ _ _), Lib.hid (Below.refl _ _)⟩
 case round =>
   obtain ⟨i, rfl, hi, HSk, HB⟩ := hrel
   by_cases hlt : i < R.length
   · have hcd : decide ((i : Int) < (R.length : Int)) = true := decide_eq_true (by omega)
     have hil : (i : Int) < (R.length : Int) := by omega
     have z2 := zam HB.out hog (HORD.out i hlt)
     have hk1 := HLT.out _ (zdd hlt)
     have hOb : OutR wr bo (rowR n R D) := (HB.out.block bo hbo).trans HO.out
     have z3 := hOb.cell (k := R.getD i 0) (by rw [zcm]; exact hk1)
     rw [rowR_get HND.out HLT.out HD.out hlt] at z3
     have HT := Lib.hid (take_natV D (k := i) (by rw [HD.out]; exact hlt))
     generalize R.getD i 0 = k at z2 z3 hk1
     generalize D.getD i 0 = x at z3 HT
     have hkn : (k : Int) < (n : Int) := by omega
     obtain ⟨aS, cS, hS, -, hSb⟩ := Row.of_owns HSk.out
     subst hS
     have hsz := HB.out.size
     clear hSb hOb
     go_wp2_with (at_builtin; refine zae ETI rfl (.tmp 15) (.tmp 20) rfl w.heap.size (Value.slice aS i cS) i _ rfl (HSk.out.alloc _) _ 1 _ _ rfl (zaS _ _ _) (zbN rfl) (by unfold maxLen; omega) (by omega) (by rw [zad]; omega) ?_; intro v' w5 hO5 hg5 hnil5; have HO5 := Lib.hid hO5; have HG5 := Lib.hid hg5; clear hO5 hg5 hnil5)
     go_roundw
     case rel => exact ⟨i + 1, by go_num, by omega, Lib.hid (by rw [HT.out]; exact HO5.out), Lib.hid ((HB.out.alloc hsz _).grown HG5.out (by rw [zad]; omega) (fun q hq => (HSk.out.lt q hq).1))⟩
     case measure => simp [intOf]; omega
   · have hie : i = R.length := by omega
     subst hie
     have hcd : decide ((R.length : Int) < (R.length : Int)) = false := decide_eq_false (by omega)
     have hcd2 : decide (R.length < R.length) = false := decide_eq_false (by omega)
     have hrow := HSk.out
     rw [List.take_of_length_le (by rw [HD.out]; exact Nat.le_refl _)] at hrow
     obtain ⟨g, cS, hS, hgb⟩ : ∃ g cS, u4 = .slice (some ⟨g, 0, none⟩) R.length cS ∧ w.heap.size ≤ g := by
       rcases hrow.2 with ⟨-, h1⟩ | ⟨g, cap, cur, hv, hb, -⟩
       · omega
       · exact ⟨g, cap, hv, hb⟩
     subst hS
     have hgl := (hrow.lt g rfl).2
     have HX := Lib.hid (by have h := HS.out w.heap.size g cS D wr (by rw [HD.out]; exact hrow) (by rw [HD.out]; omega); rw [HD.out] at h; exact h)
     clear hrow HSk HS
     go_wp2_with (go_at_call 143; refine HX.out.mono ?_; rintro e w3 ⟨rfl, D2, hp2, hs2, hr2, hg2⟩; have HP2 := Lib.hid hp2; have HS2 := Lib.hid hs2; have HR2 := Lib.hid hr2; have HG2 := Lib.hid hg2; clear hp2 hs2 hr2 hg2)
     have hD2 : D2.length = R.length := by rw [HP2.out.length_eq, HD.out]
     have HB3 := Lib.hid (HB.out.grown HG2.out HB.out.size (fun q hq => by cases hq; exact hgb))
     have HO3 := Lib.hid (show OutR w3 bo (rowR n R (D2.take 0 ++ D.drop 0)) from by rw [List.take_zero, List.nil_append, List.drop_zero]; exact (HB3.out.block bo hbo).trans HO.out)
     have HD2 := Lib.hid hD2
     have hg3 : g < w3.heap.size := Nat.lt_of_lt_of_le hgl HG2.out.size
     clear HX hD2
     go_loopw [27] (fun v wr => ∃ i : Nat, v = .int .i64 i ∧ i ≤ R.length ∧ Hid (OutR wr bo (rowR n R (D2.take i ++ D.drop i))) ∧ Hid (zaa (fun b => b = bo) w3 wr)) (fun v _ => R.length - (intOf v).toNat)
     case atStart => exact ⟨0, rfl, Nat.zero_le _, HO3, Lib.hid (zaa.refl _ _)⟩
     case round =>
       clear HO3
       obtain ⟨i, rfl, hi, HOi, HK⟩ := hrel
       by_cases hlt : i < R.length
       · have hcd : decide ((i : Int) < (R.length : Int)) = true := decide_eq_true (by omega)
         have hil : (i : Int) < (R.length : Int) := by omega
         have z2 := HK.out.cell (zam HB3.out hog (HORD.out i hlt)) hne
         have hk1 := HLT.out _ (zdd hlt)
         obtain ⟨b, off, eb, hbl, hcc⟩ := (Row.of_own HR2.out).2.2.2.2.2 (by omega)
         simp only [Option.some.injEq, Addr.mk.injEq, and_true] at eb
         obtain ⟨rfl, rfl⟩ := eb
         have z3 := HK.out.cell (hcc i _ (zc0 (L := D2) (k := i) (by rw [HD2.out]; exact hlt))) (by omega)
         rw [Nat.zero_add] at z3
         have f3 := HOi.out.free (R.getD i 0)
         have hlm : (D2.take i ++ D.drop i).length = R.length := by rw [List.length_append, List.length_take, List.length_drop, HD2.out, HD.out]; omega
         have HN := Lib.hid (show OutR (wr.setCell ⟨bo, R.getD i 0, none⟩ (.int .i64 (D2.getD i 0 : Nat))) bo (rowR n R (D2.take (i + 1) ++ D.drop (i + 1))) from by
           have h := HOi.out.set (R.getD i 0) (D2.getD i 0)
           rw [rowR_set HND.out HLT.out hlm hlt, mix_step (by rw [HD.out]; exact hlt) (by rw [HD2.out, HD.out])] at h
           exact h)
         have z4 := HOi.out.cell (k := R.getD i 0) (by rw [zcm]; exact hk1)
         generalize R.getD i 0 = k at z2 f3 hk1 HN z4
         generalize D2.getD i 0 = x at z3 HN
         generalize (rowR n R (D2.take i ++ D.drop i)).getD k 0 = y at z4
         have hkn : (k : Int) < (n : Int) := by omega
         clear hcc hlm
         go_wp2_with fail
         go_roundw
         case rel => exact ⟨i + 1, by go_num, by omega, HN, Lib.hid (HK.out.setCell (a := ⟨bo, k, none⟩) (.inl rfl) _)⟩
         case measure => simp [intOf]; omega
       · have hie : i = R.length := by omega
         subst hie
         have HF := Lib.hid HOi.out
         go_wp2_with fail
         go_end0
         have hb := HB3.out
         refine ⟨rfl, D2, HP2.out, HS2.out, ?_, (show zaa (fun b => b = bo) w w3 from ⟨hb.os, hb.tape, hb.output, hb.size, fun b h _ => hb.block b h⟩).trans HK.out (fun b hb => .inl hb)⟩
         · have h := HF.out
           rw [List.take_of_length_le (by rw [HD2.out]; exact Nat.le_refl _), List.drop_of_length_le (by rw [HD.out]; exact Nat.le_refl _), List.append_nil] at h
           exact h
theorem keeps_of {w w' : World} (S : Nat → Prop) (h : Below w.heap.size w w') : zaa S w w' := ⟨h.os, h.tape, h.output, h.size, fun b hb _ => h.block b hb⟩
structure LN where
 p : Nat
 s : Nat
 c : Nat
def LN.v (x : LN) : Value := .pointer (some ⟨x.p, 0, none⟩)
def LN.tn (x : LN) : TN := ⟨x.p, .leaf x.s, x.c⟩
def LN.obj (x : LN) : Obj := .cells #[.int .i64 x.c, .int .i64 x.s, .pointer none, .pointer none] 180 (0, 0)
structure zbZ (w : World) (B : Nat) (S6 S7 : Value) (ns : List LN) : Prop where
 r6 : w.ownsRow B 178 1 S6 ns.length (ns.map LN.v)
 r7 : w.ownsRow B 3 1 S7 ns.length (natV (ns.map LN.s))
 tree : ∀ x ∈ ns, B ≤ x.p ∧ w.heap[x.p]? = some x.obj
 a6 : ∀ b, S6.ownBlock = some b → ∀ x ∈ ns, x.p ≠ b
 a7 : ∀ b, S7.ownBlock = some b → ∀ x ∈ ns, x.p ≠ b
 a67 : ∀ b, S6.ownBlock = some b → S7.ownBlock ≠ some b
theorem zbZ.nil (w : World) (B : Nat) : zbZ w B (.slice none 0 0) (.slice none 0 0) [] :=
 ⟨World.ownsRow_nil _ _ _ _, World.ownsRow_nil _ _ _ _, fun x h => (by cases h), fun b h => (by cases h), fun b h => (by cases h), fun b h => (by cases h)⟩
theorem zbZ.step {w w5 w6 : World} {B : Nat} {S6 S7 S6' S7' : Value} {ns : List LN} {s c p : Nat} {o1 o2 : Obj} (h : zbZ w B S6 S7 ns) (hB : B ≤ w.heap.size) (hp : w.heap.size = p)
   (h5 : w5.ownsRow B 178 1 S6' (ns.length + 1) (ns.map LN.v ++ [.pointer (some ⟨p, 0, none⟩)]))
   (g5 : ((w.alloc (.cells #[.int .i64 c, .int .i64 s, .pointer none, .pointer none] 180)).alloc o1).grownBy w5 S6.ownBlock) (n5 : zf5 ((w.alloc (.cells #[.int .i64 c, .int .i64 s, .pointer none, .pointer none] 180)).alloc o1) S6 S6')
   (h6 : w6.ownsRow B 3 1 S7' (ns.length + 1) (natV (ns.map LN.s) ++ [.int .i64 s])) (g6 : (w5.alloc o2).grownBy w6 S7.ownBlock) (n6 : zf5 (w5.alloc o2) S7 S7') : zbZ w6 B S6' S7' (ns ++ [⟨p, s, c⟩]) := by
 subst hp
 have s5 := g5.size
 rw [zad, zad] at s5
 have s6 := g6.size
 rw [zad] at s6
 have k5 : zaa (fun b => S6.ownBlock = some b) w w5 := (((zaa.refl _ w).alloc _).alloc _).grown g5 (fun k hk => .inl hk)
 have k6 : zaa (fun b => S7.ownBlock = some b) w5 w6 := ((zaa.refl _ w5).alloc _).grown g6 (fun k hk => .inl hk)
 have l6 : ∀ b, S6.ownBlock = some b → b < w.heap.size := fun b hb => (h.r6.lt b hb).2
 have l7 : ∀ b, S7.ownBlock = some b → b < w.heap.size := fun b hb => (h.r7.lt b hb).2
 have e6 : ∀ b, S6'.ownBlock = some b → S6.ownBlock = some b ∨ w.heap.size + 2 ≤ b := fun b hb => by
   rcases n5 b hb with h1 | h1
   · exact .inl h1
   · rw [zad, zad] at h1; exact .inr h1
 have e7 : ∀ b, S7'.ownBlock = some b → S7.ownBlock = some b ∨ w5.heap.size + 1 ≤ b := fun b hb => by
   rcases n6 b hb with h1 | h1
   · exact .inl h1
   · rw [zad] at h1; exact .inr h1
 have l6' : ∀ b, S6'.ownBlock = some b → b < w5.heap.size := fun b hb => (h5.lt b hb).2
 have tl : ∀ x ∈ ns, x.p < w.heap.size := fun x hx => (Array.getElem?_eq_some_iff.1 (h.tree x hx).2).1
 refine ⟨?_, ?_, fun x hx => ?_, fun b hb x hx => ?_, fun b hb x hx => ?_, fun b hb hb7 => ?_⟩
 · rw [List.length_append, List.map_append]
   exact zao h5 k6 fun b hb h7 => by
     rcases e6 b hb with h1 | h1
     · exact h.a67 b h1 h7
     · have := l7 b h7; omega
 · rw [List.length_append, List.map_append]
   unfold natV at h6 ⊢
   rw [List.map_append]
   exact h6
 · rcases List.mem_append.1 hx with h1 | h1
   · obtain ⟨t1, t2⟩ := h.tree x h1
     exact ⟨t1, k6.obj (k5.obj t2 (fun e => h.a6 _ e x h1 rfl)) (fun e => h.a7 _ e x h1 rfl)⟩
   · rw [List.mem_singleton] at h1
     subst h1
     refine ⟨hB, k6.obj ?_ (fun e => by have := l7 _ e; simp at this)⟩
     refine (g5.block _ (by rw [zad, zad]; simp; omega) (fun e => by have := l6 _ e.symm; simp at this)).trans ?_
     rw [Below.heap_alloc _ _ _ (by rw [zad]; simp)]
     exact heap_alloc_new w _
 · rcases List.mem_append.1 hx with h1 | h1
   · rcases e6 b hb with h2 | h2
     · exact h.a6 b h2 x h1
     · have := tl x h1; omega
   · rw [List.mem_singleton] at h1
     subst h1
     rcases e6 b hb with h2 | h2
     · have := l6 b h2; simp; omega
     · simp; omega
 · rcases List.mem_append.1 hx with h1 | h1
   · rcases e7 b hb with h2 | h2
     · exact h.a7 b h2 x h1
     · have := tl x h1; omega
   · rw [List.mem_singleton] at h1
     subst h1
     rcases e7 b hb with h2 | h2
     · have := l7 b h2; simp; omega
     · simp; omega
 · rcases e7 b hb7 with h2 | h2
   · rcases e6 b hb with h3 | h3
     · exact h.a67 b h3 h2
     · have := l7 b h2; omega
   · have := l6' b hb; omega
theorem zbZ.r7_after {w w5 : World} {B : Nat} {S6 S7 : Value} {ns : List LN} {o0 o1 : Obj} (h : zbZ w B S6 S7 ns) (g5 : ((w.alloc o0).alloc o1).grownBy w5 S6.ownBlock) : w5.ownsRow B 3 1 S7 ns.length (natV (ns.map LN.s)) :=
 zao h.r7 (((((zaa.refl (fun b => S6.ownBlock = some b) w).alloc _).alloc _).grown g5 (fun _ hk => .inl hk))) fun b hb h6 => h.a67 b h6 hb
theorem zbZ.other {w w' : World} {B : Nat} {S6 S7 : Value} {ns : List LN} {T : Nat → Prop} (h : zbZ w B S6 S7 ns) (hk : zaa T w w') (hT : ∀ b, T b → b < B ∨ w.heap.size ≤ b) : zbZ w' B S6 S7 ns := by
 have nt : ∀ b, B ≤ b → b < w.heap.size → ¬ T b := fun b h1 h2 h3 => by have := hT b h3; omega
 exact ⟨zao h.r6 hk fun b hb => nt b (h.r6.lt b hb).1 (h.r6.lt b hb).2, zao h.r7 hk fun b hb => nt b (h.r7.lt b hb).1 (h.r7.lt b hb).2,
   fun x hx => ⟨(h.tree x hx).1, hk.obj (h.tree x hx).2 (nt _ (h.tree x hx).1 (Array.getElem?_eq_some_iff.1 (h.tree x hx).2).1)⟩, h.a6, h.a7, h.a67⟩
theorem zbZ.nodes {w : World} {B : Nat} {S6 S7 : Value} {ns : List LN} (h : zbZ w B S6 S7 ns) (h0 : 0 < ns.length) : zfj w B (fun b => ∃ x ∈ ns, b = x.p) S6 (ns.map LN.tn) := by
 refine ⟨?_, fun y hy => ?_, fun b hb => ?_, fun b hb => ?_⟩
 · have e : ptrs (ns.map LN.tn) = ns.map LN.v := by unfold ptrs; rw [List.map_map]; rfl
   rw [e]
   exact OwnO.of h.r6 h0
 · obtain ⟨x, hx, rfl⟩ := List.mem_map.1 hy
   exact ⟨⟨x, hx, rfl⟩, (h.tree x hx).2⟩
 · rintro ⟨x, hx, rfl⟩
   exact h.a6 _ hb x hx rfl
 · obtain ⟨x, hx, rfl⟩ := hb
   exact ⟨(h.tree x hx).1, (Array.getElem?_eq_some_iff.1 (h.tree x hx).2).1⟩
def zdm (l : List Int) (k : Nat) : List (Nat × Nat) := ((List.range k).filter fun k => decide (0 < l.getD k 0)).map fun k => (k, (l.getD k 0).toNat)
theorem posTo_succ (l : List Int) (k : Nat) : zdm l (k + 1) = zdm l k ++ if 0 < l.getD k 0 then [(k, (l.getD k 0).toNat)] else [] := by
 unfold zdm
 rw [List.range_succ, List.filter_append, List.map_append]
 by_cases h : 0 < l.getD k 0
 · simp only [if_pos h]; simp only [List.getD] at h; simp [h]
 · simp only [if_neg h]; simp only [List.getD] at h; simp [h]
theorem zcL (l : List Int) (k : Nat) : (zdm l k).map (fun x => ((x.1 : Nat) : Int)) = zaf l k := by
 unfold zdm zaf
 rw [List.map_map]; rfl
theorem zeq (l : List Int) (k : Nat) : (zdm l k).length ≤ k := by
 unfold zdm
 rw [List.length_map]
 exact Nat.le_trans (List.length_filter_le _ _) (by simp)
def LN.key (x : LN) : Nat × Nat := (x.s, x.c)
theorem leavesN_tn (ns : List LN) : zcf (ns.map LN.tn) = ns.map LN.s := by
 unfold zcf
 induction ns with
 | nil => rfl
 | cons x l ih => simp only [List.map_cons, List.flatMap_cons, ih]; rfl
theorem key_s {ns : List LN} {l : List (Nat × Nat)} (h : ns.map LN.key = l) : ns.map LN.s = l.map Prod.fst := by
 rw [← h, List.map_map]; rfl
theorem sumN_le {ns : List LN} {m : Nat} (h : ∀ x ∈ ns, x.c ≤ m) : sumN (ns.map LN.tn) ≤ ns.length * m := by
 induction ns with
 | nil => simp [sumN]
 | cons x l ih =>
   have h1 := h x (List.mem_cons_self ..)
   have h2 := ih fun y hy => h y (List.mem_cons_of_mem _ hy)
   simp only [List.map_cons, sumN, List.length_cons, Nat.add_mul]
   show x.c + _ ≤ _
   omega
theorem key_le {ns : List LN} {l : List Int} {k : Nat} (h : ns.map LN.key = zdm l k) (hb : ∀ j, j < k → l.getD j 0 ≤ 2147483647) : ∀ x ∈ ns, x.c ≤ 2147483647 := fun x hx => by
 have hm : LN.key x ∈ zdm l k := by rw [← h]; exact List.mem_map_of_mem hx
 unfold zdm at hm
 obtain ⟨j, hj, he⟩ := List.mem_map.1 hm
 have hj2 := (List.mem_filter.1 hj).1
 have := hb j (by simpa using hj2)
 have hc : (l.getD j 0).toNat = x.c := congrArg Prod.snd he
 omega
theorem key_syms {ns : List LN} {l : List Int} {k : Nat} (h : ns.map LN.key = zdm l k) : natV (ns.map LN.s) = (zaf l k).map (Value.int .i64) := by
 rw [← zcL, ← h, List.map_map]
 unfold natV
 rw [List.map_map, List.map_map]; rfl
theorem outR_made {w : World} {base bo n : Nat} (h : w.ownsRow base 3 1 (.slice (some ⟨bo, 0, none⟩) n n) n (fl n fun _ => .int .i64 0)) : OutR w bo (List.replicate n 0) := by
 rcases h.2 with ⟨h1, -⟩ | ⟨g, cap, cur, hv, -, hg, -, -, hcs, htk⟩
 · cases h1
 · simp only [Value.slice.injEq, Option.some.injEq, Addr.mk.injEq] at hv
   obtain ⟨⟨rfl, -, -⟩, -, rfl⟩ := hv
   unfold OutR
   rw [hg, natV, List.map_replicate, zcx]
   rw [Nat.mul_one] at hcs htk
   rw [List.take_of_length_le (by rw [Array.length_toList, hcs]; exact Nat.le_refl _)] at htk
   rw [show cur = (fl n fun _ => Value.int .i64 0).toArray from by rw [← htk]]
   rfl
def posR (l : List Int) : List Nat := (List.range l.length).filter fun k => decide (0 < l.getD k 0)
theorem posR_of {l : List Int} {ns : List LN} (h : ns.map LN.key = zdm l l.length) : ns.map LN.s = posR l := by
 rw [key_s h]
 unfold zdm posR
 rw [List.map_map]
 exact List.map_id' _
theorem zcd (l : List Int) : (posR l).Nodup := List.Pairwise.filter _ List.nodup_range
theorem zdR (l : List Int) (k : Nat) : k ∈ posR l ↔ k < l.length ∧ 0 < l.getD k 0 := by
 unfold posR
 rw [List.mem_filter, List.mem_range, decide_eq_true_eq]
theorem zfI (l : List Int) : ∀ r ∈ posR l, r < l.length := fun r h => ((zdR l r).1 h).1
theorem zdk (l : List Int) : zaf l l.length = (posR l).map fun k : Nat => (k : Int) := rfl
theorem ord_of {l : List Int} {R : Array Int} (hP : PermIn 0 (zaf l l.length).toArray.size (zaf l l.length).toArray R) (hS : SortedIn (zbD l) 0 (zaf l l.length).toArray.size R) :
   ∃ R2 : List Nat, natV R2 = R.toList.map (Value.int .i64) ∧ R2.Perm (posR l) ∧ R2.length = R.size ∧ ∀ i j, (hi : i < R2.length) → (hj : j < R2.length) → i < j → l.getD R2[i] 0 ≤ l.getD R2[j] 0 := by
 have hsz : R.size = (zaf l l.length).length := by simpa using hP.1
 have hperm : R.toList.Perm (zaf l l.length) := by
   have h := hP.2.2
   have e1 : R.extract 0 (zaf l l.length).toArray.size = R := by rw [show (zaf l l.length).toArray.size = R.size from by simpa using hsz.symm]; simp
   have e2 : (zaf l l.length).toArray.extract 0 (zaf l l.length).toArray.size = (zaf l l.length).toArray := by simp
   rw [e1, e2] at h
   simpa using h
 have hnn : ∀ x ∈ R.toList, 0 ≤ x := fun x hx => by
   obtain ⟨k, -, -, rfl⟩ := zcO.1 (hperm.mem_iff.1 hx)
   omega
 refine ⟨R.toList.map Int.toNat, ?_, ?_, by simp, fun i j hi hj hij => ?_⟩
 · unfold natV
   rw [List.map_map]
   exact List.map_congr_left fun x hx => by
     show Value.int .i64 ((x.toNat : Nat) : Int) = _
     rw [Int.toNat_of_nonneg (hnn x hx)]
 · have h := hperm.map Int.toNat
   rw [zdk, List.map_map] at h
   have e : (posR l).map (Int.toNat ∘ fun k : Nat => (k : Int)) = posR l := List.map_id' _
   rwa [e] at h
 · have hi' : i < R.size := by simpa using hi
   have hj' : j < R.size := by simpa using hj
   have h := hS i j (Nat.zero_le _) hij (by simpa [hsz] using hj')
   rw [getElem!_pos R i hi', getElem!_pos R j hj'] at h
   simp only [zbD, Bool.or_eq_false_iff, Bool.and_eq_false_iff, decide_eq_false_iff_not] at h
   simp only [List.getElem_map, Array.getElem_toList]
   omega
theorem one_D {D : List Nat} (h1 : D.length = 1) (h2 : ∀ x ∈ D, 1 ≤ x ∧ x ≤ 1) : D = [1] := by
 match D, h1 with
 | [x], _ => have := h2 x (List.mem_singleton_self _); rw [show x = 1 from by omega]
theorem good_none {l : List Int} {most : Nat} (h : posR l = []) : zb8 l most (zaf l l.length).length (List.replicate l.length 0) := by
 have h0 : (zaf l l.length).length = 0 := by rw [zdk, h]; rfl
 rw [h0]
 exact zeo (R := []) (D := []) List.nodup_nil (fun k => by rw [← h]; exact zdR l k) (fun i j hi => by simp at hi) rfl (fun d hd => by simp at hd) (fun i j _ hj => by simp at hj) (by simp [sumW]) (fun h => by simp at h) (fun h => by simp at h)
theorem good_one {l : List Int} {most : Nat} {R D : List Nat} (hp : R.Perm (posR l)) (h1 : R.length = 1) (hD : D.length = R.length) (hd : ∀ x ∈ D, 1 ≤ x ∧ x ≤ R.length) (hm : 1 ≤ most) : zb8 l most (zaf l l.length).length (rowR l.length R D) := by
 rw [h1] at hd hD
 obtain rfl := one_D hD hd
 have hs : (zaf l l.length).length = R.length := by rw [zdk, List.length_map, hp.length_eq]
 rw [hs]
 exact zeo (hp.nodup_iff.2 (zcd l)) (fun k => by rw [hp.mem_iff]; exact zdR l k) (fun i j hi hj hij => by omega) (by rw [h1]; rfl) (fun d hd => by rw [List.mem_singleton] at hd; omega) (fun i j hij hj => by
   have hj1 : j < 1 := hj
   have : i = j := by omega
   subst this; exact Nat.le_refl _) (by simp [sumW, zaw]) (fun h => by omega) (fun _ d hd => by rw [List.mem_singleton] at hd; omega)
theorem good_many {l : List Int} {most : Nat} {R D E : List Nat} (hp : R.Perm (posR l)) (hS : ∀ i j, (hi : i < R.length) → (hj : j < R.length) → i < j → l.getD R[i] 0 ≤ l.getD R[j] 0) (h2 : 2 ≤ R.length) (hE : E.length = R.length)
   (hP : ∀ d ∈ E, 1 ≤ d ∧ d ≤ most) (hs : sumW E = 32768) (hD : D.Perm E) (hT : ∀ i j, i ≤ j → j < D.length → D.getD j 0 ≤ D.getD i 0) : zb8 l most (zaf l l.length).length (rowR l.length R D) := by
 have hs2 : (zaf l l.length).length = R.length := by rw [zdk, List.length_map, hp.length_eq]
 rw [hs2]
 have hsD : sumW D = 32768 := (zeG hD).trans hs
 exact zeo (hp.nodup_iff.2 (zcd l)) (fun k => by rw [hp.mem_iff]; exact zdR l k) hS (by rw [hD.length_eq, hE]) (fun d hd => hP d (hD.mem_iff.1 hd)) hT (by omega) (fun _ => hsD) (fun h => by omega)
end Go.Proofs.YtkikhmdpcanidaaGreat
namespace Go.Proofs.YtkikhmdpcanidaaGreat
open Go.RowKit Go.Shelf
attribute [local go_sem] Oper.semAt_some
def KpC (bo br : Nat) (W W' : World) : Prop := ∀ b, b ≠ bo → b ≠ br → ∀ o : Obj, W.heap[b]? = some o → o.isCells = true → W'.heap[b]? = some o
theorem kpC_t {bo br : Nat} {A B C : World} (h : KpC bo br A B) (k : KpC bo br B C) : KpC bo br A C := fun b h1 h2 o ho hc => k b h1 h2 o (h b h1 h2 o ho hc) hc
theorem kpC_b {bo br : Nat} {w : World} (W : World) (l : Nat) (o o' : Obj) (_ : w.heap.size ≤ l) (h : W.heap[l]? = some o) (hc : o.isCells = false) (_ : o.isWalk = false) : KpC bo br W (W.putObj l o') := fun b _ _ o1 ho h1 => by
 have hne : b ≠ l := fun e => by
   subst e
   rw [h] at ho
   cases ho
   rw [hc] at h1; cases h1
 exact (World.putObj_heap_other hne).trans ho
theorem KpC.cell {bo br : Nat} {W W' : World} (h : KpC bo br W W') {b k : Nat} {v : Value} (h1 : b ≠ bo) (h2 : b ≠ br) (hc : W.cell? ⟨b, k, none⟩ = some v) : W'.cell? ⟨b, k, none⟩ = some v := by
 obtain ⟨o, ho, hi⟩ := cells_of_cell hc
 rw [World.cell?_of_block (w := W) (a := ⟨b, k, none⟩) ((h b h1 h2 o ho hi).trans ho.symm)]
 exact hc
theorem back_any (a : Option Addr) (n cap : Nat) (w : World) :
   Calls Tryz.prog 142 #[.slice a n cap] w fun e w' => e = .returned (.func (.func 147) #[] #[.pointer (some ⟨w.heap.size, 0, none⟩)]) ∧ w' = w.alloc (.cells #[.slice a n cap] 34) := by
 go_enter Tryz.func142, Tryz.ntmps142
 go_wp2
 go_ret
 exact ⟨rfl, rfl⟩
theorem rev_take {c r : Nat} (h : r < c) : (List.range c).reverse.take (c - r) = (List.range c).reverse.take (c - (r + 1)) ++ [r] := by
 have e : c - r = (c - (r + 1)) + 1 := by omega
 rw [e, List.take_add_one, List.getElem?_reverse (by simp; omega)]
 congr 1
 rw [List.length_range, show c - 1 - (c - (r + 1)) = r from by omega, List.getElem?_range h]; rfl
set_option maxRecDepth 100000 in
theorem back1_in (n : Nat) (hro : Fence.wide.round = none) (hn : 1 ≤ n) (l Bs og c cap bo br : Nat) (f : Nat → Nat) (hc : c ≤ 1000000) (h1 : Bs ≠ bo) (h2 : Bs ≠ br) (h3 : og ≠ bo) (h4 : og ≠ br) (J Jx : List (Fin c) → World → Prop)
   (hY : ∀ pre x W, J pre W → pre.length < c → YieldAt Fence.wide (n - 1) Tryz.prog l #[.int .i64 (x.val : Int), .int .i64 (f x.val : Nat)] W fun e W' =>
     (e = .returned (.bool true) ∧ J (pre ++ [x]) W' ∧ KpC bo br W W') ∨ (e = .returned (.bool false) ∧ Jx (pre ++ [x]) W'))
   (W : World) (hBs : W.cell? ⟨Bs, 0, none⟩ = some (.slice (some ⟨og, 0, none⟩) c cap)) (hcs : ∀ j, j < c → W.cell? ⟨og, j, none⟩ = some (.int .i64 (f j : Nat))) (h0 : J [] W) :
   CallsIn Fence.wide n Tryz.prog 147 #[.func (.yield l) #[] #[], .pointer (some ⟨Bs, 0, none⟩)] W fun e W' => (∃ v, e = .returned v) ∧
     ((∃ ys : List (Fin c), ys.map Fin.val = (List.range c).reverse ∧ J ys W') ∨ (∃ pre : List (Fin c), True ∧ Jx pre W')) := by
 have hw1 : IntKind.i64.wrap ((c : Int) - 1) = (c : Int) - 1 := IntWalk.i64_in _ (by omega)
 refine callsIn_of_wp Tryz.func147 rfl trivial ?_ hro
 simp only [Tryz.ntmps147, List.size_toArray, List.length_cons, List.length_nil, Nat.reduceAdd, Nat.reduceSub, Array.replicate_succ, Array.replicate_zero, List.push_toArray, List.append_toArray, List.nil_append, List.cons_append]
 gi_wp2
 gi_loopw [3] (fun i wr => ∃ r : Nat, r ≤ c ∧ i = .int .i64 ((r : Int) - 1) ∧ ∃ pre : List (Fin c), pre.map Fin.val = (List.range c).reverse.take (c - r) ∧ J pre wr ∧ KpC bo br W wr)
   (fun i _ => (intOf i + 1).toNat)
 case atStart => exact ⟨c, Nat.le_refl _, rfl, [], by simp, h0, fun _ _ _ _ h _ => h⟩
 case round =>
   obtain ⟨r, hr, rfl, pre, hp, hJs, hk⟩ := hrel
   have e1 := hk.cell h1 h2 hBs
   cases r with
   | zero =>
     gi_wp2
     go_end0
     exact ⟨⟨_, rfl⟩, .inl ⟨pre, by rw [hp]; simp [List.take_of_length_le], hJs⟩⟩
   | succ r =>
     have hw2 : ((r + 1 : Nat) : Int) - 1 = (r : Int) := by omega
     rw [hw2]
     have e2 := hk.cell h3 h4 (hcs r (by omega))
     have hlen : pre.length < c := by
       have := congrArg List.length hp
       simp at this; omega
     have hri : (r : Int) < (c : Int) := by omega
     have hge : decide ((r : Int) ≥ 0) = true := decide_eq_true (by omega)
     have hw3 : IntKind.i64.wrap ((r : Int) - 1) = (r : Int) - 1 := IntWalk.i64_in _ (by omega)
     obtain ⟨fn, tmps, assign, body, hy, hR⟩ := hY pre ⟨r, by omega⟩ wr hJs hlen
     dsimp only at hy
     gi_wp2
     refine hR.mono ?_
     rintro e W3 (⟨rfl, hJ3, hk3⟩ | ⟨rfl, hJx3⟩)
     · gi_wp2
       go_roundw
       case rel => exact ⟨r, by omega, rfl, _, by rw [List.map_append, hp]; exact (rev_take (by omega)).symm, hJ3, kpC_t hk hk3⟩
       case measure => simp [intOf]
     · gi_wp2
       refine bodyPost_ret (results_none rfl _ _ _) rfl ?_
       exact ⟨⟨_, rfl⟩, .inr ⟨_, trivial, hJx3⟩⟩
theorem back_stops (n : Nat) (hro : Fence.wide.round = none) (hn : 1 ≤ n) (Bs og c cap bo br : Nat) (f : Nat → Nat) (hc : c ≤ 1000000) (h1 : Bs ≠ bo) (h2 : Bs ≠ br) (h3 : og ≠ bo) (h4 : og ≠ br) (w : World)
   (hBs : w.cell? ⟨Bs, 0, none⟩ = some (.slice (some ⟨og, 0, none⟩) c cap)) (hcs : ∀ j, j < c → w.cell? ⟨og, j, none⟩ = some (.int .i64 (f j : Nat))) :
   SeqStopsK Fence.wide n Tryz.prog 147 #[.pointer (some ⟨Bs, 0, none⟩)] (fun x : Fin c => #[.int .i64 (x.val : Int), .int .i64 (f x.val : Nat)]) (KpC bo br) (fun ys => ys.map Fin.val = (List.range c).reverse) (fun _ => True) c w := by
 intro l J Jx W hW _ _ hY h0
 exact back1_in n hro hn l Bs og c cap bo br f hc h1 h2 h3 h4 J Jx hY W ((hW.cell (p := ⟨Bs, 0, none⟩) (World.block_lt_of_cell? w _ hBs)).trans hBs) (fun j hj => (hW.cell (p := ⟨og, j, none⟩) (World.block_lt_of_cell? w _ (hcs j hj))).trans (hcs j hj)) h0
end Go.Proofs.YtkikhmdpcanidaaGreat
namespace Go.Proofs.YtkikhmdpcanidaaGreat
open Go.RowKit
section
variable {F : Fence} {n : Nat} {P : Program} {ops : Array Oper} {Q : Exit → Act → World → Prop} {l : Nat}
theorem op_round {o : Oper} {a : Act} {w : World} {K : Act → World → Prop} (hnd : ∀ c, o.op ≠ .defer c) (h : o.wpIn F n P a w K Q) : o.wpIn (F.inRound l) n P a w K Q := by
 unfold Oper.wpIn at h ⊢
 rw [Oper.semAt_eq _ _ _ hnd] at h ⊢
 exact h
theorem wpOpIn_round {i : Nat} {K : Act → World → Prop} {a : Act} {w : World} (hnd : ∀ o ∈ ops.toList, ∀ c, o.op ≠ .defer c) (h : wpOpIn F n P ops Q i K a w) : wpOpIn (F.inRound l) n P ops Q i K a w := by
 unfold wpOpIn at h ⊢
 cases ho : ops[i]? with
 | none => rw [ho] at h; exact h
 | some o =>
   rw [ho] at h
   simp only at h ⊢
   have hm : o ∈ ops.toList := by
     obtain ⟨hi, e⟩ := Array.getElem?_eq_some_iff.1 ho
     rw [← e]; exact Array.mem_toList_iff.2 (Array.getElem_mem hi)
   split
   · rename_i hw
     rw [if_pos hw] at h
     exact op_round (hnd o hm) h
   · rename_i hw
     rw [if_neg hw] at h
     exact h
theorem zdb (hnd : ∀ o ∈ ops.toList, ∀ c, o.op ≠ .defer c) : ∀ (sched : List Nat) (a : Act) (w : World), wpOpsIn F n P ops Q sched a w → wpOpsIn (F.inRound l) n P ops Q sched a w
 | [], _, _, h => h
 | i :: rest, a, w, h => by
   rw [wpOpsIn_cons] at h ⊢
   exact wpOpIn_mono (fun a w => zdb hnd rest a w) (wpOpIn_round hnd h)
theorem zbx {id : Nat} {a : Act} {w : World} {ll : List Oper} (hnd : ∀ o ∈ ll, ∀ c, o.op ≠ .defer c) (hro : F.round = none) (hm : P.follows .mixedOrders = true) (hB : Region.lexB .any ll.toArray = true)
   (h : wpQuietIn F n P ll.toArray (fun w' => ∃ n, w' = w.drewN n) (fun a' => ∀ w', (∃ n, w' = w.drewN n) → Q .normal a' w') ll a) : (Code.region id ll.toArray true).wpIn (F.inRound l) n P Q a w := by
 simp only [Region.lexB, Bool.and_eq_true] at hB
 refine wpIn_region_draw fun t => ?_
 simp only [Region.schedule, hm, Bool.true_or, if_true]
 refine zdb (by simpa using hnd) _ _ _ (wpAnyIn_sound _ t _ a _ (wpAnyIn_of_quiet (C := fun w' => ∃ n, w' = w.drewN n) (Q := fun a' => ∀ w', (∃ n, w' = w.drewN n) → Q .normal a' w') hro (fun _ w' hw' h => h w' hw') _ _ _ _ ⟨1, rfl⟩ ?_))
 have := wpAnyQIn_lex (F := F) (n := n) (C := fun w' => ∃ n, w' = w.drewN n) (md := .any) hB.1 ll.toArray.toList 0 (Array.replicate ll.toArray.size false) a (by simp) (by simpa using hB.2) (by simpa using h)
 simpa using this
end
end Go.Proofs.YtkikhmdpcanidaaGreat
namespace Go.Proofs.YtkikhmdpcanidaaGreat
open Go.RowKit Go.Shelf
attribute [local go_sem] Oper.semAt_some
def zfO (w : World) (a : Addr) : Int :=
 match w.cell? a with
 | some (.int _ x) => x
 | _ => 0
def ptrN (v : Value) (w : World) : Int :=
 match v with
 | .pointer (some a) => zfO w a
 | _ => 0
theorem zcK {w : World} {a : Addr} {k : IntKind} {x : Int} (h : w.cell? a = some (.int k x)) : zfO w a = x := by unfold zfO; rw [h]
theorem zb2 {W W' : World} (h : KeepsOthers W W') (q : Nat) : KeepsOthers W (W'.drewN q) := ⟨h.size, fun k o hk ho => h.same k o hk ho⟩
theorem kp_set {bo br : Nat} {W W' : World} (h : KpC bo br W W') {b k : Nat} (hb : b = bo ∨ b = br) (v : Value) : KpC bo br W (W'.setCell ⟨b, k, none⟩ v) := fun c h1 h2 o ho hc => by
 rw [heap_setCell_other _ _ _ _ (by show c ≠ b; rcases hb with rfl | rfl <;> assumption)]
 exact h c h1 h2 o ho hc
def CutI (w : World) (bo og n : Nat) (R M : List Nat) (pre : List (Fin R.length)) (W : World) : Prop :=
 ∃ (D : List Nat) (r : Nat), (pre.map Fin.val).foldl stpS (M, 32768 - sumW M) = (D, r) ∧ (∀ z ∈ D, z ≤ 15) ∧ r ≤ 32768 ∧ CutM W bo w.heap.size (w.heap.size + 1) og n R D r ∧ zaa (fun b => b = bo) w W
theorem cutI_own {w : World} {bo og n B : Nat} {R M : List Nat} (h1 : bo < B) (h2 : w.heap.size + 1 < B) (h3 : og < B) : OwnFrom B (CutI w bo og n R M) := fun pre A W row hs hg hr => by
 obtain ⟨D, r, hf, hz, hr2, hC, hK⟩ := hs
 have hk : zaa (fun b => B ≤ b) A W := zaa.of_grown hg fun k hk => (hr k hk).1
 exact ⟨D, r, hf, hz, hr2, hC.keep hk (by omega) (by omega) (by omega) (by omega), hK.trans hk fun b hb => .inr (by omega)⟩
set_option maxRecDepth 100000 in
theorem cut_any {w : World} {bo og n ocap limit g : Nat} {R D M : List Nat} (hO : OutR w bo (rowR n R D)) (hord : Row w 1 (some ⟨og, 0, none⟩) R.length ocap (natV R)) (hne : og ≠ bo) (hog : og < w.heap.size)
   (hR : R.length ≤ 400) (hD : D.length = R.length) (hnd : R.Nodup) (hlt : ∀ r ∈ R, r < n) (hD1 : ∀ x ∈ D, 1 ≤ x ∧ x ≤ 1000) (h1 : 1 ≤ limit) (h15 : limit ≤ 15)
   (hM : zbn limit g (D.map fun x => min x limit) = some M) :
   Calls Tryz.prog 134 #[.slice (some ⟨bo, 0, none⟩) n n, .slice (some ⟨og, 0, none⟩) R.length ocap, .int .i64 limit] w fun e w' => e = .returned (.tuple #[]) ∧ OutR w' bo (rowR n R (zat M.reverse (32768 - sumW M)).1.reverse) ∧ zaa (fun b => b = bo) w w' := by
 have hbo := hO.lt
 have hC0 : CutM ((w.alloc (.cells #[.slice (some ⟨bo, 0, none⟩) n n] 34)).alloc (.cells #[.int .i64 32768] 3)) bo w.heap.size (w.heap.size + 1) og n R D 32768 := by
   have k : zaa (fun _ => False) w ((w.alloc (.cells #[.slice (some ⟨bo, 0, none⟩) n n] 34)).alloc (.cells #[.int .i64 32768] 3)) := ((zaa.refl _ w).alloc _).alloc _
   refine ⟨hO.keep k id, ?_, ?_, fun i hi => ?_, hD, hnd, hlt, by omega, by omega, by omega, hne, by omega, by omega⟩
   · rw [Below.heap_alloc _ _ _ (by rw [zad]; omega)]; exact heap_alloc_new w _
   · have := heap_alloc_new (w.alloc (.cells #[.slice (some ⟨bo, 0, none⟩) n n] 34)) (.cells #[.int .i64 32768] 3)
     rwa [zad] at this
   · obtain ⟨b, off, e, -, hc⟩ := hord.2.2.2.2 (by omega)
     simp only [Option.some.injEq, Addr.mk.injEq, and_true] at e
     obtain ⟨rfl, rfl⟩ := e
     have := hc i _ (zc0 hi)
     rw [Nat.zero_add] at this
     exact k.cell this id
 have HC0 := Lib.hid hC0
 have HM := Lib.hid hM
 have HD1 := Lib.hid hD1
 have HBO := Lib.hid hbo
 have HOG := Lib.hid hog
 have HDL := Lib.hid hD
 clear hC0 hM hD1 hO hord hbo hog hD hnd hlt
 refine (callsIn_wide (n := 5)).1 ?_
 refine callsIn_of_wp_marks Tryz.func134 rfl trivial ?_ rfl
 simp only [Tryz.ntmps134, List.size_toArray, List.length_cons, List.length_nil, Nat.reduceAdd, Nat.reduceSub, Array.replicate_succ, Array.replicate_zero, List.push_toArray, List.append_toArray, List.nil_append, List.cons_append]
 refine wpIn_wide.2 ?_
 go_wp2_with fail
 go_loopw [15] (fun v wr => ∃ i : Nat, v = .int .i64 i ∧ i ≤ R.length ∧ Hid (CutM wr bo w.heap.size (w.heap.size + 1) og n R (minN limit D i) (zeT limit D i)) ∧ Hid (zaa (fun b => b = bo) w wr)) (fun v _ => R.length - (intOf v).toNat)
 case atStart => exact ⟨0, rfl, Nat.zero_le _, by rw [minN_zero]; exact HC0, Lib.hid (((zaa.refl _ w).alloc _).alloc _)⟩
 case round =>
   obtain ⟨i, rfl, hi, HC, HK⟩ := hrel
   by_cases hlt : i < R.length
   case neg =>
     have hie : i = R.length := by omega
     subst hie
     have HC1 := Lib.hid (show CutM wr bo w.heap.size (w.heap.size + 1) og n R (D.map fun x => min x limit) (32768 - (sumW (D.map fun x => min x limit) : Nat)) from by
       have h := HC.out
       rw [← HDL.out, minN_all] at h
       unfold zeT at h
       rw [List.take_of_length_le (Nat.le_refl _)] at h
       exact h)
     have HIL := Lib.hid (show InL limit (D.map fun x => min x limit) from fun x hx => by
       obtain ⟨y, hy, rfl⟩ := List.mem_map.1 hx
       have := HD1.out y hy
       omega)
     generalize (D.map fun x => min x limit) = D0 at HC1 HIL HM
     clear HC HC0 HD1 HDL hlt
     go_wp2_with fail
     go_loopw [36] (fun _ wr => ∃ (g : Nat) (D : List Nat), zbn limit g D = some M ∧ Hid (InL limit D) ∧ Hid (CutM wr bo w.heap.size (w.heap.size + 1) og n R D (32768 - (sumW D : Nat))) ∧ Hid (zaa (fun b => b = bo) w wr)) (fun _ wr => (- zfO wr ⟨w.heap.size + 1, 0, none⟩).toNat)
     case atStart => exact ⟨g, D0, HM.out, HIL, HC1, HK⟩
     case round =>
       clear HC1 HIL HM HK
       obtain ⟨g, D, hM, HIL, HC, HK⟩ := hrel
       have zr := HC.out.crm
       by_cases hs : sumW D ≤ 32768
       · have hsi : decide ((32768 : Int) - (sumW D : Nat) < 0) = false := decide_eq_false (by omega)
         obtain rfl := cutLoop_stop hM hs
         have hwr : w.heap.size + 1 < wr.heap.size := (Array.getElem?_eq_some_iff.1 HC.out.rm).1
         have HML := Lib.hid HC.out.len
         have hI0 : CutI w bo og n R M [] (wr.alloc (.cells #[.slice (some ⟨og, 0, none⟩) R.length ocap] 34)) :=
           ⟨M, 32768 - sumW M, rfl, fun z hz => by have := HIL.out z hz; omega, by omega, by
             have := HC.out.alloc (.cells #[.slice (some ⟨og, 0, none⟩) R.length ocap] 34)
             rwa [show (32768 : Int) - (sumW M : Nat) = ((32768 - sumW M : Nat) : Int) from by omega] at this, HK.out.alloc _⟩
         have hbs := cell_of_row _ _ 0 _ _ _ (heap_alloc_new wr (.cells #[.slice (some ⟨og, 0, none⟩) R.length ocap] 34))
         have hord : ∀ j, j < R.length → (wr.alloc (.cells #[.slice (some ⟨og, 0, none⟩) R.length ocap] 34)).cell? ⟨og, j, none⟩ = some (.int .i64 (R.getD j 0 : Nat)) := fun j hj => (HC.out.alloc _).ord j hj
         have hsz := zad wr (.cells #[.slice (some ⟨og, 0, none⟩) R.length ocap] 34)
         have HI0 := Lib.hid hI0
         have HORD := Lib.hid hord
         have HSZ := Lib.hid hsz
         have HBS := Lib.hid hbs
         clear hI0 hbs hord hsz HC HIL HK hs hM
         go_wp2_with (go_at_call 142; refine (back_any _ _ _ _).mono ?_; rintro e w2 ⟨rfl, hw2⟩; rw [← hw2] at HI0 HORD HSZ HBS; have HW2 := Lib.hid hw2; clear hw2)
         refine (wpIn_wide (n := 5)).1 ?_
         obtain ⟨f, hf⟩ : ∃ f : Nat → Nat, f = fun i => R.getD i 0 := ⟨_, rfl⟩
         have hfe : ∀ i, R.getD i 0 = f i := fun i => by rw [hf]
         have HFE := Lib.hid hfe
         clear hf hfe
         have hbo := HBO.out
         have hog := HOG.out
         have hs2 := HSZ.out
         refine' wpIn_rangeFunc_ownF (F := Fence.wide) (n := 5) rfl (by omega) (gf := 147) (lb := #[.pointer (some ⟨wr.heap.size, 0, none⟩)]) rfl trivial (enters_of Tryz.func147 (by kernel_rfl) rfl)
           (back_stops 4 rfl (by omega) wr.heap.size og R.length ocap bo (w.heap.size + 1) f (by omega) (by omega) (by omega) hne (by omega) w2 HBS.out (fun j hj => by rw [← HFE.out]; exact HORD.out j hj)) kpC_t kpC_b (Below.refl _ _) (fun _ => rfl)
           (CutI w bo og n R M) (fun _ _ _ => False) (cutI_own (by omega) (by omega) (by omega)) (fun _ _ _ _ _ hs _ _ => hs) HI0.out _ ?assign ?body ?done ?stop
         case assign =>
           intro l x W K hK
           gi_wp2
           exact hK
         case body =>
           rintro l pre ⟨i, hi⟩ W ⟨D, r, hf, hz, hr2, hC, hK⟩ hlt
           obtain ⟨⟨yl, rl⟩, hsh⟩ : ∃ s, s = zaH (D.getD i 0) r := ⟨_, rfl⟩
           have HF := Lib.hid (show (((pre ++ [(⟨i, hi⟩ : Fin R.length)]).map Fin.val).foldl stpS (M, 32768 - sumW M)) = (D.set i yl, rl) from by
             rw [List.map_append, List.foldl_append, hf]
             exact stp_one hsh.symm)
           have hkn := (hC.at hi).1
           have hil : i < D.length := by rw [hC.len]; exact hi
           have hy0 := hz _ (zdd hil)
           have HI1 := Lib.hid (show CutM W bo w.heap.size (w.heap.size + 1) og n R (D.set i (D.getD i 0)) r from by rw [set_get]; exact hC)
           have HSH := Lib.hid hsh
           have HZ := Lib.hid hz
           have HK := Lib.hid hK
           have HIL := Lib.hid hil
           obtain ⟨y0, hy0e⟩ : ∃ y0, y0 = D.getD i 0 := ⟨_, rfl⟩
           rw [← hy0e] at HSH HI1 hy0
           clear hf hz hC hK hsh hil hy0e hlt
           gi_wp2
           gi_loopw [68] (fun _ wr => ∃ (y r' : Nat), zaH y r' = (yl, rl) ∧ y ≤ 15 ∧ r' ≤ 32768 ∧ Hid (CutM wr bo w.heap.size (w.heap.size + 1) og n R (D.set i y) r') ∧ Hid (zaa (fun b => b = bo) w wr) ∧ Hid (KeepsOthers W wr ∧ KpC bo (w.heap.size + 1) W wr)) (fun _ wr => (zfO wr ⟨bo, f i, none⟩).toNat)
           case atStart => exact ⟨y0, r, HSH.out.symm, hy0, hr2, HI1, HK, Lib.hid ⟨KeepsOthers.refl _, fun _ _ _ _ h _ => h⟩⟩
           case round =>
             obtain ⟨y, r', hs, hy, hr', HC, HK', HKO⟩ := hrel
             obtain ⟨z1, -, z3⟩ := HC.out.at hi
             rw [zcj HIL.out] at z3
             rw [HFE.out] at z1 z3
             have zb := HC.out.cbox
             have zr := HC.out.crm
             have f1 := HC.out.frm
             have f2 := HC.out.fout (f i)
             have HS := Lib.hid hs
             generalize hk : f i = k at z1 z3 f2 ⊢
             have HKE := Lib.hid hk
             have hkn2 : (k : Int) < (n : Int) := by omega
             have hsh : (32768 : Int) / 2 ^ y = (zaw y : Int) := by unfold zaw; norm_cast
             have hrl := zdU y
             clear hs hk hkn
             have key : y ≤ 1 ∨ 2 ≤ y ∧ r' < zaw y ∨ 2 ≤ y ∧ zaw y ≤ r' := by omega
             rcases key with h2 | ⟨h2, h3⟩ | ⟨h2, h3⟩
             · as_aux_lemma =>
                 have d1 : decide ((y : Int) > 1) = false := decide_eq_false (by omega)
                 have d1' : ((1 : Int) < y) = False := eq_false (by omega)
                 have hfin := zei (y := y) (r := r') (.inl h2)
                 gi_wp2
                 refine zbx (by simp) rfl (by kernel_rfl) (by kernel_rfl) ?_
                 repeat (gi_big_quiet_step (fail))
                 refine wpQuietIn_nil ?_
                 rintro _ ⟨nq, rfl⟩
                 gi_wp2
                 have hs := HS.out
                 rw [hfin] at hs
                 simp only [Prod.mk.injEq] at hs
                 obtain ⟨rfl, rfl⟩ := hs
                 exact ⟨zb2 HKO.out.1 nq, HKO.out.2, _, _, HF.out, le_set HZ.out hy, hr', HC.out.drewN nq, HK'.out.drewN nq⟩
             · as_aux_lemma =>
                 have d1 : decide ((y : Int) > 1) = true := decide_eq_true (by omega)
                 have d1' : ((1 : Int) < y) = True := eq_true (by omega)
                 have d2 : decide ((zaw y : Int) ≤ (r' : Int)) = false := decide_eq_false (by omega)
                 have d2' : ((zaw y : Int) ≤ (r' : Int)) = False := eq_false (by omega)
                 have hfin := zei (y := y) (r := r') (.inr h3)
                 gi_wp2
                 refine zbx (by simp) rfl (by kernel_rfl) (by kernel_rfl) ?_
                 repeat (gi_big_quiet_step (fail))
                 refine wpQuietIn_nil ?_
                 rintro _ ⟨nq, rfl⟩
                 gi_wp2
                 have hs := HS.out
                 rw [hfin] at hs
                 simp only [Prod.mk.injEq] at hs
                 obtain ⟨rfl, rfl⟩ := hs
                 exact ⟨zb2 HKO.out.1 nq, HKO.out.2, _, _, HF.out, le_set HZ.out hy, hr', HC.out.drewN nq, HK'.out.drewN nq⟩
             · as_aux_lemma =>
                 have d1 : decide ((y : Int) > 1) = true := decide_eq_true (by omega)
                 have d1' : ((1 : Int) < y) = True := eq_true (by omega)
                 have d2 : decide ((zaw y : Int) ≤ (r' : Int)) = true := decide_eq_true (by omega)
                 have d2' : ((zaw y : Int) ≤ (r' : Int)) = True := eq_true (by omega)
                 have HGO := Lib.hid (shrink_go (y := y) (r := r') h2 h3)
                 gi_wp2
                 refine zbx (by simp) rfl (by kernel_rfl) (by kernel_rfl) ?_
                 repeat (gi_big_quiet_step (fail))
                 refine wpQuietIn_nil ?_
                 rintro _ ⟨nq, rfl⟩
                 have HC5 := Lib.hid (HC.out.drewN nq)
                 have HK5 := Lib.hid (HK'.out.drewN nq)
                 have HO5 := Lib.hid (show KeepsOthers W (wr.drewN nq) ∧ KpC bo (w.heap.size + 1) W (wr.drewN nq) from ⟨zb2 HKO.out.1 nq, HKO.out.2⟩)
                 have HZ3 := Lib.hid z3
                 obtain ⟨w5, hw5⟩ : ∃ w5, wr.drewN nq = w5 := ⟨_, rfl⟩
                 rw [hw5] at HC5 HK5 HO5 ⊢
                 have z3 : w5.cell? ⟨bo, k, none⟩ = some (.int .i64 y) := by rw [← hw5]; exact z3
                 have zb := HC5.out.cbox
                 have zr := HC5.out.crm
                 have f1 := HC5.out.frm
                 have f2 := HC5.out.fout k
                 obtain ⟨rn, hrn⟩ : ∃ rn, rn = r' - zaw y := ⟨_, rfl⟩
                 obtain ⟨yn, hyn⟩ : ∃ yn, yn = y - 1 := ⟨_, rfl⟩
                 have hw6 : IntKind.i64.wrap ((r' : Int) - (zaw y : Int)) = (rn : Int) := by rw [IntWalk.i64_in _ (by omega)]; omega
                 have hw7 : IntKind.i64.wrap ((y : Int) - 1) = (yn : Int) := by rw [IntWalk.i64_in _ (by omega)]; omega
                 obtain ⟨w6, hw6e⟩ : ∃ w6, (w5.setCell ⟨w.heap.size + 1, 0, none⟩ (.int .i64 rn)).drewN 1 = w6 := ⟨_, rfl⟩
                 have HC6 := Lib.hid ((HC5.out.setR (rn : Int)).drewN 1)
                 rw [hw6e] at HC6
                 have g3 : w6.cell? ⟨bo, k, none⟩ = some (.int .i64 y) := by
                   have h := (HC6.out.at hi).2.2
                   rwa [zcj HIL.out, HFE.out, HKE.out] at h
                 have gb := HC6.out.cbox
                 have g2 := HC6.out.fout k
                 have HC7 := Lib.hid (HC6.out.setO hi yn)
                 rw [set_set2, HFE.out, HKE.out] at HC7
                 have HK7 := Lib.hid (show zaa (fun b => b = bo) w (w6.setCell ⟨bo, k, none⟩ (.int .i64 yn)) from by
                   rw [← hw6e]
                   exact ((HK5.out.setCell (a := ⟨w.heap.size + 1, 0, none⟩) (.inr (by show w.heap.size ≤ w.heap.size + 1; omega)) _).drewN 1).setCell (a := ⟨bo, k, none⟩) (.inl rfl) _)
                 have HO7 := Lib.hid (show KeepsOthers W (w6.setCell ⟨bo, k, none⟩ (.int .i64 yn)) ∧ KpC bo (w.heap.size + 1) W (w6.setCell ⟨bo, k, none⟩ (.int .i64 yn)) from by
                   rw [← hw6e]
                   exact ⟨(zb2 (HO5.out.1.trans (KeepsOthers.setCell _ _ _)) 1).trans (KeepsOthers.setCell _ _ _), kp_set (kp_set HO5.out.2 (.inr rfl) _) (.inl rfl) _⟩)
                 have HSN := Lib.hid (show zaH yn rn = (yl, rl) from by rw [hyn, hrn, ← HGO.out]; exact HS.out)
                 have hy5 : yn ≤ 15 := by omega
                 have hr5 : rn ≤ 32768 := by omega
                 have HM7 := Lib.hid (show (zfO (w6.setCell ⟨bo, k, none⟩ (.int .i64 yn)) ⟨bo, k, none⟩).toNat < (zfO wr ⟨bo, k, none⟩).toNat from by
                   have h := (HC7.out.at hi).2.2
                   rw [zcj HIL.out, HFE.out, HKE.out] at h
                   rw [zcK h, zcK HZ3.out]
                   omega)
                 have HWE := Lib.hid hw6e
                 clear hw5 HC HK' HKO HC6 HC5 HK5 HO5 hrn hyn hw6e HGO HS
                 gi_wp2
                 gi_region
                 all_goals
                   rw [show (w5.setCell ⟨w.heap.size + 1, 0, none⟩ (.int .i64 rn)).drew = w6 from HWE.out]
                   clear z3 zb zr f1 f2
                   gi_wp2
                   go_roundw
                   case rel => exact ⟨yn, rn, HSN.out, hy5, hr5, HC7, HK7, HO7⟩
                   case measure => exact HM7.out
         case done =>
           rintro Dd ys W hDl hS ⟨D, r, hf, -, -, hC, hK⟩ hKd
           rw [hS, stpS_all HML.out] at hf
           simp only [Prod.mk.injEq] at hf
           obtain ⟨rfl, rfl⟩ := hf
           have HC := Lib.hid hC
           have HK := Lib.hid hK
           clear hC hK hS
           gi_wp2
           refine ⟨by simp, .inl ⟨_, _, rfl, run_takeDeferred hKd, ?_⟩⟩
           refine ⟨_, results_none rfl _ _ _, ?_⟩
           exact ⟨rfl, (World.putObj_heap_other (by omega)).trans HC.out.out, HK.out.grown (grownBy_putObj' W Dd (.deferred none)) (fun k hk => .inr (by cases hk; omega))⟩
         case stop =>
           rintro Dd c pre W _ _ h _
           exact h.elim
       · have hsi : decide ((32768 : Int) - (sumW D : Nat) < 0) = true := decide_eq_true (by omega)
         obtain ⟨g', N, D', hT, hM'⟩ := cutLoop_go hM hs
         have HZR := Lib.hid zr
         have HIN := Lib.hid (show InL limit D' from (zc1 HIL.out (by omega) hT).1)
         have hwr : w.heap.size + 1 < wr.heap.size := (Array.getElem?_eq_some_iff.1 HC.out.rm).1
         obtain ⟨l1, hl1⟩ : ∃ l1, limit = l1 + 1 := ⟨limit - 1, by omega⟩
         have HL1 := Lib.hid hl1
         have hl2 : IntKind.i64.wrap ((limit : Int) - 1) = (l1 : Int) := by rw [IntWalk.i64_in _ (by omega)]; omega
         have hl3 : l1 ≤ 14 := by omega
         rw [hl1, Nat.add_sub_cancel] at hT
         have hsb : sumW D ≤ 400 * 32768 := Nat.le_trans (sumW_le D) (Nat.mul_le_mul_right _ (by rw [HC.out.len]; exact hR))
         clear hl1 hM
         go_wp2_with fail
         have HC3 := Lib.hid (HC.out.alloc (.cells #[.int .i64 l1] 3))
         have HK3 := Lib.hid (HK.out.alloc (.cells #[.int .i64 l1] 3))
         have HB3 := Lib.hid (heap_alloc_new wr (.cells #[.int .i64 l1] 3))
         have hb3 : w.heap.size + 2 ≤ wr.heap.size := hwr
         generalize wr.heap.size = b3 at HB3 hb3 ⊢
         generalize wr.alloc (.cells #[.int .i64 l1] 3) = w3 at HC3 HK3 HB3 ⊢
         go_loopw [9] (fun v wr => ∃ (b m : Nat), v = .pointer (some ⟨b, 0, none⟩) ∧ w.heap.size + 2 ≤ b ∧ m ≤ l1 ∧ zbl D m = some (N, D') ∧ Hid (wr.heap[b]? = some (.cells #[.int .i64 m] 3 (0, 0))) ∧ Hid (CutM wr bo w.heap.size (w.heap.size + 1) og n R D (32768 - (sumW D : Nat))) ∧ Hid (zaa (fun b => b = bo) w wr)) (fun v wr => (ptrN v wr).toNat)
         case atStart => exact ⟨b3, l1, rfl, hb3, Nat.le_refl _, hT, HB3, HC3, HK3⟩
         case round =>
           clear HC3 HK3 HB3 hT HC HK zr hwr hb3
           obtain ⟨b, m, rfl, hb, hm, hT, HB, HC, HK⟩ := hrel
           cases m with
           | zero => simp [zbl] at hT
           | succ m =>
             obtain ⟨p, hp0⟩ : ∃ p, p = m + 1 := ⟨_, rfl⟩
             obtain ⟨p2, hp2⟩ : ∃ p2, p2 = p + 1 := ⟨_, rfl⟩
             rw [← hp0] at HB
             have zn : wr.cell? ⟨b, 0, none⟩ = some (.int .i64 p) := by rw [cell_of_row wr b 0 _ _ _ HB.out]; rfl
             have HZN := Lib.hid zn
             have hge : decide ((p : Int) ≥ 1) = true := decide_eq_true (by omega)
             have HX := Lib.hid (idx_cut (cap := ocap) HC.out zn hR)
             have hbs : b < wr.heap.size := (Array.getElem?_eq_some_iff.1 HB.out).1
             have hw9 : IntKind.i64.wrap ((p : Int) + 1) = (p2 : Int) := by rw [IntWalk.i64_in _ (by omega)]; omega
             have hw8 : IntKind.i64.wrap ((p : Int) - 1) = (m : Int) := by rw [IntWalk.i64_in _ (by omega)]; omega
             have hsh : (32768 : Int) / 2 ^ p2 = (zaw p2 : Int) := by unfold zaw; norm_cast
             have hrl := zdU p2
             have hp := roomW_pos (x := p2) (by omega)
             have hp15 : p2 ≤ 15 := by omega
             have hp1 : 1 ≤ p := by omega
             have HT1 := Lib.hid hT
             have HPM := Lib.hid hM'
             have HP0 := Lib.hid hp0
             have HP2 := Lib.hid hp2
             clear hT hM' hp0 hp2
             go_wp2_with fail
             refine HX.out.mono ?_
             rintro e w2 ⟨⟨q, hq⟩, hcase⟩
             have HC2 := Lib.hid (show CutM w2 bo w.heap.size (w.heap.size + 1) og n R D (32768 - (sumW D : Nat)) from by rw [hq]; exact HC.out.drewN q)
             have HK2 := Lib.hid (show zaa (fun b => b = bo) w w2 from by rw [hq]; exact HK.out.drewN q)
             have HB2 := Lib.hid (show w2.heap[b]? = some (.cells #[.int .i64 p] 3 (0, 0)) from by rw [hq]; exact HB.out)
             clear hq zn HC HK HB
             rcases hcase with ⟨i, hi, rfl, hin, him⟩ | ⟨rfl, hno⟩
             · as_aux_lemma =>
                 have hD' := HT1.out
                 rw [HP0.out] at hin
                 rw [incTop_hit hin] at hD'
                 simp only [Option.some.injEq, Prod.mk.injEq] at hD'
                 obtain ⟨-, hD'⟩ := hD'
                 rw [← HP0.out, ← HP2.out] at hD'
                 have hge2 : decide ((i : Int) ≥ 0) = true := decide_eq_true (by omega)
                 have hil : (i : Int) < (R.length : Int) := by omega
                 obtain ⟨z1, z2, z3⟩ := HC2.out.at hi
                 rw [him] at z3
                 have zb := HC2.out.cbox
                 have f2 := HC2.out.fout (R.getD i 0)
                 have HSW := Lib.hid (sumW_inc (D := D) (i := i) (m := p) (by rw [HC2.out.len]; exact hi) him hp1 (by rw [← HP2.out]; exact hp15))
                 rw [← HP2.out, hD'] at HSW
                 have HC4 := Lib.hid ((HC2.out.setO hi p2).drewN 1)
                 rw [hD'] at HC4
                 generalize R.getD i 0 = k at z1 z2 z3 f2 HC4
                 have hkn : (k : Int) < (n : Int) := by omega
                 have HK4 := Lib.hid ((HK2.out.setCell (a := ⟨bo, k, none⟩) (.inl rfl) (.int .i64 p2)).drewN 1)
                 have HB4 := Lib.hid (show ((w2.setCell ⟨bo, k, none⟩ (.int .i64 p2)).drewN 1).heap[b]? = some (.cells #[.int .i64 p] 3 (0, 0)) from (heap_setCell_other _ _ _ _ (by show b ≠ bo; have := HBO.out; omega)).trans HB2.out)
                 clear hin him hD' HX HT1
                 go_wp2_with fail
                 go_region
                 obtain ⟨w4, hw4⟩ : ∃ w4, (w2.setCell ⟨bo, k, none⟩ (.int .i64 p2)).drewN 1 = w4 := ⟨_, rfl⟩
                 rw [show (w2.setCell ⟨bo, k, none⟩ (.int .i64 p2)).drew = w4 from hw4]
                 rw [hw4] at HC4 HK4 HB4
                 have q1 : w4.cell? ⟨b, 0, none⟩ = some (.int .i64 p) := by rw [cell_of_row w4 b 0 _ _ _ HB4.out]; rfl
                 have q2 := HC4.out.crm
                 have q3 := HC4.out.frm
                 have hw6 : 32768 - (sumW D : Int) + (zaw p2 : Int) = 32768 - (sumW D' : Int) := by
                   have := HSW.out
                   omega
                 clear zb z1 z2 z3 f2 hw4
                 go_wp2_with fail
                 go_region
                 have HC5 := Lib.hid ((HC4.out.setR (32768 - (sumW D' : Int))).drewN 1)
                 have HK5 := Lib.hid ((HK4.out.setCell (a := ⟨w.heap.size + 1, 0, none⟩) (.inr (by show w.heap.size ≤ w.heap.size + 1; omega)) (.int .i64 (32768 - (sumW D' : Int)))).drewN 1)
                 obtain ⟨w5, hw5⟩ : ∃ w5, (w4.setCell ⟨w.heap.size + 1, 0, none⟩ (.int .i64 (32768 - (sumW D' : Int)))).drewN 1 = w5 := ⟨_, rfl⟩
                 rw [show (w4.setCell ⟨w.heap.size + 1, 0, none⟩ (.int .i64 (32768 - (sumW D' : Int)))).drew = w5 from hw5]
                 rw [hw5] at HC5 HK5
                 clear hw5 hw6 HC4 HK4 HB4 q1 q2 q3
                 go_wp2_with fail
                 go_roundw
                 case rel => exact ⟨_, D', HPM.out, Lib.hid (HIN.out), HC5, HK5⟩
                 case measure =>
                   rw [zcK HC5.out.crm, zcK HZR.out]
                   have := HSW.out
                   omega
             · as_aux_lemma =>
                 have HT2 := Lib.hid (show zbl D m = some (N, D') from by
                   rw [HP0.out] at hno
                   rw [← incTop_miss hno]; exact HT1.out)
                 have zn := cell_of_row w2 b 0 _ _ _ HB2.out
                 have zn : w2.cell? ⟨b, 0, none⟩ = some (.int .i64 p) := by rw [zn]; rfl
                 have hge2 : decide ((-1 : Int) ≥ 0) = false := rfl
                 have hb2 : b < w2.heap.size := (Array.getElem?_eq_some_iff.1 HB2.out).1
                 have HH := Lib.hid (heap_alloc_new w2 (.cells #[.int .i64 m] 3))
                 have hm1 : m ≤ l1 := by have := HP0.out; omega
                 have hbw : w.heap.size + 2 ≤ w2.heap.size := by have := (Array.getElem?_eq_some_iff.1 HC2.out.rm).1; omega
                 clear hno HX HT1
                 go_wp2_with fail
                 refine ⟨⟨_, m, rfl, hbw, hm1, HT2.out, HH, Lib.hid (HC2.out.alloc _), Lib.hid (HK2.out.alloc _)⟩, ?_⟩
                 show (zfO _ _).toNat < (zfO _ _).toNat
                 rw [zcK HZN.out, zcK (x := (m : Int)) (k := .i64) (by rw [cell_of_row _ _ 0 _ _ _ HH.out]; rfl)]
                 have := HP0.out
                 omega
   have hcd : decide ((i : Int) < (R.length : Int)) = true := decide_eq_true (by omega)
   have hjl : (i : Int) < (R.length : Int) := by omega
   obtain ⟨z1, z2, z3⟩ := HC.out.at hlt
   have zb := HC.out.cbox
   have zr := HC.out.crm
   have f1 := HC.out.frm
   have f2 := HC.out.fout (R.getD i 0)
   have HB := Lib.hid (roomN_bd limit D i)
   have hx := minN_get limit D (i := i) (by rw [HDL.out]; exact hlt)
   rw [hx] at z3
   have HX := Lib.hid hx
   obtain ⟨hx1, hx2⟩ := HD1.out _ (zdd (R := D) (i := i) (by rw [HDL.out]; exact hlt))
   have hr0 := HB.out
   have HS := Lib.hid (roomN_step limit D (i := i) (by rw [HDL.out]; exact hlt))
   have HT := Lib.hid (minN_step limit D (i := i) (by rw [HDL.out]; exact hlt))
   generalize hk : R.getD i 0 = k at z1 z2 z3 f2
   have HKK := Lib.hid hk
   generalize hxx : D.getD i 0 = x at z3 hx1 hx2 HS HT
   generalize hrr : zeT limit D i = r at zr HC hr0 HS
   have hkn : (k : Int) < (n : Int) := by omega
   clear hx hk hxx hrr HB
   obtain ⟨y, hy⟩ : ∃ y, y = min x limit := ⟨_, rfl⟩
   have hy15 : y ≤ 15 := by omega
   have hsh : (32768 : Int) / 2 ^ y = (zaw y : Int) := by unfold zaw; norm_cast
   have hrl := zdU y
   rw [← hy] at HS HT
   have hmn : (if (x : Int) ≤ limit then (x : Int) else limit) = (y : Int) := by split <;> omega
   have go2 : ∀ (W : World), CutM W bo w.heap.size (w.heap.size + 1) og n R (minN limit D (i + 1)) r → W.cell? ⟨bo, k, none⟩ = some (.int .i64 y) := fun W h => by
     obtain ⟨-, -, h3⟩ := h.at hlt
     rw [HKK.out] at h3
     rw [h3, ← HT.out, List.getD_eq_getElem?_getD, List.getElem?_set_self (by rw [minN_len, HDL.out]; exact hlt)]; rfl
   have HC1 := Lib.hid (show CutM (wr.setCell ⟨bo, k, none⟩ (.int .i64 y)).drew bo w.heap.size (w.heap.size + 1) og n R (minN limit D (i + 1)) r from by
     have := (HC.out.setO hlt y).drewN 1
     rw [HT.out, HKK.out] at this
     exact this)
   have HK1 := Lib.hid (show zaa (fun b => b = bo) w (wr.setCell ⟨bo, k, none⟩ (.int .i64 y)).drew from (HK.out.setCell (a := ⟨bo, k, none⟩) (.inl rfl) _).drewN 1)
   have HG := Lib.hid go2
   clear go2 HC HK
   have key : x ≤ limit ∧ x = y ∨ ¬ x ≤ limit ∧ y = limit := by omega
   have hw6 : wrap64 (r - (zaw y : Int)) = zeT limit D (i + 1) := by
     rw [HS.out]
     have := HDL.out
     exact IntWalk.wrap64_in _ (by omega)
   have HY := Lib.hid hy
   clear hy hmn
   rcases key with ⟨hxl, hyx⟩ | ⟨hxl, hyx⟩
   · as_aux_lemma =>
       subst hyx
       have hmn : min (x : Int) (limit : Int) = (x : Int) := by omega
       go_wp2_with fail
       go_region
       obtain ⟨w1, hw1⟩ : ∃ w1, (wr.setCell ⟨bo, k, none⟩ (.int .i64 x)).drew = w1 := ⟨_, rfl⟩
       rw [hw1] at HC1 HK1 ⊢
       have q1 := HC1.out.cbox
       have q2 := HC1.out.crm
       have q3 := HC1.out.frm
       have q4 := HG.out _ HC1.out
       clear zb zr f1 f2 z3 z2
       go_wp2_with fail
       go_region
       rw [hw6]
       go_wp2_with fail
       go_roundw
       case rel => exact ⟨i + 1, by go_num, by omega, Lib.hid ((HC1.out.setR _).drewN 1), Lib.hid ((HK1.out.setCell (a := ⟨w.heap.size + 1, 0, none⟩) (.inr (by show w.heap.size ≤ w.heap.size + 1; omega)) _).drewN 1)⟩
       case measure => simp [intOf]; omega
   · as_aux_lemma =>
       subst hyx
       have hmn : min (x : Int) (y : Int) = (y : Int) := by omega
       go_wp2_with fail
       go_region
       obtain ⟨w1, hw1⟩ : ∃ w1, (wr.setCell ⟨bo, k, none⟩ (.int .i64 y)).drew = w1 := ⟨_, rfl⟩
       rw [hw1] at HC1 HK1 ⊢
       have q1 := HC1.out.cbox
       have q2 := HC1.out.crm
       have q3 := HC1.out.frm
       have q4 := HG.out _ HC1.out
       clear zb zr f1 f2 z3 z2
       go_wp2_with fail
       go_region
       rw [hw6]
       go_wp2_with fail
       go_roundw
       case rel => exact ⟨i + 1, by go_num, by omega, Lib.hid ((HC1.out.setR _).drewN 1), Lib.hid ((HK1.out.setCell (a := ⟨w.heap.size + 1, 0, none⟩) (.inr (by show w.heap.size ≤ w.heap.size + 1; omega)) _).drewN 1)⟩
       case measure => simp [intOf]; omega
end Go.Proofs.YtkikhmdpcanidaaGreat
namespace Go.Proofs
open Go.Shelf
def Tryz.sortInt_ren : Go.Shelf.Ren := ⟨fun | 6 => 143 | 15 => 149 | 14 => 148 | 28 => 160 | 29 => 161 | 20 => 137 | 21 => 153 | 22 => 154 | 23 => 155 | 24 => 156 | 25 => 157 | 26 => 158 | 27 => 159 | 46 => 163 | 47 => 164 | 48 => 165 | 49 => 166 | 50 => 167 | 57 => 169 | n => n, fun | 22 => 34 | 24 => 3 | 25 => 148 | 3 => 3 | 39 => 81 | 0 => 0 | 53 => 79 | 55 => 146 | 4 => 4 | 46 => 197 | 45 => 196 | 50 => 162 | 5 => 5 | 9 => 9 | 66 => 204 | 70 => 75 | 76 => 209 | 77 => 124 | n => n, fun | n => n⟩
theorem Tryz.sortInt : Go.Proofs.SlLaysF.n6 Tryz.prog Tryz.sortInt_ren := {
 mixed := by kernel_rfl
 f6 := ⟨Tryz.f143.name, by decide, Tryz.func143.trans (congrArg some (by kernel_rfl))⟩
 f14 := ⟨Tryz.f148.name, by decide, Tryz.func148.trans (congrArg some (by kernel_rfl))⟩
 f15 := Tryz.func149.trans (congrArg some (by kernel_rfl))
 f20 := ⟨Tryz.f137.name, by decide, Tryz.func137.trans (congrArg some (by kernel_rfl))⟩
 f21 := ⟨Tryz.f153.name, by decide, Tryz.func153.trans (congrArg some (by kernel_rfl))⟩
 f22 := ⟨Tryz.f154.name, by decide, Tryz.func154.trans (congrArg some (by kernel_rfl))⟩
 f23 := ⟨Tryz.f155.name, by decide, Tryz.func155.trans (congrArg some (by kernel_rfl))⟩
 f24 := ⟨Tryz.f156.name, by decide, Tryz.func156.trans (congrArg some (by kernel_rfl))⟩
 f25 := ⟨Tryz.f157.name, by decide, Tryz.func157.trans (congrArg some (by kernel_rfl))⟩
 f26 := ⟨Tryz.f158.name, by decide, Tryz.func158.trans (congrArg some (by kernel_rfl))⟩
 f27 := ⟨Tryz.f159.name, by decide, Tryz.func159.trans (congrArg some (by kernel_rfl))⟩
 f28 := Tryz.func160.trans (congrArg some (by kernel_rfl))
 f29 := Tryz.func161.trans (congrArg some (by kernel_rfl))
 f46 := ⟨Tryz.f163.name, by decide, Tryz.func163.trans (congrArg some (by kernel_rfl))⟩
 f47 := Tryz.func164.trans (congrArg some (by kernel_rfl))
 f48 := Tryz.func165.trans (congrArg some (by kernel_rfl))
 f49 := ⟨Tryz.f166.name, by decide, Tryz.func166.trans (congrArg some (by kernel_rfl))⟩
 f50 := ⟨Tryz.f167.name, by decide, Tryz.func167.trans (congrArg some (by kernel_rfl))⟩
 f57 := ⟨Tryz.f169.name, by decide, Tryz.func169.trans (congrArg some (by kernel_rfl))⟩
 t0 := Tryz.underlying0
 a0 := Tryz.isAgg0
 z0 := Tryz.sizeOf0
 v0 := Tryz.zeroValue0
 t3 := Tryz.underlying3
 a3 := Tryz.isAgg3
 z3 := Tryz.sizeOf3
 v3 := Tryz.zeroValue3
 t4 := Tryz.underlying4
 a4 := Tryz.isAgg4
 z4 := Tryz.sizeOf4
 v4 := Tryz.zeroValue4
 t5 := Tryz.underlying5
 a5 := Tryz.isAgg5
 z5 := Tryz.sizeOf5
 v5 := Tryz.zeroValue5
 t9 := Tryz.underlying9
 a9 := Tryz.isAgg9
 z9 := Tryz.sizeOf9
 v9 := Tryz.zeroValue9
 t22 := Tryz.underlying34
 a22 := Tryz.isAgg34
 z22 := Tryz.sizeOf34
 v22 := Tryz.zeroValue34
 a24 := Tryz.isAgg3
 z24 := Tryz.sizeOf3
 t25 := Tryz.underlying148
 a25 := Tryz.isAgg148
 z25 := Tryz.sizeOf148
 v25 := Tryz.zeroValue148
 t39 := Tryz.underlying81
 a39 := Tryz.isAgg81
 z39 := Tryz.sizeOf81
 v39 := Tryz.zeroValue81
 t45 := Tryz.underlying196
 a45 := Tryz.isAgg196
 z45 := Tryz.sizeOf196
 v45 := Tryz.zeroValue196
 t46 := Tryz.underlying197
 a46 := Tryz.isAgg197
 z46 := Tryz.sizeOf197
 v46 := Tryz.zeroValue197
 t50 := Tryz.underlying162
 a50 := Tryz.isAgg162
 z50 := Tryz.sizeOf162
 v50 := Tryz.zeroValue162
 t53 := Tryz.underlying79
 a53 := Tryz.isAgg79
 z53 := Tryz.sizeOf79
 v53 := Tryz.zeroValue79
 t55 := Tryz.underlying146
 a55 := Tryz.isAgg146
 z55 := Tryz.sizeOf146
 v55 := Tryz.zeroValue146
 t66 := Tryz.underlying204
 a66 := Tryz.isAgg204
 z66 := Tryz.sizeOf204
 v66 := Tryz.zeroValue204
 t70 := Tryz.underlying75
 a70 := Tryz.isAgg75
 z70 := Tryz.sizeOf75
 v70 := Tryz.zeroValue75
 t76 := Tryz.underlying209
 a76 := Tryz.isAgg209
 z76 := Tryz.sizeOf209
 v76 := Tryz.zeroValue209
 t77 := Tryz.underlying124
 a77 := Tryz.isAgg124
 z77 := Tryz.sizeOf124
 v77 := Tryz.zeroValue124 }
end Go.Proofs
namespace Go.Proofs.YtkikhmdpcanidaaGreat
open Go.RowKit Go.Sort
def encN (x : Nat) : Value := .int .i64 x
def cmpD (x y : Nat) : Int := cmpI y x
theorem zf0 (x y : Nat) : Go.Proofs.ltOf cmpD x y = decide (y < x) := by
 unfold Go.Proofs.ltOf cmpD cmpI
 by_cases h1 : (y : Int) < x
 · rw [if_pos h1]; simp; omega
 · rw [if_neg h1]
   by_cases h2 : (x : Int) < y
   · rw [if_pos h2]; simp; omega
   · rw [if_neg h2]; simp; omega
theorem swoD : SWO (Go.Proofs.ltOf cmpD) where
 irrefl x := by show Go.Proofs.ltOf cmpD x x = false; rw [zf0]; simp
 trans x y z h1 h2 := by
   change Go.Proofs.ltOf cmpD x y = true at h1
   change Go.Proofs.ltOf cmpD y z = true at h2
   show Go.Proofs.ltOf cmpD x z = true
   rw [zf0] at *; simp at *; omega
 ntrans x y z h1 h2 := by
   change Go.Proofs.ltOf cmpD x y = false at h1
   change Go.Proofs.ltOf cmpD y z = false at h2
   show Go.Proofs.ltOf cmpD x z = false
   rw [zf0] at *; simp at *; omega
theorem cmpS1_any (x y : Nat) (w : World) : Calls Tryz.prog 144 #[.int .i64 x, .int .i64 y] w fun e w' => e = .returned (.int .i64 (cmpD x y)) ∧ w' = w := by
 obtain ⟨R, hR⟩ : ∃ R, R = cmpD x y := ⟨_, rfl⟩
 have HC := Lib.hid (fun W => zdZ (y : Int) (x : Int) W)
 have hR2 : cmpI (y : Int) (x : Int) = R := hR.symm
 rw [hR2] at HC
 rw [← hR]
 clear hR hR2
 go_enter Tryz.func144, Tryz.ntmps144
 go_wp2_with (go_at_call 113; refine (HC.out _).mono ?_; rintro e w2 ⟨rfl, rfl⟩)
 go_ret
 exact ⟨rfl, rfl⟩
theorem putN_take (D : List Nat) (cur : Array Value) (h : D.length ≤ cur.size) : (putCells encN 0 D.toArray cur).toList.take D.length = natV D := by
 apply List.ext_getElem?
 intro i
 rw [List.getElem?_take]
 by_cases hi : i < D.length
 · rw [if_pos hi, zc0 hi, Array.getElem?_toList]
   unfold putCells
   rw [Array.getElem?_mapIdx, Array.getElem?_eq_getElem (by omega)]
   simp [hi, encN, List.getD]
 · rw [if_neg hi, List.getElem?_eq_none (by rw [zbG]; omega)]
theorem sort_int : SortISaid := by
 intro base g cap D w h hn
 obtain ⟨h1, h2⟩ := h
 rcases h2 with ⟨h3, _⟩ | ⟨g', cap', cur, hv, hbg, hg, hle, hcm, hcs, htk⟩
 · cases h3
 simp only [Value.slice.injEq, Option.some.injEq, Addr.mk.injEq] at hv
 obtain ⟨⟨rfl, _, _⟩, -, rfl⟩ := hv
 rw [Nat.mul_one] at hcs htk
 have hblk : g < w.heap.size := (Array.getElem?_eq_some_iff.1 hg).1
 have hH : Holds encN w g 0 D.toArray := by
   intro j hj
   have hj2 : j < D.length := by simpa using hj
   refine ⟨?_, frozen_of_row w g _ _ _ hg⟩
   rw [Nat.zero_add, cell_of_row w g j cur _ (0, 0) hg]
   have h5 : (cur.toList.take D.length)[j]? = (natV D)[j]? := by rw [htk]
   rw [List.getElem?_take, if_pos hj2, zc0 hj2, Array.getElem?_toList] at h5
   rw [h5]
   simp [encN, List.getD, hj2]
 have eg : ∀ args w, (callFunc 144 args).run Tryz.prog w = .ok (.enter 144 args) w := enters_of Tryz.func144 (by kernel_rfl) rfl
 have hcmp : CmpLays1 Tryz.prog 144 #[] encN cmpD g 0 D.toArray.size w := CmpReads.lays fun _ _ _ _ x y => (cmpS1_any x y _).mono fun _ _ ⟨h1, h2⟩ => ⟨h1, 0, h2⟩
 have hcon := Any.slices_SortFunc Tryz.sortInt encN (fun _ => rfl) cmpD swoD 144 #[] g 0 cap D.toArray w eg hcmp hH hblk (by simp; omega)
 change Calls Tryz.prog 143 _ _ _ at hcon
 have es : D.toArray.size = D.length := by simp
 rw [es] at hcon
 refine hcon.mono ?_
 rintro e w' ⟨rfl, d', m, os, hp, hs, rfl⟩
 obtain ⟨D', rfl⟩ : ∃ D' : List Nat, D'.toArray = d' := ⟨d'.toList, by simp⟩
 have hl' : D'.length = D.length := by have := hp.1; simpa using this
 refine ⟨rfl, D', ?_, fun i j hij hj => ?_, ?_, ?_⟩
 · have h6 := hp.2.2
   have e1 : (D'.toArray.extract 0 D.length).toList = D' := by rw [← hl']; simp
   have e2 : (D.toArray.extract 0 D.length).toList = D := by simp
   rwa [e1, e2] at h6
 · rcases Nat.lt_or_eq_of_le hij with h | h
   · have h7 := hs i j (Nat.zero_le _) h (by omega)
     change Go.Proofs.ltOf cmpD D'.toArray[j]! D'.toArray[i]! = false at h7
     rw [zf0, getElem!_pos D'.toArray i (by simp; omega), getElem!_pos D'.toArray j (by simpa using hj)] at h7
     simp only [List.getD_eq_getElem?_getD, List.getElem?_eq_getElem hj, List.getElem?_eq_getElem (show i < D'.length by omega), Option.getD_some]
     simp at h7
     omega
   · subst h; exact Nat.le_refl _
 · have hfs : D'.length ≤ cur.size := by omega
   refine ⟨by rw [zbG, hl', Nat.mul_one], .inr ⟨g, cap, putCells encN 0 D'.toArray cur, rfl, hbg, ?_, hle, hcm, ?_, ?_⟩⟩
   · unfold sortWorld
     rw [heap_grow_old _ _ (by rw [size_putRow]; exact hblk)]
     unfold putRow mapBlock
     show (w.heap.modify g _)[g]? = _
     rw [Array.getElem?_modify, if_pos rfl, hg]
     rfl
   · simp [putCells, hcs]
   · rw [Nat.mul_one, ← hl']; exact putN_take D' cur hfs
 · refine ⟨rfl, rfl, rfl, ?_, fun k hk hne => ?_⟩
   · unfold sortWorld
     have h := size_grow (putRow encN (Sort.ahead w m) g 0 D'.toArray) os
     rw [size_putRow] at h
     rw [h]
     exact Nat.le_add_right _ _
   · unfold sortWorld
     rw [heap_grow_old _ _ (by rw [size_putRow]; exact hk)]
     unfold putRow mapBlock
     show (w.heap.modify g _)[k]? = _
     rw [Array.getElem?_modify, if_neg (fun e => hne (by rw [e]))]
structure OkC (l : List Int) (m : Int) : Prop where
 pos : 1 ≤ l.length
 le : l.length ≤ 320
 m1 : 1 ≤ m
 m15 : m ≤ 15
 rng : ∀ j, j < l.length → 0 ≤ l.getD j 0 ∧ l.getD j 0 ≤ 2147483647
 fit : (zaf l l.length).length ≤ 2 ^ m.toNat
def LenEnd (w : World) (l : List Int) (m : Int) (e : Ending) (w' : World) : Prop :=
 Below w.heap.size w w' ∧ ((¬ OkC l m ∧ e = .returned (.tuple #[.slice none 0 0, .int .i64 2])) ∨
   (OkC l m ∧ ∃ bo L, e = .returned (.tuple #[.slice (some ⟨bo, 0, none⟩) l.length l.length, .int .i64 0]) ∧ OutR w' bo L ∧ zb8 l m.toNat (zaf l l.length).length L ∧ w.heap.size ≤ bo))
theorem cmpLen_any (bx : Nat) (ab ao n cap : Nat) (l : List Int) (x y : Nat) (w : World) (hb : w.cell? ⟨bx, 0, none⟩ = some (.slice (some ⟨ab, ao, none⟩) n cap)) (hc : ∀ j, j < n → w.cell? ⟨ab, ao + j, none⟩ = some (.int .i64 (l.getD j 0))) (hx : x < n) (hy : y < n) :
   Calls Tryz.prog 133 #[.int .i64 x, .int .i64 y, .pointer (some ⟨bx, 0, none⟩)] w fun e w' => e = .returned (.int .i64 (cfL l x y)) ∧ ∃ q, w' = w.drewN q := by
 have hv : cfL l x y = cmpI (l.getD x 0) (l.getD y 0) := rfl
 have HV := Lib.hid hv
 clear hv
 have hcx := hc x hx
 have hcy := hc y hy
 generalize l.getD x 0 = X at *
 generalize l.getD y 0 = Y at *
 have hx2 : (x : Int) < (n : Int) := by omega
 have hy2 : (y : Int) < (n : Int) := by omega
 clear hc
 go_enter Tryz.func133, Tryz.ntmps133
 go_wp2
 go_quiet ((go_at_call 113; exact zdo (zdZ _ _ _)))
 go_wp2
 go_ret
 exact ⟨zav HV.out.symm, _, rfl⟩
set_option maxRecDepth 20000 in
theorem lengths_any {w : World} {a : Option Addr} {n cap : Nat} {l : List Int} {m : Int} (hr : Row w 1 a n cap (l.map (Value.int .i64))) (hm : -9223372036854775808 ≤ m ∧ m ≤ 9223372036854775807) :
   Calls Tryz.prog 118 #[.slice a n cap, .int .i64 m] w (LenEnd w l m) := by
 have hl := hr.len1
 have hn63 := hr.2.2.1
 have hcapn := hr.2.1
 unfold maxLen at hn63
 have hR1 := hr.mono (zai w (.cells #[.slice a n cap] 34))
 have HR := Lib.hid hR1
 have HL := Lib.hid hl
 have HR0 := Lib.hid hr
 have hbad : ∀ (w' : World), Below w.heap.size w w' → ¬ OkC l m → LenEnd w l m (.returned (.tuple #[.slice none 0 0, .int .i64 2])) w' := fun w' hb h => ⟨hb, .inl ⟨h, rfl⟩⟩
 have HBAD := Lib.hid hbad
 clear hr hR1 hl hbad
 by_cases h1 : (n : Int) < 1
 · have HN := Lib.hid (show ¬ OkC l m from fun h => by have := h.pos; have := HL.out; omega)
   go_enter Tryz.func118, Tryz.ntmps118
   go_wp2
   go_ret2
   exact HBAD.out _ (zai _ _) HN.out
 by_cases h2 : (320 : Int) < n
 · have HN := Lib.hid (show ¬ OkC l m from fun h => by have := h.le; have := HL.out; omega)
   go_enter Tryz.func118, Tryz.ntmps118
   go_wp2
   go_ret2
   exact HBAD.out _ (zai _ _) HN.out
 by_cases h3 : m < 1
 · have HN := Lib.hid (show ¬ OkC l m from fun h => by have := h.m1; omega)
   go_enter Tryz.func118, Tryz.ntmps118
   go_wp2
   go_ret2
   exact HBAD.out _ (zai _ _) HN.out
 by_cases h4 : 15 < m
 · have HN := Lib.hid (show ¬ OkC l m from fun h => by have := h.m15; omega)
   go_enter Tryz.func118, Tryz.ntmps118
   go_wp2
   go_ret2
   exact HBAD.out _ (zai _ _) HN.out
 have hbx := heap_alloc_new w (.cells #[.slice a n cap] 34)
 have hsz0 := zad w (.cells #[.slice a n cap] 34)
 have hB0 := zai w (.cells #[.slice a n cap] 34)
 have HB0 := Lib.hid hB0
 have HBX := Lib.hid hbx
 have hn0 : 1 ≤ n := by omega
 obtain ⟨ab, ao, ha, hab, hcel⟩ := HR0.out.at 0 0 (by omega)
 subst ha
 have HCL := Lib.hid (show ∀ W, Below (w.heap.size + 1) (w.alloc (.cells #[.slice (some ⟨ab, ao, none⟩) n cap] 34)) W → ∀ j, j < n → W.cell? ⟨ab, ao + j, none⟩ = some (.int .i64 (l.getD j 0)) from fun W hb j hj => zam hb (by show ab < w.heap.size + 1; omega) (cell?_keep hB0 (hcel j hj)))
 have HBC := Lib.hid (show ∀ W, Below (w.heap.size + 1) (w.alloc (.cells #[.slice (some ⟨ab, ao, none⟩) n cap] 34)) W → W.cell? ⟨w.heap.size, 0, none⟩ = some (.slice (some ⟨ab, ao, none⟩) n cap) from fun W hb => by
   rw [cell_of_row W w.heap.size 0 _ _ _ ((hb.block _ (by omega)).trans hbx)]; rfl)
 have HAB := Lib.hid hab
 clear hbx hB0 hcel
 go_enter Tryz.func118, Tryz.ntmps118
 go_wp2_with fail
 obtain ⟨W0, hW0⟩ : ∃ W0, w.alloc (.cells #[.slice (some ⟨ab, ao, none⟩) n cap] 34) = W0 := ⟨_, rfl⟩
 rw [hW0] at HB0 HBX HR hsz0 HCL HBC ⊢
 clear hW0
 go_loopw [29, 6, 7] (fun v S6 S7 wr => ∃ (k : Nat) (ns : List LN), v = .int .i64 k ∧ k ≤ n ∧ Hid (zbZ wr (w.heap.size + 1) S6 S7 ns) ∧ Hid (ns.map LN.key = zdm l k) ∧ Hid (∀ j, j < k → 0 ≤ l.getD j 0 ∧ l.getD j 0 ≤ 2147483647) ∧ Hid (Below (w.heap.size + 1) W0 wr)) (fun v _ _ _ => n - (intOf v).toNat)
 case atStart => exact ⟨0, [], rfl, Nat.zero_le _, Lib.hid (zbZ.nil _ _), Lib.hid rfl, Lib.hid (fun j hj => by omega), Lib.hid (Below.refl _ _)⟩
 case round =>
   obtain ⟨k, ns, rfl, hk, HQ, HKey, HRg, HB⟩ := hrel
   have hszr := HB.out.size
   by_cases hlt : k < n
   · have hcd : decide ((k : Int) < (n : Int)) = true := decide_eq_true (by omega)
     have hkn : (k : Int) < (n : Int) := by omega
     have z1 := HCL.out _ HB.out k hlt
     have HPS := Lib.hid (posTo_succ l k)
     have HRS := Lib.hid (show 0 ≤ l.getD k 0 ∧ l.getD k 0 ≤ 2147483647 → ∀ j, j < k + 1 → 0 ≤ l.getD j 0 ∧ l.getD j 0 ≤ 2147483647 from fun h j hj => by
       rcases Nat.lt_or_eq_of_le (Nat.le_of_lt_succ hj) with h1 | h1
       · exact HRg.out j h1
       · rw [h1]; exact h)
     have HNK := Lib.hid (show ¬ (0 ≤ l.getD k 0 ∧ l.getD k 0 ≤ 2147483647) → ¬ OkC l m from fun h h' => h (h'.rng k (by rw [HL.out]; exact hlt)))
     have HBW := Lib.hid (show Below w.heap.size w wr from HB0.out.trans (HB.out.mono (Nat.le_succ _)))
     generalize l.getD k 0 = x at z1 HPS HRS HNK
     by_cases hx1 : x < 0
     · have HN := Lib.hid (HNK.out (by omega))
       clear HPS HRS HNK HCL HBC HQ
       go_wp2
       go_ret2
       exact HBAD.out _ HBW.out HN.out
     by_cases hx2 : 2147483647 < x
     · have HN := Lib.hid (HNK.out (by omega))
       clear HPS HRS HNK HCL HBC HQ
       go_wp2
       go_ret2
       exact HBAD.out _ HBW.out HN.out
     by_cases hx3 : 0 < x
     · obtain ⟨c, rfl⟩ : ∃ c : Nat, x = (c : Int) := ⟨x.toNat, by omega⟩
       have hlen : ns.length ≤ k := by
         have h := congrArg List.length HKey.out
         rw [List.length_map] at h
         have := zeq l k
         omega
       have HRN := Lib.hid (show ∀ o1 y e, Row ((wr.alloc o1).alloc (.cells #[y] e)) 1 (some ⟨wr.heap.size + 1, 0, none⟩) 1 1 [y] from fun o1 y e => by
         have h := zaS (wr.alloc o1) y e
         rwa [zad] at h)
       have HSA := Lib.hid (show ∀ o1 o2, w.heap.size + 1 ≤ ((wr.alloc o1).alloc o2).heap.size from fun o1 o2 => by rw [zad, zad]; omega)
       clear HNK HBC HCL
       go_wp2_with (first
         | (at_builtin; refine zb9 ENod rfl (.tmp 42) (.tmp 47) rfl (w.heap.size + 1) _ ns.length _ rfl ((HQ.out.r6.alloc _).alloc _) _ 1 1 _ rfl (HRN.out _ _ _) (zbN rfl) (by unfold maxLen; omega) (by omega) (HSA.out _ _) ?_; intro v5 w5 hO5 hg5 hn5; have HO5 := Lib.hid hO5; have HG5 := Lib.hid hg5; have HN5 := Lib.hid hn5; have hs5 := hg5.size; rw [zad, zad] at hs5; have HR7 := Lib.hid (HQ.out.r7_after hg5); clear hO5 hg5 hn5)
         | (at_builtin; refine zb9 ETI rfl (.tmp 49) (.tmp 51) rfl (w.heap.size + 1) _ ns.length _ rfl (HR7.out.alloc _) _ 1 1 _ rfl (zaS _ _ _) (zbN rfl) (by unfold maxLen; omega) (by omega) (by rw [zad]; omega) ?_; intro v6 w6 hO6 hg6 hn6; have HO6 := Lib.hid hO6; have HG6 := Lib.hid hg6; have HN6 := Lib.hid hn6; have hs6 := hg6.size; rw [zad] at hs6; clear hO6 hg6 hn6))
       go_roundw
       case rel =>
         refine ⟨k + 1, ns ++ [⟨wr.heap.size, k, c⟩], by go_num, by omega, Lib.hid (HQ.out.step (by omega) rfl HO5.out HG5.out HN5.out HO6.out HG6.out HN6.out), Lib.hid ?_, Lib.hid (HRS.out (by omega)), Lib.hid ?_⟩
         · rw [List.map_append, HKey.out, HPS.out, if_pos hx3]
           show _ = _ ++ [(k, ((c : Int)).toNat)]
           rw [Int.toNat_natCast]; rfl
         · exact (((((HB.out.alloc (by omega) _).alloc (by rw [zad]; omega) _).grown HG5.out (by rw [zad, zad]; omega) (fun q hq => (HQ.out.r6.lt q hq).1)).alloc (by omega) _).grown HG6.out (by rw [zad]; omega) (fun q hq => (HQ.out.r7.lt q hq).1))
       case measure => simp [intOf]; omega
     · go_wp2
       go_roundw
       case rel =>
         refine ⟨k + 1, ns, by go_num, by omega, HQ, Lib.hid ?_, Lib.hid (HRS.out (by omega)), HB⟩
         rw [HKey.out, HPS.out, if_neg hx3, List.append_nil]
       case measure => simp [intOf]; omega
   · have hkn : k = n := by omega
     subst hkn
     have hcd : decide ((k : Int) < (k : Int)) = false := decide_eq_false (by omega)
     obtain ⟨mm, rfl⟩ : ∃ mm : Nat, m = (mm : Int) := ⟨m.toNat, by omega⟩
     obtain ⟨a6, c6, h6, -, -⟩ := Row.of_owns HQ.out.r6
     obtain ⟨a7, c7, h7, -, -⟩ := Row.of_owns HQ.out.r7
     subst h6
     subst h7
     have HBW := Lib.hid (show Below w.heap.size w wr from HB0.out.trans (HB.out.mono (Nat.le_succ _)))
     have hNl : ns.length = (zaf l k).length := by
       rw [← zcL, ← HKey.out, List.length_map, List.length_map]
     have hNk : ns.length ≤ k := by rw [hNl, ← zcL, List.length_map]; exact zeq l k
     have HNL := Lib.hid hNl
     have hpw : 1 ≤ 2 ^ mm ∧ 2 ^ mm ≤ 32768 := by
       have : ∀ m, m ≤ 15 → 1 ≤ 2 ^ m ∧ 2 ^ m ≤ 32768 := by decide
       exact this mm (by omega)
     obtain ⟨P2, hP2⟩ : ∃ P2, P2 = 2 ^ mm := ⟨_, rfl⟩
     have hshl : (2 : Int) ^ mm = (P2 : Int) := by rw [hP2]; norm_cast
     rw [← hP2] at hpw
     have HP2 := Lib.hid hP2
     clear hNl hP2
     by_cases hfit : ns.length ≤ P2
     case neg =>
       have HN := Lib.hid (show ¬ OkC l (mm : Int) from fun h => hfit (by have h := h.fit; rw [Int.toNat_natCast, HL.out, ← HNL.out, ← HP2.out] at h; exact h))
       have hgt : decide ((ns.length : Int) > (P2 : Int)) = true := decide_eq_true (by omega)
       clear HCL HBC HQ
       go_wp2_with fail
       go_ret2
       exact HBAD.out _ HBW.out HN.out
     have HOK := Lib.hid (show OkC l (mm : Int) from ⟨by rw [HL.out]; omega, by rw [HL.out]; omega, by omega, by omega, fun j hj => HRg.out j (by rw [← HL.out]; exact hj), by rw [Int.toNat_natCast, HL.out, ← HNL.out, ← HP2.out]; exact hfit⟩)
     have hgt : decide ((ns.length : Int) > (P2 : Int)) = false := decide_eq_false (by omega)
     have hwr : w.heap.size + 1 ≤ wr.heap.size := by have := HB.out.size; omega
     have hposR : ns.map LN.s = posR l := posR_of (by rw [HL.out]; exact HKey.out)
     have HPR := Lib.hid hposR
     have hRl : (posR l).length = ns.length := by rw [← hposR, List.length_map]
     have HRL := Lib.hid hRl
     clear hposR hRl
     by_cases hN0 : ns.length = 0
     case pos =>
       have hN0i : decide ((ns.length : Int) = 0) = true := decide_eq_true (by omega)
       have hNi : ((ns.length : Int) == 0) = true := by rw [hN0]; rfl
       have HG := Lib.hid (show zb8 l mm (zaf l l.length).length (List.replicate l.length 0) from good_none (List.eq_nil_of_length_eq_zero (by rw [HRL.out]; exact hN0)))
       clear HQ HCL hN0i
       have hbxc := HBC.out _ HB.out
       clear HBC
       go_wp2_with (at_make; refine zcu ETI rfl (.tmp 60) (.tmp 60) rfl .i64 .i64 _ _ k rfl rfl rfl rfl (by omega) (by unfold maxLen; omega) ?_; intro w4 hown hb4; have HO := Lib.hid (outR_made (zaJ hown (zey _ k))); have HB4 := Lib.hid hb4; clear hown hb4)
       go_ret2
       refine ⟨HBW.out.trans (HB4.out.mono HBW.out.size), .inr ⟨HOK.out, wr.heap.size, List.replicate l.length 0, by rw [HL.out]; rfl, by rw [HL.out]; exact HO.out, by rw [Int.toNat_natCast]; exact HG.out, by omega⟩⟩
     have hN1 : 0 < ns.length := Nat.pos_of_ne_zero hN0
     have hNi : ((ns.length : Int) == 0) = false := by
       rw [show ((ns.length : Int) == 0) = decide ((ns.length : Int) = 0) from rfl]; exact decide_eq_false (by omega)
     obtain ⟨g6, hg6, hg6b, hg6l⟩ : ∃ g, a6 = some ⟨g, 0, none⟩ ∧ w.heap.size + 1 ≤ g ∧ g < wr.heap.size := by
       rcases HQ.out.r6.2 with ⟨-, h⟩ | ⟨g, cap, cur, hv, hb, hg, -⟩
       · omega
       · simp only [Value.slice.injEq] at hv
         exact ⟨g, hv.1, hb, (Array.getElem?_eq_some_iff.1 hg).1⟩
     obtain ⟨g7, hg7, hg7b, hg7l⟩ : ∃ g, a7 = some ⟨g, 0, none⟩ ∧ w.heap.size + 1 ≤ g ∧ g < wr.heap.size := by
       rcases HQ.out.r7.2 with ⟨-, h⟩ | ⟨g, cap, cur, hv, hb, hg, -⟩
       · omega
       · simp only [Value.slice.injEq] at hv
         exact ⟨g, hv.1, hb, (Array.getElem?_eq_some_iff.1 hg).1⟩
     subst hg6
     subst hg7
     have h67 : g6 ≠ g7 := fun e => HQ.out.a67 g6 rfl (by rw [e]; rfl)
     have hgt7 : decide ((ns.length : Int) > 1) = decide (1 < ns.length) := decide_eq_decide.2 (by omega)
     have hbxc := HBC.out _ HB.out
     go_wp2_with (at_make; refine zcu ETI rfl (.tmp 60) (.tmp 60) rfl .i64 .i64 _ _ k rfl rfl rfl rfl (by omega) (by unfold maxLen; omega) ?_; intro w4 hown hb4; have HO := Lib.hid (outR_made (zaJ hown (zey _ k))); have HB4 := Lib.hid hb4; clear hown hb4)
     have HQ4 := Lib.hid (HQ.out.other (keeps_of (fun _ => False) HB4.out) (fun b h => h.elim))
     have HW4 := Lib.hid (HB.out.trans (HB4.out.mono (by omega)))
     have hs4 : wr.heap.size + 1 ≤ w4.heap.size := by
       have := HO.out.lt; omega
     have HC4 := Lib.hid (key_le HKey.out (fun j hj => (HRg.out j hj).2))
     have HTR := Lib.hid (tree_any (HQ4.out.nodes hN1) (by rw [List.length_map]; exact hN1) (by rw [List.length_map]; omega) (by
       have h1 := sumN_le HC4.out
       have h2 := Nat.mul_le_mul_right 2147483647 (show ns.length ≤ 320 by omega)
       omega) (by omega))
     refine HTR.out.mono ?_
     rintro e w5 ⟨x, S', rfl, ht, hp, hnew, hk5⟩
     rw [leavesN_tn, HPR.out] at hp
     have hbS : ¬ S' wr.heap.size := fun h => by
       rcases hnew _ h with ⟨y, hy, e⟩ | h1
       · have := (Array.getElem?_eq_some_iff.1 (HQ.out.tree y hy).2).1; omega
       · omega
     have hk5' : zaa (fun b => b = g6) w4 w5 := hk5.weaken fun b hb => by simpa [Value.ownBlock] using hb.symm
     have HK5 := Lib.hid hk5'
     have HO5 := Lib.hid (HO.out.keep hk5' (by omega))
     have HP5 := Lib.hid hp
     have HDP := Lib.hid (by
       have h := depths_any hbS x.t x.p x.c 0 (List.replicate k 0) w5 ht HO5.out (fun s hs => by
         rw [List.length_replicate, ← HL.out]
         exact zfI l s (hp.mem_iff.1 hs)) (by rw [hp.length_eq, HRL.out]; omega) (by rw [List.length_replicate]; omega)
       rw [List.length_replicate] at h
       exact h)
     clear HTR hk5 hk5' hp hnew ht hbxc
     go_wp2_with fail
     refine HDP.out.mono ?_
     rintro e w6 ⟨rfl, hO6, hk6⟩
     obtain ⟨D, hDl, hDe, hDb⟩ := lay_row (n := k) (R := posR l) (t := x.t) (zcd l) (fun r hr => by rw [← HL.out]; exact zfI l r hr) HP5.out
     rw [hDe] at hO6
     have HO6 := Lib.hid hO6
     have HW6 := Lib.hid ((HW4.out.trans (HK5.out.below (by omega) (fun b hb => by omega))).trans (hk6.below (by have := HK5.out.size; omega) (fun b hb => by omega)))
     have hr7 := zao (zao HQ4.out.r7 HK5.out (fun b hb => by (have e : g7 = b := by simpa [Value.ownBlock] using hb); omega)) hk6 (fun b hb => by (have e : g7 = b := by simpa [Value.ownBlock] using hb); omega)
     rw [key_syms HKey.out, HNL.out] at hr7
     have hs6 : w4.heap.size ≤ w6.heap.size := Nat.le_trans HK5.out.size hk6.size
     rcases hr7.2 with ⟨h, -⟩ | ⟨g, cp, cur, hv, hgb, hgo, hle, hcpm, hcur, htk⟩
     · cases h
     simp only [Value.slice.injEq, Option.some.injEq, Addr.mk.injEq, and_true] at hv
     obtain ⟨rfl, -, rfl⟩ := hv
     have hsb : SB (Value.int .i64) w6 g7 3 (cur.toList.drop (zaf l k).length) (zaf l k).toArray w6 := SB.start hgo (by simpa using htk)
     have hC : CmpQ Tryz.prog 133 #[.pointer (some ⟨w.heap.size, 0, none⟩)] (Value.int .i64) (cfL l) (fun x => ∃ q : Nat, q < k ∧ x = (q : Int)) w6 g7 := by
       refine ⟨fun _ _ => by kernel_rfl, fun W hG x y hx hy => ?_⟩
       obtain ⟨qx, hqx, rfl⟩ := hx
       obtain ⟨qy, hqy, rfl⟩ := hy
       have hBW := HW6.out.grown hG (by omega) (fun q hq => by cases hq; exact hg7b)
       exact cmpLen_any w.heap.size ab ao k cap l qx qy W (HBC.out W hBW) (HCL.out W hBW) hqx hqy
     have hstb := zbQ (cfL l) (zbD l) _ 133 _ g7 c7 _ (zaf l k).toArray w6 w6 (zcc l) hC hsb (fun i hi => by
       rw [zet hi]
       obtain ⟨q, h1, _, h2⟩ := zcO.1 (List.getElem_mem (by simpa using hi))
       exact ⟨q, h1, h2⟩) (fun p q h1 h2 => sym_agree l k p q h1 h2) (by
       have := HNL.out
       simp; omega)
     have hsz : (zaf l k).toArray.size = ns.length := by rw [HNL.out]; simp
     have HSTB := Lib.hid (by have h := hstb; rw [hsz] at h; exact h)
     have HK6 := Lib.hid hk6
     clear hstb hC hsb hgo htk hcur hr7 hO6 hDe hk6 HDP
     go_wp2_with fail
     refine HSTB.out.mono ?_
     rintro e w7 ⟨rfl, R, hSB, hP, hSo⟩
     obtain ⟨R2, hn2, hp2, hl2, hS2⟩ := ord_of (l := l) (R := R) (by rw [HL.out, hsz]; exact hP) (by rw [HL.out, hsz]; exact hSo)
     have hR2l : R2.length = ns.length := by rw [hp2.length_eq, HRL.out]
     have hrow := hSB.row (cap := c7) (by rw [← hl2, hR2l, HNL.out]; exact hle) hcpm
     rw [← hn2, ← hl2] at hrow
     have HROW := Lib.hid hrow
     have HP2' := Lib.hid hp2
     have HS2 := Lib.hid hS2
     have HR2L := Lib.hid hR2l
     obtain ⟨D2, hD2l, hD2e, hD2b⟩ := rowR_perm (n := k) (zcd l) (fun r hr => by rw [← HL.out]; exact zfI l r hr) hDl hp2 hDb
     have HO7 := Lib.hid (show OutR w7 wr.heap.size (rowR k R2 D2) from by
       rw [← hD2e]
       exact HO6.out.keep (zaa.of_grown hSB.grown (S := fun b => b = g7) (fun q hq => by cases hq; rfl)) (by omega))
     have HW7 := Lib.hid (HW6.out.grown hSB.grown (by omega) (fun q hq => by cases hq; exact hg7b))
     have hs7 : w6.heap.size ≤ w7.heap.size := hSB.grown.size
     have HDB := Lib.hid hD2b
     have HDL := Lib.hid hD2l
     have HND := Lib.hid (show R2.Nodup from hp2.nodup_iff.2 (zcd l))
     have HLT := Lib.hid (show ∀ r ∈ R2, r < k from fun r hr => by rw [← HL.out]; exact zfI l r (hp2.mem_iff.1 hr))
     have hbxc := HBC.out _ HW7.out
     clear hSB hP hSo hn2 hp2 hl2 hS2 hrow hD2e hD2b hD2l HSTB hDb hDl HBC HCL hR2l HC4 HQ4 HQ HO6 HKey HRg
     by_cases hN2 : 1 < ns.length
     · have hgt1 : decide ((ns.length : Int) > 1) = true := decide_eq_true (by omega)
       have hgt2 : decide (1 < ns.length) = true := decide_eq_true hN2
       obtain ⟨E, hE, hEl, hEb, hEs⟩ := cutV_good (limit := mm) (g := mm * D2.length + 1) (D := D2) (by omega) (by omega) (fun d hd => (HDB.out d hd).1) (by rw [HDL.out, HR2L.out]; omega) (by rw [HDL.out, HR2L.out, ← HP2.out]; exact hfit) (by omega)
       obtain ⟨M, hM, rfl⟩ := Option.map_eq_some_iff.1 hE
       have HCUT := Lib.hid (by
         have h := cut_any (limit := mm) HO7.out HROW.out (by omega) (by omega) (by rw [HR2L.out]; omega) HDL.out HND.out HLT.out (fun d hd => by have h1 := HDB.out d hd; have h2 := HR2L.out; omega) (by omega) (by omega) hM
         rw [HR2L.out] at h
         exact h)
       generalize (zat M.reverse (32768 - sumW M)).1.reverse = E at hEl hEb hEs HCUT
       have HEL := Lib.hid hEl
       have HEB := Lib.hid hEb
       have HES := Lib.hid hEs
       clear hM hE hEl hEb hEs
       go_wp2_with fail
       refine HCUT.out.mono ?_
       rintro e w8 ⟨rfl, hO8, hk8⟩
       have HO8 := Lib.hid hO8
       have HW8 := Lib.hid (HW7.out.trans (hk8.below (by omega) (fun b hb => by omega)))
       have hs8 := hk8.size
       have HSRT := Lib.hid (by
         have h := sorted_any sort_int (w := w8) (og := g7) (ocap := c7) (R := R2) (D := E) (n := k) hO8 (fun i hi => by
           obtain ⟨b, off, eb, -, hc⟩ := HROW.out.2.2.2.2 (by omega)
           simp only [Option.some.injEq, Addr.mk.injEq, and_true] at eb
           obtain ⟨rfl, rfl⟩ := eb
           have := hc i _ (zc0 hi)
           rw [Nat.zero_add] at this
           exact hk8.cell this (by omega)) (by omega) (by omega) (by rw [HR2L.out]; omega) (by rw [HR2L.out]; omega) (by rw [HEL.out, HDL.out]) HND.out HLT.out
         rw [HR2L.out] at h
         exact h)
       clear hO8 hk8 HCUT
       go_wp2_with fail
       refine HSRT.out.mono ?_
       rintro e w9 ⟨rfl, D3, hD3p, hD3s, hO9, hk9⟩
       have HO9 := Lib.hid hO9
       have HW9 := Lib.hid (HW8.out.trans (hk9.below (by omega) (fun b hb => by omega)))
       have HG := Lib.hid (show zb8 l mm (zaf l l.length).length (rowR l.length R2 D3) from good_many HP2'.out HS2.out (by rw [HR2L.out]; omega) (by rw [HEL.out, HDL.out]) HEB.out HES.out hD3p hD3s)
       clear hD3p hD3s hO9 hk9 HSRT
       go_wp2_with fail
       go_ret2
       refine ⟨HB0.out.trans (HW9.out.mono (by omega)), .inr ⟨HOK.out, wr.heap.size, rowR l.length R2 D3, by rw [HL.out]; rfl, by rw [HL.out]; exact HO9.out, by rw [Int.toNat_natCast]; exact HG.out, by omega⟩⟩
     · have hgt1 : decide ((ns.length : Int) > 1) = false := decide_eq_false (by omega)
       have hgt2 : decide (1 < ns.length) = false := decide_eq_false hN2
       have HG := Lib.hid (show zb8 l mm (zaf l l.length).length (rowR l.length R2 D2) from good_one HP2'.out (by rw [HR2L.out]; omega) HDL.out HDB.out (by omega))
       go_wp2_with fail
       go_ret2
       refine ⟨HB0.out.trans (HW7.out.mono (by omega)), .inr ⟨HOK.out, wr.heap.size, rowR l.length R2 D2, by rw [HL.out]; rfl, by rw [HL.out]; exact HO7.out, by rw [Int.toNat_natCast]; exact HG.out, by omega⟩⟩
theorem own_free {w : World} {base e g n cap m : Nat} {xs : List Value} (h : w.ownsRow base e 1 (.slice (some ⟨g, 0, none⟩) n cap) m xs) (k : Nat) : w.frozen? ⟨g, k, none⟩ = false := by
 rcases h.2 with ⟨h, -⟩ | ⟨g', cap', cur, hv, -, hg, -⟩
 · cases h
 · simp only [Value.slice.injEq, Option.some.injEq, Addr.mk.injEq] at hv
   obtain ⟨⟨rfl, -⟩, -⟩ := hv
   exact frozen_of_row w g k _ _ hg
theorem own_base {w : World} {base e g n cap m : Nat} {xs : List Value} (h : w.ownsRow base e 1 (.slice (some ⟨g, 0, none⟩) n cap) m xs) : base ≤ g := (h.lt g rfl).1
def zdQ (L : List Nat) : Nat → List Nat
 | 0 => L
 | k + 1 => (zdQ L k).set k (max ((zdQ L k).getD k 0) 1)
theorem bumpT_len (L : List Nat) : ∀ k, (zdQ L k).length = L.length
 | 0 => rfl
 | k + 1 => by rw [zdQ, List.length_set, bumpT_len L k]
theorem bumpT_two (L : List Nat) : zdQ L 2 = zce L := by
 show ((zdQ L 1)).set 1 (max ((zdQ L 1).getD 1 0) 1) = _
 unfold zce
 have e : (zdQ L 1).getD 1 0 = L.getD 1 0 := by
   show (L.set 0 _).getD 1 0 = _
   rw [zdE, if_neg (fun h => by cases h.1)]
 rw [e]; rfl
theorem natV_set (L : List Nat) (k y : Nat) : natV (L.set k y) = (natV L).set k (.int .i64 (y : Nat)) := by unfold natV; rw [List.map_set]
theorem zfE (L : List Nat) : natV L = (iL L).map (Value.int .i64) := by unfold natV iL; rw [List.map_map]; rfl
theorem fit_syms (l : List Int) (n : Nat) : (zaf l n).length ≤ n := by
 rw [← zcL, List.length_map]; exact zeq l n
def DLenEnd (w : World) (C : List Nat) (m n : Nat) (e : Ending) (w' : World) : Prop :=
 Below w.heap.size w w' ∧ ∃ bo D, e = .returned (.slice (some ⟨bo, 0, none⟩) n n) ∧ OutR w' bo D ∧ w.heap.size ≤ bo ∧ zb8 (iL C) m (zaf (iL C) (iL C).length).length D
theorem zeJ {w : World} {a : Option Addr} {n cap : Nat} {L : List Nat} (hr : Row w 1 a n cap (natV L)) (h2 : 2 ≤ n) (hn : n ≤ 286) (hrng : ∀ k, L.getD k 0 ≤ 2000000) {m : Nat} (hm1 : 1 ≤ m) (hm15 : m ≤ 15) (hfit : n ≤ 2 ^ m) :
   Calls Tryz.prog 89 #[.slice a n cap, .int .i64 m] w (DLenEnd w (zce L) m n) := by
 have hl : L.length = n := hr.len1
 have HCL := Lib.hid (cloneI a n cap (natV L) w hr (fun u hu => by obtain ⟨x, -, rfl⟩ := List.mem_map.1 hu; rfl) (by omega))
 have HL := Lib.hid hl
 have HRG := Lib.hid hrng
 have HFIT := Lib.hid hfit
 clear hr hl hrng hfit
 go_enter Tryz.func89, Tryz.ntmps89
 go_wp2_with fail
 refine HCL.out.mono ?_
 rintro e w1 ⟨v, rfl, hO, hb1, -⟩
 obtain ⟨g, c1, rfl⟩ : ∃ g c1, v = .slice (some ⟨g, 0, none⟩) n c1 := by
   rcases hO.2 with ⟨-, h0⟩ | ⟨g, cap, cur, rfl, -⟩
   · omega
   · exact ⟨g, cap, rfl⟩
 have HO := Lib.hid hO
 have HB1 := Lib.hid hb1
 clear hO hb1 HCL
 go_wp2_with fail
 go_loopw [6] (fun v wr => ∃ k : Nat, v = .int .i64 k ∧ k ≤ 2 ∧ Hid (wr.ownsRow w.heap.size 3 1 (.slice (some ⟨g, 0, none⟩) n c1) n (natV (zdQ L k))) ∧ Hid (Below w.heap.size w wr)) (fun v _ => 2 - (intOf v).toNat)
 case atStart => exact ⟨0, rfl, by omega, HO, HB1⟩
 case round =>
   obtain ⟨k, rfl, hk, HOk, HBk⟩ := hrel
   by_cases hk2 : k < 2
   · have hd : decide ((k : Int) < 2) = true := decide_eq_true (by omega)
     have z0 := HOk.out.cellAt k (by omega)
     rw [zc0 (by rw [bumpT_len, HL.out]; omega)] at z0
     have f0 := own_free HOk.out k
     have hki : (k : Int) < (n : Int) := by omega
     obtain ⟨x, hx⟩ : ∃ x, x = (zdQ L k).getD k 0 := ⟨_, rfl⟩
     have HN := Lib.hid (show ∀ y : Nat, y = max x 1 → (wr.setCell ⟨g, k, none⟩ (.int .i64 y)).ownsRow w.heap.size 3 1 (.slice (some ⟨g, 0, none⟩) n c1) n (natV (zdQ L (k + 1))) ∧ Below w.heap.size w (wr.setCell ⟨g, k, none⟩ (.int .i64 y)) from fun y hy => by
       rw [zdQ, ← hx, ← hy, natV_set]
       exact ⟨(HOk.out.stored k _).1, HBk.out.setCell (own_base HOk.out) _⟩)
     rw [← hx] at z0
     clear hx
     by_cases h0 : x = 0
     · subst h0
       have hN1 := HN.out 1 rfl
       have HN1 := Lib.hid hN1
       clear hN1 HN
       go_wp2_with fail
       go_roundw
       case rel => exact ⟨k + 1, by go_num, by omega, Lib.hid HN1.out.1, Lib.hid HN1.out.2⟩
       case measure => simp [intOf]; omega
     · have HN1 := Lib.hid (HN.out x (by omega))
       have q2 : max (x : Int) 1 = (x : Int) := by omega
       clear HN h0
       go_wp2_with fail
       go_roundw
       case rel => exact ⟨k + 1, by go_num, by omega, Lib.hid HN1.out.1, Lib.hid HN1.out.2⟩
       case measure => simp [intOf]; omega
   · obtain rfl : k = 2 := by omega
     have hd : decide (((2 : Nat) : Int) < 2) = false := by decide
     have HR := Lib.hid (show Row wr 1 (some ⟨g, 0, none⟩) n c1 ((iL (zce L)).map (Value.int .i64)) from by
       have h := (Row.of_own HOk.out).2
       rw [bumpT_two, zfE] at h
       exact h)
     have hbl : (zce L).length = n := by rw [zbP, HL.out]
     have HLN := Lib.hid (lengths_any (m := (m : Int)) HR.out (by omega))
     have HOK := Lib.hid (show OkC (iL (zce L)) (m : Int) from ⟨by rw [za0]; omega, by rw [za0]; omega, by omega, by omega, fun j hj => by
       rw [za2]
       have := bumpN_le (L := L) (by rw [HL.out]; omega) HRG.out j
       omega, by
       rw [Int.toNat_natCast]
       have h1 := fit_syms (iL (zce L)) (iL (zce L)).length
       rw [za0, hbl] at h1
       have := HFIT.out
       rw [za0, hbl]
       omega⟩)
     have HBL := Lib.hid hbl
     clear hbl HO HB1
     go_wp2_with fail
     refine HLN.out.mono ?_
     rintro e w2 ⟨hb2, hcase⟩
     rcases hcase with ⟨hno, -⟩ | ⟨-, bo, D, rfl, hOut, hG, hbo⟩
     · exact absurd HOK.out hno
     have HEND := Lib.hid (show DLenEnd w (zce L) m n (.returned (.slice (some ⟨bo, 0, none⟩) n n)) w2 from ⟨HBk.out.trans (hb2.mono HBk.out.size), bo, D, rfl, hOut, Nat.le_trans HBk.out.size hbo, by rw [Int.toNat_natCast] at hG; exact hG⟩)
     rw [za0, HBL.out]
     clear hb2 hOut hG hbo HLN
     go_wp2_with fail
     go_ret
     exact HEND.out
end Go.Proofs.YtkikhmdpcanidaaGreat
