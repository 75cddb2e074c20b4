/-
  Our texts HLn1 to Sym4, in one.
-/
import Derived.Test.YthmpigmmihiecaaPkH3
import Derived.RangeFuncNested
import Derived.RangeFuncBound
import Derived.RangeFuncCalls
import Derived.RangeFuncLeaves
import Derived.Shelf.Abstract
import Derived.Shelf.RegionOpen
import Derived.WalkKit
import Derived.OwnWalkIn
import Derived.TacticsInMore
import Derived.LoopNIn
import Derived.LoopIn
import Derived.Sort.QuietIn
import Derived.BigRegion
import Derived.Ground.SlsfProg
import Derived.Shelf.SlSortCmp.Whole1
import Derived.Test.YthmpigmmihiecaaProg
import Derived.BigQuiet
import Derived.Deep.QuietTactic
set_option maxRecDepth 8000
set_option maxHeartbeats 8000000
namespace Go.Proofs.Ythmpigmmihiecaa
open Go.RowKit Go.Sort
theorem keeps_of {w w' : World} (S : Nat → Prop) (h : Below w.heap.size w w') : Keeps S w w' := ⟨h.os, h.tape, h.output, h.size, fun b hb _ => h.block b hb⟩
structure LN where
 p : Nat
 s : Nat
 c : Nat
def LN.v (x : LN) : Value := .pointer (some ⟨x.p, 0, none⟩)
def LN.tn (x : LN) : TN := ⟨x.p, .leaf x.s, x.c⟩
def LN.obj (x : LN) : Obj := .cells #[.int .i64 x.c, .int .i64 x.s, .pointer none, .pointer none] 44 (0, 0)
structure BuildQ (w : World) (B : Nat) (S6 S7 : Value) (ns : List LN) : Prop where
 r6 : w.ownsRow B 42 1 S6 ns.length (ns.map LN.v)
 r7 : w.ownsRow B 3 1 S7 ns.length (natV (ns.map LN.s))
 tree : ∀ x ∈ ns, B ≤ x.p ∧ w.heap[x.p]? = some x.obj
 a6 : ∀ b, S6.ownBlock = some b → ∀ x ∈ ns, x.p ≠ b
 a7 : ∀ b, S7.ownBlock = some b → ∀ x ∈ ns, x.p ≠ b
 a67 : ∀ b, S6.ownBlock = some b → S7.ownBlock ≠ some b
theorem BuildQ.nil (w : World) (B : Nat) : BuildQ w B (.slice none 0 0) (.slice none 0 0) [] :=
 ⟨World.ownsRow_nil _ _ _ _, World.ownsRow_nil _ _ _ _, fun x h => (by cases h), fun b h => (by cases h), fun b h => (by cases h), fun b h => (by cases h)⟩
theorem BuildQ.step {w w5 w6 : World} {B : Nat} {S6 S7 S6' S7' : Value} {ns : List LN} {s c p : Nat} {o1 o2 : Obj} (h : BuildQ w B S6 S7 ns) (hB : B ≤ w.heap.size) (hp : w.heap.size = p)
   (h5 : w5.ownsRow B 42 1 S6' (ns.length + 1) (ns.map LN.v ++ [.pointer (some ⟨p, 0, none⟩)]))
   (g5 : ((w.alloc (.cells #[.int .i64 c, .int .i64 s, .pointer none, .pointer none] 44)).alloc o1).grownBy w5 S6.ownBlock) (n5 : NewAt ((w.alloc (.cells #[.int .i64 c, .int .i64 s, .pointer none, .pointer none] 44)).alloc o1) S6 S6')
   (h6 : w6.ownsRow B 3 1 S7' (ns.length + 1) (natV (ns.map LN.s) ++ [.int .i64 s])) (g6 : (w5.alloc o2).grownBy w6 S7.ownBlock) (n6 : NewAt (w5.alloc o2) S7 S7') : BuildQ w6 B S6' S7' (ns ++ [⟨p, s, c⟩]) := by
 subst hp
 have s5 := g5.size
 rw [sizeA, sizeA] at s5
 have s6 := g6.size
 rw [sizeA] at s6
 have k5 : Keeps (fun b => S6.ownBlock = some b) w w5 := (((Keeps.refl _ w).alloc _).alloc _).grown g5 (fun k hk => .inl hk)
 have k6 : Keeps (fun b => S7.ownBlock = some b) w5 w6 := ((Keeps.refl _ w5).alloc _).grown g6 (fun k hk => .inl hk)
 have l6 : ∀ b, S6.ownBlock = some b → b < w.heap.size := fun b hb => (h.r6.lt b hb).2
 have l7 : ∀ b, S7.ownBlock = some b → b < w.heap.size := fun b hb => (h.r7.lt b hb).2
 have e6 : ∀ b, S6'.ownBlock = some b → S6.ownBlock = some b ∨ w.heap.size + 2 ≤ b := fun b hb => by
   rcases n5 b hb with h1 | h1
   · exact .inl h1
   · rw [sizeA, sizeA] at h1; exact .inr h1
 have e7 : ∀ b, S7'.ownBlock = some b → S7.ownBlock = some b ∨ w5.heap.size + 1 ≤ b := fun b hb => by
   rcases n6 b hb with h1 | h1
   · exact .inl h1
   · rw [sizeA] at h1; exact .inr h1
 have l6' : ∀ b, S6'.ownBlock = some b → b < w5.heap.size := fun b hb => (h5.lt b hb).2
 have tl : ∀ x ∈ ns, x.p < w.heap.size := fun x hx => (Array.getElem?_eq_some_iff.1 (h.tree x hx).2).1
 refine ⟨?_, ?_, fun x hx => ?_, fun b hb x hx => ?_, fun b hb x hx => ?_, fun b hb hb7 => ?_⟩
 · rw [List.length_append, List.map_append]
   exact owns_keeps h5 k6 fun b hb h7 => by
     rcases e6 b hb with h1 | h1
     · exact h.a67 b h1 h7
     · have := l7 b h7; omega
 · rw [List.length_append, List.map_append]
   unfold natV at h6 ⊢
   rw [List.map_append]
   exact h6
 · rcases List.mem_append.1 hx with h1 | h1
   · obtain ⟨t1, t2⟩ := h.tree x h1
     exact ⟨t1, k6.obj (k5.obj t2 (fun e => h.a6 _ e x h1 rfl)) (fun e => h.a7 _ e x h1 rfl)⟩
   · rw [List.mem_singleton] at h1
     subst h1
     refine ⟨hB, k6.obj ?_ (fun e => by have := l7 _ e; simp at this)⟩
     refine (g5.block _ (by rw [sizeA, sizeA]; simp; omega) (fun e => by have := l6 _ e.symm; simp at this)).trans ?_
     rw [Below.heap_alloc _ _ _ (by rw [sizeA]; simp)]
     exact heap_alloc_new w _
 · rcases List.mem_append.1 hx with h1 | h1
   · rcases e6 b hb with h2 | h2
     · exact h.a6 b h2 x h1
     · have := tl x h1; omega
   · rw [List.mem_singleton] at h1
     subst h1
     rcases e6 b hb with h2 | h2
     · have := l6 b h2; simp; omega
     · simp; omega
 · rcases List.mem_append.1 hx with h1 | h1
   · rcases e7 b hb with h2 | h2
     · exact h.a7 b h2 x h1
     · have := tl x h1; omega
   · rw [List.mem_singleton] at h1
     subst h1
     rcases e7 b hb with h2 | h2
     · have := l7 b h2; simp; omega
     · simp; omega
 · rcases e7 b hb7 with h2 | h2
   · rcases e6 b hb with h3 | h3
     · exact h.a67 b h3 h2
     · have := l7 b h2; omega
   · have := l6' b hb; omega
theorem BuildQ.r7_after {w w5 : World} {B : Nat} {S6 S7 : Value} {ns : List LN} {o0 o1 : Obj} (h : BuildQ w B S6 S7 ns) (g5 : ((w.alloc o0).alloc o1).grownBy w5 S6.ownBlock) : w5.ownsRow B 3 1 S7 ns.length (natV (ns.map LN.s)) :=
 owns_keeps h.r7 (((((Keeps.refl (fun b => S6.ownBlock = some b) w).alloc _).alloc _).grown g5 (fun _ hk => .inl hk))) fun b hb h6 => h.a67 b h6 hb
theorem BuildQ.other {w w' : World} {B : Nat} {S6 S7 : Value} {ns : List LN} {T : Nat → Prop} (h : BuildQ w B S6 S7 ns) (hk : Keeps T w w') (hT : ∀ b, T b → b < B ∨ w.heap.size ≤ b) : BuildQ w' B S6 S7 ns := by
 have nt : ∀ b, B ≤ b → b < w.heap.size → ¬ T b := fun b h1 h2 h3 => by have := hT b h3; omega
 exact ⟨owns_keeps h.r6 hk fun b hb => nt b (h.r6.lt b hb).1 (h.r6.lt b hb).2, owns_keeps h.r7 hk fun b hb => nt b (h.r7.lt b hb).1 (h.r7.lt b hb).2,
   fun x hx => ⟨(h.tree x hx).1, hk.obj (h.tree x hx).2 (nt _ (h.tree x hx).1 (Array.getElem?_eq_some_iff.1 (h.tree x hx).2).1)⟩, h.a6, h.a7, h.a67⟩
theorem BuildQ.nodes {w : World} {B : Nat} {S6 S7 : Value} {ns : List LN} (h : BuildQ w B S6 S7 ns) (h0 : 0 < ns.length) : NodesQ w B (fun b => ∃ x ∈ ns, b = x.p) S6 (ns.map LN.tn) := by
 refine ⟨?_, fun y hy => ?_, fun b hb => ?_, fun b hb => ?_⟩
 · have e : ptrs (ns.map LN.tn) = ns.map LN.v := by unfold ptrs; rw [List.map_map]; rfl
   rw [e]
   exact OwnO.of h.r6 h0
 · obtain ⟨x, hx, rfl⟩ := List.mem_map.1 hy
   exact ⟨⟨x, hx, rfl⟩, (h.tree x hx).2⟩
 · rintro ⟨x, hx, rfl⟩
   exact h.a6 _ hb x hx rfl
 · obtain ⟨x, hx, rfl⟩ := hb
   exact ⟨(h.tree x hx).1, (Array.getElem?_eq_some_iff.1 (h.tree x hx).2).1⟩
def posTo (l : List Int) (k : Nat) : List (Nat × Nat) := ((List.range k).filter fun k => decide (0 < l.getD k 0)).map fun k => (k, (l.getD k 0).toNat)
theorem posTo_succ (l : List Int) (k : Nat) : posTo l (k + 1) = posTo l k ++ if 0 < l.getD k 0 then [(k, (l.getD k 0).toNat)] else [] := by
 unfold posTo
 rw [List.range_succ, List.filter_append, List.map_append]
 by_cases h : 0 < l.getD k 0
 · simp only [if_pos h]; simp only [List.getD] at h; simp [h]
 · simp only [if_neg h]; simp only [List.getD] at h; simp [h]
theorem posTo_syms (l : List Int) (k : Nat) : (posTo l k).map (fun x => ((x.1 : Nat) : Int)) = symsTo l k := by
 unfold posTo symsTo
 rw [List.map_map]; rfl
theorem posTo_len (l : List Int) (k : Nat) : (posTo l k).length ≤ k := by
 unfold posTo
 rw [List.length_map]
 exact Nat.le_trans (List.length_filter_le _ _) (by simp)
def LN.key (x : LN) : Nat × Nat := (x.s, x.c)
theorem leavesN_tn (ns : List LN) : leavesN (ns.map LN.tn) = ns.map LN.s := by
 unfold leavesN
 induction ns with
 | nil => rfl
 | cons x l ih => simp only [List.map_cons, List.flatMap_cons, ih]; rfl
theorem key_s {ns : List LN} {l : List (Nat × Nat)} (h : ns.map LN.key = l) : ns.map LN.s = l.map Prod.fst := by
 rw [← h, List.map_map]; rfl
theorem sumN_le {ns : List LN} {m : Nat} (h : ∀ x ∈ ns, x.c ≤ m) : sumN (ns.map LN.tn) ≤ ns.length * m := by
 induction ns with
 | nil => simp [sumN]
 | cons x l ih =>
   have h1 := h x (List.mem_cons_self ..)
   have h2 := ih fun y hy => h y (List.mem_cons_of_mem _ hy)
   simp only [List.map_cons, sumN, List.length_cons, Nat.add_mul]
   show x.c + _ ≤ _
   omega
theorem key_le {ns : List LN} {l : List Int} {k : Nat} (h : ns.map LN.key = posTo l k) (hb : ∀ j, j < k → l.getD j 0 ≤ 2147483647) : ∀ x ∈ ns, x.c ≤ 2147483647 := fun x hx => by
 have hm : LN.key x ∈ posTo l k := by rw [← h]; exact List.mem_map_of_mem hx
 unfold posTo at hm
 obtain ⟨j, hj, he⟩ := List.mem_map.1 hm
 have hj2 := (List.mem_filter.1 hj).1
 have := hb j (by simpa using hj2)
 have hc : (l.getD j 0).toNat = x.c := congrArg Prod.snd he
 omega
theorem key_syms {ns : List LN} {l : List Int} {k : Nat} (h : ns.map LN.key = posTo l k) : natV (ns.map LN.s) = (symsTo l k).map (Value.int .i64) := by
 rw [← posTo_syms, ← h, List.map_map]
 unfold natV
 rw [List.map_map, List.map_map]; rfl
theorem outR_made {w : World} {base bo n : Nat} (h : w.ownsRow base 3 1 (.slice (some ⟨bo, 0, none⟩) n n) n (fl n fun _ => .int .i64 0)) : OutR w bo (List.replicate n 0) := by
 rcases h.2 with ⟨h1, -⟩ | ⟨g, cap, cur, hv, -, hg, -, -, hcs, htk⟩
 · cases h1
 · simp only [Value.slice.injEq, Option.some.injEq, Addr.mk.injEq] at hv
   obtain ⟨⟨rfl, -, -⟩, -, rfl⟩ := hv
   unfold OutR
   rw [hg, natV, List.map_replicate, fl_replicate]
   rw [Nat.mul_one] at hcs htk
   rw [List.take_of_length_le (by rw [Array.length_toList, hcs]; exact Nat.le_refl _)] at htk
   rw [show cur = (fl n fun _ => Value.int .i64 0).toArray from by rw [← htk]]
   rfl
def posR (l : List Int) : List Nat := (List.range l.length).filter fun k => decide (0 < l.getD k 0)
theorem posR_of {l : List Int} {ns : List LN} (h : ns.map LN.key = posTo l l.length) : ns.map LN.s = posR l := by
 rw [key_s h]
 unfold posTo posR
 rw [List.map_map]
 exact List.map_id' _
theorem posR_nodup (l : List Int) : (posR l).Nodup := List.Pairwise.filter _ List.nodup_range
theorem posR_mem (l : List Int) (k : Nat) : k ∈ posR l ↔ k < l.length ∧ 0 < l.getD k 0 := by
 unfold posR
 rw [List.mem_filter, List.mem_range, decide_eq_true_eq]
theorem posR_lt (l : List Int) : ∀ r ∈ posR l, r < l.length := fun r h => ((posR_mem l r).1 h).1
theorem posR_syms (l : List Int) : symsTo l l.length = (posR l).map fun k : Nat => (k : Int) := rfl
theorem ord_of {l : List Int} {R : Array Int} (hP : PermIn 0 (symsTo l l.length).toArray.size (symsTo l l.length).toArray R) (hS : SortedIn (symLt l) 0 (symsTo l l.length).toArray.size R) :
   ∃ R2 : List Nat, natV R2 = R.toList.map (Value.int .i64) ∧ R2.Perm (posR l) ∧ R2.length = R.size ∧ ∀ i j, (hi : i < R2.length) → (hj : j < R2.length) → i < j → l.getD R2[i] 0 ≤ l.getD R2[j] 0 := by
 have hsz : R.size = (symsTo l l.length).length := by simpa using hP.1
 have hperm : R.toList.Perm (symsTo l l.length) := by
   have h := hP.2.2
   have e1 : R.extract 0 (symsTo l l.length).toArray.size = R := by rw [show (symsTo l l.length).toArray.size = R.size from by simpa using hsz.symm]; simp
   have e2 : (symsTo l l.length).toArray.extract 0 (symsTo l l.length).toArray.size = (symsTo l l.length).toArray := by simp
   rw [e1, e2] at h
   simpa using h
 have hnn : ∀ x ∈ R.toList, 0 ≤ x := fun x hx => by
   obtain ⟨k, -, -, rfl⟩ := mem_symsTo.1 (hperm.mem_iff.1 hx)
   omega
 refine ⟨R.toList.map Int.toNat, ?_, ?_, by simp, fun i j hi hj hij => ?_⟩
 · unfold natV
   rw [List.map_map]
   exact List.map_congr_left fun x hx => by
     show Value.int .i64 ((x.toNat : Nat) : Int) = _
     rw [Int.toNat_of_nonneg (hnn x hx)]
 · have h := hperm.map Int.toNat
   rw [posR_syms, List.map_map] at h
   have e : (posR l).map (Int.toNat ∘ fun k : Nat => (k : Int)) = posR l := List.map_id' _
   rwa [e] at h
 · have hi' : i < R.size := by simpa using hi
   have hj' : j < R.size := by simpa using hj
   have h := hS i j (Nat.zero_le _) hij (by simpa [hsz] using hj')
   rw [getElem!_pos R i hi', getElem!_pos R j hj'] at h
   simp only [symLt, Bool.or_eq_false_iff, Bool.and_eq_false_iff, decide_eq_false_iff_not] at h
   simp only [List.getElem_map, Array.getElem_toList]
   omega
theorem one_D {D : List Nat} (h1 : D.length = 1) (h2 : ∀ x ∈ D, 1 ≤ x ∧ x ≤ 1) : D = [1] := by
 match D, h1 with
 | [x], _ => have := h2 x (List.mem_singleton_self _); rw [show x = 1 from by omega]
theorem good_none {l : List Int} {most : Nat} (h : posR l = []) : GoodL l most (symsTo l l.length).length (List.replicate l.length 0) := by
 have h0 : (symsTo l l.length).length = 0 := by rw [posR_syms, h]; rfl
 rw [h0]
 exact rowR_good (R := []) (D := []) List.nodup_nil (fun k => by rw [← h]; exact posR_mem l k) (fun i j hi => by simp at hi) rfl (fun d hd => by simp at hd) (fun i j _ hj => by simp at hj) (by simp [sumW]) (fun h => by simp at h) (fun h => by simp at h)
theorem good_one {l : List Int} {most : Nat} {R D : List Nat} (hp : R.Perm (posR l)) (h1 : R.length = 1) (hD : D.length = R.length) (hd : ∀ x ∈ D, 1 ≤ x ∧ x ≤ R.length) (hm : 1 ≤ most) : GoodL l most (symsTo l l.length).length (rowR l.length R D) := by
 rw [h1] at hd hD
 obtain rfl := one_D hD hd
 have hs : (symsTo l l.length).length = R.length := by rw [posR_syms, List.length_map, hp.length_eq]
 rw [hs]
 exact rowR_good (hp.nodup_iff.2 (posR_nodup l)) (fun k => by rw [hp.mem_iff]; exact posR_mem l k) (fun i j hi hj hij => by omega) (by rw [h1]; rfl) (fun d hd => by rw [List.mem_singleton] at hd; omega) (fun i j hij hj => by
   have hj1 : j < 1 := hj
   have : i = j := by omega
   subst this; exact Nat.le_refl _) (by simp [sumW, roomW]) (fun h => by omega) (fun _ d hd => by rw [List.mem_singleton] at hd; omega)
theorem good_many {l : List Int} {most : Nat} {R D E : List Nat} (hp : R.Perm (posR l)) (hS : ∀ i j, (hi : i < R.length) → (hj : j < R.length) → i < j → l.getD R[i] 0 ≤ l.getD R[j] 0) (h2 : 2 ≤ R.length) (hE : E.length = R.length)
   (hP : ∀ d ∈ E, 1 ≤ d ∧ d ≤ most) (hs : sumW E = 32768) (hD : D.Perm E) (hT : ∀ i j, i ≤ j → j < D.length → D.getD j 0 ≤ D.getD i 0) : GoodL l most (symsTo l l.length).length (rowR l.length R D) := by
 have hs2 : (symsTo l l.length).length = R.length := by rw [posR_syms, List.length_map, hp.length_eq]
 rw [hs2]
 have hsD : sumW D = 32768 := (sumW_perm hD).trans hs
 exact rowR_good (hp.nodup_iff.2 (posR_nodup l)) (fun k => by rw [hp.mem_iff]; exact posR_mem l k) hS (by rw [hD.length_eq, hE]) (fun d hd => hP d (hD.mem_iff.1 hd)) hT (by omega) (fun _ => hsD) (fun h => by omega)
end Go.Proofs.Ythmpigmmihiecaa
namespace Go.Proofs.Ythmpigmmihiecaa
open Go.RowKit Go.Shelf
attribute [local go_sem] Oper.semAt_some
def KpC (bo br : Nat) (W W' : World) : Prop := ∀ b, b ≠ bo → b ≠ br → ∀ o : Obj, W.heap[b]? = some o → o.isCells = true → W'.heap[b]? = some o
theorem kpC_t {bo br : Nat} {A B C : World} (h : KpC bo br A B) (k : KpC bo br B C) : KpC bo br A C := fun b h1 h2 o ho hc => k b h1 h2 o (h b h1 h2 o ho hc) hc
theorem kpC_b {bo br : Nat} {w : World} (W : World) (l : Nat) (o o' : Obj) (_ : w.heap.size ≤ l) (h : W.heap[l]? = some o) (hc : o.isCells = false) (_ : o.isWalk = false) : KpC bo br W (W.putObj l o') := fun b _ _ o1 ho h1 => by
 have hne : b ≠ l := fun e => by
   subst e
   rw [h] at ho
   cases ho
   rw [hc] at h1; cases h1
 exact (World.putObj_heap_other hne).trans ho
theorem KpC.cell {bo br : Nat} {W W' : World} (h : KpC bo br W W') {b k : Nat} {v : Value} (h1 : b ≠ bo) (h2 : b ≠ br) (hc : W.cell? ⟨b, k, none⟩ = some v) : W'.cell? ⟨b, k, none⟩ = some v := by
 obtain ⟨o, ho, hi⟩ := cells_of_cell hc
 rw [World.cell?_of_block (w := W) (a := ⟨b, k, none⟩) ((h b h1 h2 o ho hi).trans ho.symm)]
 exact hc
theorem back_any (a : Option Addr) (n cap : Nat) (w : World) :
   Calls Try.prog 34 #[.slice a n cap] w fun e w' => e = .returned (.func (.func 44) #[] #[.pointer (some ⟨w.heap.size, 0, none⟩)]) ∧ w' = w.alloc (.cells #[.slice a n cap] 22) := by
 go_enter Try.func34, Try.ntmps34
 go_wp2
 go_ret
 exact ⟨rfl, rfl⟩
theorem rev_take {c r : Nat} (h : r < c) : (List.range c).reverse.take (c - r) = (List.range c).reverse.take (c - (r + 1)) ++ [r] := by
 have e : c - r = (c - (r + 1)) + 1 := by omega
 rw [e, List.take_add_one, List.getElem?_reverse (by simp; omega)]
 congr 1
 rw [List.length_range, show c - 1 - (c - (r + 1)) = r from by omega, List.getElem?_range h]; rfl
set_option maxRecDepth 100000 in
theorem back1_in (n : Nat) (hro : Fence.wide.round = none) (hn : 1 ≤ n) (l Bs og c cap bo br : Nat) (f : Nat → Nat) (hc : c ≤ 1000000) (h1 : Bs ≠ bo) (h2 : Bs ≠ br) (h3 : og ≠ bo) (h4 : og ≠ br) (J Jx : List (Fin c) → World → Prop)
   (hY : ∀ pre x W, J pre W → pre.length < c → YieldAt Fence.wide (n - 1) Try.prog l #[.int .i64 (x.val : Int), .int .i64 (f x.val : Nat)] W fun e W' =>
     (e = .returned (.bool true) ∧ J (pre ++ [x]) W' ∧ KpC bo br W W') ∨ (e = .returned (.bool false) ∧ Jx (pre ++ [x]) W'))
   (W : World) (hBs : W.cell? ⟨Bs, 0, none⟩ = some (.slice (some ⟨og, 0, none⟩) c cap)) (hcs : ∀ j, j < c → W.cell? ⟨og, j, none⟩ = some (.int .i64 (f j : Nat))) (h0 : J [] W) :
   CallsIn Fence.wide n Try.prog 44 #[.func (.yield l) #[] #[], .pointer (some ⟨Bs, 0, none⟩)] W fun e W' => (∃ v, e = .returned v) ∧
     ((∃ ys : List (Fin c), ys.map Fin.val = (List.range c).reverse ∧ J ys W') ∨ (∃ pre : List (Fin c), True ∧ Jx pre W')) := by
 have hw1 : IntKind.i64.wrap ((c : Int) - 1) = (c : Int) - 1 := IntWalk.i64_in _ (by omega)
 refine callsIn_of_wp Try.func44 rfl trivial ?_ hro
 simp only [Try.ntmps44, List.size_toArray, List.length_cons, List.length_nil, Nat.reduceAdd, Nat.reduceSub, Array.replicate_succ, Array.replicate_zero, List.push_toArray, List.append_toArray, List.nil_append, List.cons_append]
 gi_wp2
 gi_loopw [3] (fun i wr => ∃ r : Nat, r ≤ c ∧ i = .int .i64 ((r : Int) - 1) ∧ ∃ pre : List (Fin c), pre.map Fin.val = (List.range c).reverse.take (c - r) ∧ J pre wr ∧ KpC bo br W wr)
   (fun i _ => (intOf i + 1).toNat)
 case atStart => exact ⟨c, Nat.le_refl _, rfl, [], by simp, h0, fun _ _ _ _ h _ => h⟩
 case round =>
   obtain ⟨r, hr, rfl, pre, hp, hJs, hk⟩ := hrel
   have e1 := hk.cell h1 h2 hBs
   cases r with
   | zero =>
     gi_wp2
     go_end0
     exact ⟨⟨_, rfl⟩, .inl ⟨pre, by rw [hp]; simp [List.take_of_length_le], hJs⟩⟩
   | succ r =>
     have hw2 : ((r + 1 : Nat) : Int) - 1 = (r : Int) := by omega
     rw [hw2]
     have e2 := hk.cell h3 h4 (hcs r (by omega))
     have hlen : pre.length < c := by
       have := congrArg List.length hp
       simp at this; omega
     have hri : (r : Int) < (c : Int) := by omega
     have hge : decide ((r : Int) ≥ 0) = true := decide_eq_true (by omega)
     have hw3 : IntKind.i64.wrap ((r : Int) - 1) = (r : Int) - 1 := IntWalk.i64_in _ (by omega)
     obtain ⟨fn, tmps, assign, body, hy, hR⟩ := hY pre ⟨r, by omega⟩ wr hJs hlen
     dsimp only at hy
     gi_wp2
     refine hR.mono ?_
     rintro e W3 (⟨rfl, hJ3, hk3⟩ | ⟨rfl, hJx3⟩)
     · gi_wp2
       go_roundw
       case rel => exact ⟨r, by omega, rfl, _, by rw [List.map_append, hp]; exact (rev_take (by omega)).symm, hJ3, kpC_t hk hk3⟩
       case measure => simp [intOf]
     · gi_wp2
       refine bodyPost_ret (results_none rfl _ _ _) rfl ?_
       exact ⟨⟨_, rfl⟩, .inr ⟨_, trivial, hJx3⟩⟩
theorem back_stops (n : Nat) (hro : Fence.wide.round = none) (hn : 1 ≤ n) (Bs og c cap bo br : Nat) (f : Nat → Nat) (hc : c ≤ 1000000) (h1 : Bs ≠ bo) (h2 : Bs ≠ br) (h3 : og ≠ bo) (h4 : og ≠ br) (w : World)
   (hBs : w.cell? ⟨Bs, 0, none⟩ = some (.slice (some ⟨og, 0, none⟩) c cap)) (hcs : ∀ j, j < c → w.cell? ⟨og, j, none⟩ = some (.int .i64 (f j : Nat))) :
   SeqStopsK Fence.wide n Try.prog 44 #[.pointer (some ⟨Bs, 0, none⟩)] (fun x : Fin c => #[.int .i64 (x.val : Int), .int .i64 (f x.val : Nat)]) (KpC bo br) (fun ys => ys.map Fin.val = (List.range c).reverse) (fun _ => True) c w := by
 intro l J Jx W hW _ _ hY h0
 exact back1_in n hro hn l Bs og c cap bo br f hc h1 h2 h3 h4 J Jx hY W ((hW.cell (p := ⟨Bs, 0, none⟩) (World.block_lt_of_cell? w _ hBs)).trans hBs) (fun j hj => (hW.cell (p := ⟨og, j, none⟩) (World.block_lt_of_cell? w _ (hcs j hj))).trans (hcs j hj)) h0
end Go.Proofs.Ythmpigmmihiecaa
namespace Go.Proofs.Ythmpigmmihiecaa
open Go.RowKit
section
variable {F : Fence} {n : Nat} {P : Program} {ops : Array Oper} {Q : Exit → Act → World → Prop} {l : Nat}
theorem op_round {o : Oper} {a : Act} {w : World} {K : Act → World → Prop} (hnd : ∀ c, o.op ≠ .defer c) (h : o.wpIn F n P a w K Q) : o.wpIn (F.inRound l) n P a w K Q := by
 unfold Oper.wpIn at h ⊢
 rw [Oper.semAt_eq _ _ _ hnd] at h ⊢
 exact h
theorem wpOpIn_round {i : Nat} {K : Act → World → Prop} {a : Act} {w : World} (hnd : ∀ o ∈ ops.toList, ∀ c, o.op ≠ .defer c) (h : wpOpIn F n P ops Q i K a w) : wpOpIn (F.inRound l) n P ops Q i K a w := by
 unfold wpOpIn at h ⊢
 cases ho : ops[i]? with
 | none => rw [ho] at h; exact h
 | some o =>
   rw [ho] at h
   simp only at h ⊢
   have hm : o ∈ ops.toList := by
     obtain ⟨hi, e⟩ := Array.getElem?_eq_some_iff.1 ho
     rw [← e]; exact Array.mem_toList_iff.2 (Array.getElem_mem hi)
   split
   · rename_i hw
     rw [if_pos hw] at h
     exact op_round (hnd o hm) h
   · rename_i hw
     rw [if_neg hw] at h
     exact h
theorem wpOpsIn_round (hnd : ∀ o ∈ ops.toList, ∀ c, o.op ≠ .defer c) : ∀ (sched : List Nat) (a : Act) (w : World), wpOpsIn F n P ops Q sched a w → wpOpsIn (F.inRound l) n P ops Q sched a w
 | [], _, _, h => h
 | i :: rest, a, w, h => by
   rw [wpOpsIn_cons] at h ⊢
   exact wpOpIn_mono (fun a w => wpOpsIn_round hnd rest a w) (wpOpIn_round hnd h)
theorem wpIn_quiet_round {id : Nat} {a : Act} {w : World} {ll : List Oper} (hnd : ∀ o ∈ ll, ∀ c, o.op ≠ .defer c) (hro : F.round = none) (hm : P.follows .mixedOrders = true) (hB : Region.lexB .any ll.toArray = true)
   (h : wpQuietIn F n P ll.toArray (fun w' => ∃ n, w' = w.drewN n) (fun a' => ∀ w', (∃ n, w' = w.drewN n) → Q .normal a' w') ll a) : (Code.region id ll.toArray true).wpIn (F.inRound l) n P Q a w := by
 simp only [Region.lexB, Bool.and_eq_true] at hB
 refine wpIn_region_draw fun t => ?_
 simp only [Region.schedule, hm, Bool.true_or, if_true]
 refine wpOpsIn_round (by simpa using hnd) _ _ _ (wpAnyIn_sound _ t _ a _ (wpAnyIn_of_quiet (C := fun w' => ∃ n, w' = w.drewN n) (Q := fun a' => ∀ w', (∃ n, w' = w.drewN n) → Q .normal a' w') hro (fun _ w' hw' h => h w' hw') _ _ _ _ ⟨1, rfl⟩ ?_))
 have := wpAnyQIn_lex (F := F) (n := n) (C := fun w' => ∃ n, w' = w.drewN n) (md := .any) hB.1 ll.toArray.toList 0 (Array.replicate ll.toArray.size false) a (by simp) (by simpa using hB.2) (by simpa using h)
 simpa using this
end
end Go.Proofs.Ythmpigmmihiecaa
namespace Go.Proofs.Ythmpigmmihiecaa
open Go.RowKit Go.Shelf
attribute [local go_sem] Oper.semAt_some
def cellN (w : World) (a : Addr) : Int :=
 match w.cell? a with
 | some (.int _ x) => x
 | _ => 0
def ptrN (v : Value) (w : World) : Int :=
 match v with
 | .pointer (some a) => cellN w a
 | _ => 0
theorem cellN_of {w : World} {a : Addr} {k : IntKind} {x : Int} (h : w.cell? a = some (.int k x)) : cellN w a = x := by unfold cellN; rw [h]
theorem others_drewN {W W' : World} (h : KeepsOthers W W') (q : Nat) : KeepsOthers W (W'.drewN q) := ⟨h.size, fun k o hk ho => h.same k o hk ho⟩
theorem kp_set {bo br : Nat} {W W' : World} (h : KpC bo br W W') {b k : Nat} (hb : b = bo ∨ b = br) (v : Value) : KpC bo br W (W'.setCell ⟨b, k, none⟩ v) := fun c h1 h2 o ho hc => by
 rw [heap_setCell_other _ _ _ _ (by show c ≠ b; rcases hb with rfl | rfl <;> assumption)]
 exact h c h1 h2 o ho hc
def CutI (w : World) (bo og n : Nat) (R M : List Nat) (pre : List (Fin R.length)) (W : World) : Prop :=
 ∃ (D : List Nat) (r : Nat), (pre.map Fin.val).foldl stpS (M, 32768 - sumW M) = (D, r) ∧ (∀ z ∈ D, z ≤ 15) ∧ r ≤ 32768 ∧ CutM W bo w.heap.size (w.heap.size + 1) og n R D r ∧ Keeps (fun b => b = bo) w W
theorem cutI_own {w : World} {bo og n B : Nat} {R M : List Nat} (h1 : bo < B) (h2 : w.heap.size + 1 < B) (h3 : og < B) : OwnFrom B (CutI w bo og n R M) := fun pre A W row hs hg hr => by
 obtain ⟨D, r, hf, hz, hr2, hC, hK⟩ := hs
 have hk : Keeps (fun b => B ≤ b) A W := Keeps.of_grown hg fun k hk => (hr k hk).1
 exact ⟨D, r, hf, hz, hr2, hC.keep hk (by omega) (by omega) (by omega) (by omega), hK.trans hk fun b hb => .inr (by omega)⟩
set_option maxRecDepth 100000 in
theorem cut_any {w : World} {bo og n ocap limit g : Nat} {R D M : List Nat} (hO : OutR w bo (rowR n R D)) (hord : Row w 1 (some ⟨og, 0, none⟩) R.length ocap (natV R)) (hne : og ≠ bo) (hog : og < w.heap.size)
   (hR : R.length ≤ 400) (hD : D.length = R.length) (hnd : R.Nodup) (hlt : ∀ r ∈ R, r < n) (hD1 : ∀ x ∈ D, 1 ≤ x ∧ x ≤ 1000) (h1 : 1 ≤ limit) (h15 : limit ≤ 15)
   (hM : cutLoop limit g (D.map fun x => min x limit) = some M) :
   Calls Try.prog 17 #[.slice (some ⟨bo, 0, none⟩) n n, .slice (some ⟨og, 0, none⟩) R.length ocap, .int .i64 limit] w fun e w' => e = .returned (.tuple #[]) ∧ OutR w' bo (rowR n R (shrinkAll M.reverse (32768 - sumW M)).1.reverse) ∧ Keeps (fun b => b = bo) w w' := by
 have hbo := hO.lt
 have hC0 : CutM ((w.alloc (.cells #[.slice (some ⟨bo, 0, none⟩) n n] 22)).alloc (.cells #[.int .i64 32768] 3)) bo w.heap.size (w.heap.size + 1) og n R D 32768 := by
   have k : Keeps (fun _ => False) w ((w.alloc (.cells #[.slice (some ⟨bo, 0, none⟩) n n] 22)).alloc (.cells #[.int .i64 32768] 3)) := ((Keeps.refl _ w).alloc _).alloc _
   refine ⟨hO.keep k id, ?_, ?_, fun i hi => ?_, hD, hnd, hlt, by omega, by omega, by omega, hne, by omega, by omega⟩
   · rw [Below.heap_alloc _ _ _ (by rw [sizeA]; omega)]; exact heap_alloc_new w _
   · have := heap_alloc_new (w.alloc (.cells #[.slice (some ⟨bo, 0, none⟩) n n] 22)) (.cells #[.int .i64 32768] 3)
     rwa [sizeA] at this
   · obtain ⟨b, off, e, -, hc⟩ := hord.2.2.2.2 (by omega)
     simp only [Option.some.injEq, Addr.mk.injEq, and_true] at e
     obtain ⟨rfl, rfl⟩ := e
     have := hc i _ (natV_at hi)
     rw [Nat.zero_add] at this
     exact k.cell this id
 have HC0 := Lib.hid hC0
 have HM := Lib.hid hM
 have HD1 := Lib.hid hD1
 have HBO := Lib.hid hbo
 have HOG := Lib.hid hog
 have HDL := Lib.hid hD
 clear hC0 hM hD1 hO hord hbo hog hD hnd hlt
 refine (callsIn_wide (n := 5)).1 ?_
 refine callsIn_of_wp_marks Try.func17 rfl trivial ?_ rfl
 simp only [Try.ntmps17, List.size_toArray, List.length_cons, List.length_nil, Nat.reduceAdd, Nat.reduceSub, Array.replicate_succ, Array.replicate_zero, List.push_toArray, List.append_toArray, List.nil_append, List.cons_append]
 refine wpIn_wide.2 ?_
 go_wp2_with fail
 go_loopw [15] (fun v wr => ∃ i : Nat, v = .int .i64 i ∧ i ≤ R.length ∧ Hid (CutM wr bo w.heap.size (w.heap.size + 1) og n R (minN limit D i) (roomN limit D i)) ∧ Hid (Keeps (fun b => b = bo) w wr)) (fun v _ => R.length - (intOf v).toNat)
 case atStart => exact ⟨0, rfl, Nat.zero_le _, by rw [minN_zero]; exact HC0, Lib.hid (((Keeps.refl _ w).alloc _).alloc _)⟩
 case round =>
   obtain ⟨i, rfl, hi, HC, HK⟩ := hrel
   by_cases hlt : i < R.length
   case neg =>
     have hie : i = R.length := by omega
     subst hie
     have HC1 := Lib.hid (show CutM wr bo w.heap.size (w.heap.size + 1) og n R (D.map fun x => min x limit) (32768 - (sumW (D.map fun x => min x limit) : Nat)) from by
       have h := HC.out
       rw [← HDL.out, minN_all] at h
       unfold roomN at h
       rw [List.take_of_length_le (Nat.le_refl _)] at h
       exact h)
     have HIL := Lib.hid (show InL limit (D.map fun x => min x limit) from fun x hx => by
       obtain ⟨y, hy, rfl⟩ := List.mem_map.1 hx
       have := HD1.out y hy
       omega)
     generalize (D.map fun x => min x limit) = D0 at HC1 HIL HM
     clear HC HC0 HD1 HDL hlt
     go_wp2_with fail
     go_loopw [36] (fun _ wr => ∃ (g : Nat) (D : List Nat), cutLoop limit g D = some M ∧ Hid (InL limit D) ∧ Hid (CutM wr bo w.heap.size (w.heap.size + 1) og n R D (32768 - (sumW D : Nat))) ∧ Hid (Keeps (fun b => b = bo) w wr)) (fun _ wr => (- cellN wr ⟨w.heap.size + 1, 0, none⟩).toNat)
     case atStart => exact ⟨g, D0, HM.out, HIL, HC1, HK⟩
     case round =>
       clear HC1 HIL HM HK
       obtain ⟨g, D, hM, HIL, HC, HK⟩ := hrel
       have zr := HC.out.crm
       by_cases hs : sumW D ≤ 32768
       · have hsi : decide ((32768 : Int) - (sumW D : Nat) < 0) = false := decide_eq_false (by omega)
         obtain rfl := cutLoop_stop hM hs
         have hwr : w.heap.size + 1 < wr.heap.size := (Array.getElem?_eq_some_iff.1 HC.out.rm).1
         have HML := Lib.hid HC.out.len
         have hI0 : CutI w bo og n R M [] (wr.alloc (.cells #[.slice (some ⟨og, 0, none⟩) R.length ocap] 22)) :=
           ⟨M, 32768 - sumW M, rfl, fun z hz => by have := HIL.out z hz; omega, by omega, by
             have := HC.out.alloc (.cells #[.slice (some ⟨og, 0, none⟩) R.length ocap] 22)
             rwa [show (32768 : Int) - (sumW M : Nat) = ((32768 - sumW M : Nat) : Int) from by omega] at this, HK.out.alloc _⟩
         have hbs := cell_of_row _ _ 0 _ _ _ (heap_alloc_new wr (.cells #[.slice (some ⟨og, 0, none⟩) R.length ocap] 22))
         have hord : ∀ j, j < R.length → (wr.alloc (.cells #[.slice (some ⟨og, 0, none⟩) R.length ocap] 22)).cell? ⟨og, j, none⟩ = some (.int .i64 (R.getD j 0 : Nat)) := fun j hj => (HC.out.alloc _).ord j hj
         have hsz := sizeA wr (.cells #[.slice (some ⟨og, 0, none⟩) R.length ocap] 22)
         have HI0 := Lib.hid hI0
         have HORD := Lib.hid hord
         have HSZ := Lib.hid hsz
         have HBS := Lib.hid hbs
         clear hI0 hbs hord hsz HC HIL HK hs hM
         go_wp2_with (go_at_call 34; refine (back_any _ _ _ _).mono ?_; rintro e w2 ⟨rfl, hw2⟩; rw [← hw2] at HI0 HORD HSZ HBS; have HW2 := Lib.hid hw2; clear hw2)
         refine (wpIn_wide (n := 5)).1 ?_
         obtain ⟨f, hf⟩ : ∃ f : Nat → Nat, f = fun i => R.getD i 0 := ⟨_, rfl⟩
         have hfe : ∀ i, R.getD i 0 = f i := fun i => by rw [hf]
         have HFE := Lib.hid hfe
         clear hf hfe
         have hbo := HBO.out
         have hog := HOG.out
         have hs2 := HSZ.out
         refine' wpIn_rangeFunc_ownF (F := Fence.wide) (n := 5) rfl (by omega) (gf := 44) (lb := #[.pointer (some ⟨wr.heap.size, 0, none⟩)]) rfl trivial (enters_of Try.func44 (by kernel_rfl) rfl)
           (back_stops 4 rfl (by omega) wr.heap.size og R.length ocap bo (w.heap.size + 1) f (by omega) (by omega) (by omega) hne (by omega) w2 HBS.out (fun j hj => by rw [← HFE.out]; exact HORD.out j hj)) kpC_t kpC_b (Below.refl _ _) (fun _ => rfl)
           (CutI w bo og n R M) (fun _ _ _ => False) (cutI_own (by omega) (by omega) (by omega)) (fun _ _ _ _ _ hs _ _ => hs) HI0.out _ ?assign ?body ?done ?stop
         case assign =>
           intro l x W K hK
           gi_wp2
           exact hK
         case body =>
           rintro l pre ⟨i, hi⟩ W ⟨D, r, hf, hz, hr2, hC, hK⟩ hlt
           obtain ⟨⟨yl, rl⟩, hsh⟩ : ∃ s, s = shrink (D.getD i 0) r := ⟨_, rfl⟩
           have HF := Lib.hid (show (((pre ++ [(⟨i, hi⟩ : Fin R.length)]).map Fin.val).foldl stpS (M, 32768 - sumW M)) = (D.set i yl, rl) from by
             rw [List.map_append, List.foldl_append, hf]
             exact stp_one hsh.symm)
           have hkn := (hC.at hi).1
           have hil : i < D.length := by rw [hC.len]; exact hi
           have hy0 := hz _ (getD_mem hil)
           have HI1 := Lib.hid (show CutM W bo w.heap.size (w.heap.size + 1) og n R (D.set i (D.getD i 0)) r from by rw [set_get]; exact hC)
           have HSH := Lib.hid hsh
           have HZ := Lib.hid hz
           have HK := Lib.hid hK
           have HIL := Lib.hid hil
           obtain ⟨y0, hy0e⟩ : ∃ y0, y0 = D.getD i 0 := ⟨_, rfl⟩
           rw [← hy0e] at HSH HI1 hy0
           clear hf hz hC hK hsh hil hy0e hlt
           gi_wp2
           gi_loopw [68] (fun _ wr => ∃ (y r' : Nat), shrink y r' = (yl, rl) ∧ y ≤ 15 ∧ r' ≤ 32768 ∧ Hid (CutM wr bo w.heap.size (w.heap.size + 1) og n R (D.set i y) r') ∧ Hid (Keeps (fun b => b = bo) w wr) ∧ Hid (KeepsOthers W wr ∧ KpC bo (w.heap.size + 1) W wr)) (fun _ wr => (cellN wr ⟨bo, f i, none⟩).toNat)
           case atStart => exact ⟨y0, r, HSH.out.symm, hy0, hr2, HI1, HK, Lib.hid ⟨KeepsOthers.refl _, fun _ _ _ _ h _ => h⟩⟩
           case round =>
             obtain ⟨y, r', hs, hy, hr', HC, HK', HKO⟩ := hrel
             obtain ⟨z1, -, z3⟩ := HC.out.at hi
             rw [getD_set_self HIL.out] at z3
             rw [HFE.out] at z1 z3
             have zb := HC.out.cbox
             have zr := HC.out.crm
             have f1 := HC.out.frm
             have f2 := HC.out.fout (f i)
             have HS := Lib.hid hs
             generalize hk : f i = k at z1 z3 f2 ⊢
             have HKE := Lib.hid hk
             have hkn2 : (k : Int) < (n : Int) := by omega
             have hsh : (32768 : Int) / 2 ^ y = (roomW y : Int) := by unfold roomW; norm_cast
             have hrl := roomW_le y
             clear hs hk hkn
             have key : y ≤ 1 ∨ 2 ≤ y ∧ r' < roomW y ∨ 2 ≤ y ∧ roomW y ≤ r' := by omega
             rcases key with h2 | ⟨h2, h3⟩ | ⟨h2, h3⟩
             · as_aux_lemma =>
                 have d1 : decide ((y : Int) > 1) = false := decide_eq_false (by omega)
                 have d1' : ((1 : Int) < y) = False := eq_false (by omega)
                 have hfin := shrink_stop (y := y) (r := r') (.inl h2)
                 gi_wp2
                 refine wpIn_quiet_round (by simp) rfl (by kernel_rfl) (by kernel_rfl) ?_
                 repeat (gi_big_quiet_step (fail))
                 refine wpQuietIn_nil ?_
                 rintro _ ⟨nq, rfl⟩
                 gi_wp2
                 have hs := HS.out
                 rw [hfin] at hs
                 simp only [Prod.mk.injEq] at hs
                 obtain ⟨rfl, rfl⟩ := hs
                 exact ⟨others_drewN HKO.out.1 nq, HKO.out.2, _, _, HF.out, le_set HZ.out hy, hr', HC.out.drewN nq, HK'.out.drewN nq⟩
             · as_aux_lemma =>
                 have d1 : decide ((y : Int) > 1) = true := decide_eq_true (by omega)
                 have d1' : ((1 : Int) < y) = True := eq_true (by omega)
                 have d2 : decide ((roomW y : Int) ≤ (r' : Int)) = false := decide_eq_false (by omega)
                 have d2' : ((roomW y : Int) ≤ (r' : Int)) = False := eq_false (by omega)
                 have hfin := shrink_stop (y := y) (r := r') (.inr h3)
                 gi_wp2
                 refine wpIn_quiet_round (by simp) rfl (by kernel_rfl) (by kernel_rfl) ?_
                 repeat (gi_big_quiet_step (fail))
                 refine wpQuietIn_nil ?_
                 rintro _ ⟨nq, rfl⟩
                 gi_wp2
                 have hs := HS.out
                 rw [hfin] at hs
                 simp only [Prod.mk.injEq] at hs
                 obtain ⟨rfl, rfl⟩ := hs
                 exact ⟨others_drewN HKO.out.1 nq, HKO.out.2, _, _, HF.out, le_set HZ.out hy, hr', HC.out.drewN nq, HK'.out.drewN nq⟩
             · as_aux_lemma =>
                 have d1 : decide ((y : Int) > 1) = true := decide_eq_true (by omega)
                 have d1' : ((1 : Int) < y) = True := eq_true (by omega)
                 have d2 : decide ((roomW y : Int) ≤ (r' : Int)) = true := decide_eq_true (by omega)
                 have d2' : ((roomW y : Int) ≤ (r' : Int)) = True := eq_true (by omega)
                 have HGO := Lib.hid (shrink_go (y := y) (r := r') h2 h3)
                 gi_wp2
                 refine wpIn_quiet_round (by simp) rfl (by kernel_rfl) (by kernel_rfl) ?_
                 repeat (gi_big_quiet_step (fail))
                 refine wpQuietIn_nil ?_
                 rintro _ ⟨nq, rfl⟩
                 have HC5 := Lib.hid (HC.out.drewN nq)
                 have HK5 := Lib.hid (HK'.out.drewN nq)
                 have HO5 := Lib.hid (show KeepsOthers W (wr.drewN nq) ∧ KpC bo (w.heap.size + 1) W (wr.drewN nq) from ⟨others_drewN HKO.out.1 nq, HKO.out.2⟩)
                 have HZ3 := Lib.hid z3
                 obtain ⟨w5, hw5⟩ : ∃ w5, wr.drewN nq = w5 := ⟨_, rfl⟩
                 rw [hw5] at HC5 HK5 HO5 ⊢
                 have z3 : w5.cell? ⟨bo, k, none⟩ = some (.int .i64 y) := by rw [← hw5]; exact z3
                 have zb := HC5.out.cbox
                 have zr := HC5.out.crm
                 have f1 := HC5.out.frm
                 have f2 := HC5.out.fout k
                 obtain ⟨rn, hrn⟩ : ∃ rn, rn = r' - roomW y := ⟨_, rfl⟩
                 obtain ⟨yn, hyn⟩ : ∃ yn, yn = y - 1 := ⟨_, rfl⟩
                 have hw6 : IntKind.i64.wrap ((r' : Int) - (roomW y : Int)) = (rn : Int) := by rw [IntWalk.i64_in _ (by omega)]; omega
                 have hw7 : IntKind.i64.wrap ((y : Int) - 1) = (yn : Int) := by rw [IntWalk.i64_in _ (by omega)]; omega
                 obtain ⟨w6, hw6e⟩ : ∃ w6, (w5.setCell ⟨w.heap.size + 1, 0, none⟩ (.int .i64 rn)).drewN 1 = w6 := ⟨_, rfl⟩
                 have HC6 := Lib.hid ((HC5.out.setR (rn : Int)).drewN 1)
                 rw [hw6e] at HC6
                 have g3 : w6.cell? ⟨bo, k, none⟩ = some (.int .i64 y) := by
                   have h := (HC6.out.at hi).2.2
                   rwa [getD_set_self HIL.out, HFE.out, HKE.out] at h
                 have gb := HC6.out.cbox
                 have g2 := HC6.out.fout k
                 have HC7 := Lib.hid (HC6.out.setO hi yn)
                 rw [set_set2, HFE.out, HKE.out] at HC7
                 have HK7 := Lib.hid (show Keeps (fun b => b = bo) w (w6.setCell ⟨bo, k, none⟩ (.int .i64 yn)) from by
                   rw [← hw6e]
                   exact ((HK5.out.setCell (a := ⟨w.heap.size + 1, 0, none⟩) (.inr (by show w.heap.size ≤ w.heap.size + 1; omega)) _).drewN 1).setCell (a := ⟨bo, k, none⟩) (.inl rfl) _)
                 have HO7 := Lib.hid (show KeepsOthers W (w6.setCell ⟨bo, k, none⟩ (.int .i64 yn)) ∧ KpC bo (w.heap.size + 1) W (w6.setCell ⟨bo, k, none⟩ (.int .i64 yn)) from by
                   rw [← hw6e]
                   exact ⟨(others_drewN (HO5.out.1.trans (KeepsOthers.setCell _ _ _)) 1).trans (KeepsOthers.setCell _ _ _), kp_set (kp_set HO5.out.2 (.inr rfl) _) (.inl rfl) _⟩)
                 have HSN := Lib.hid (show shrink yn rn = (yl, rl) from by rw [hyn, hrn, ← HGO.out]; exact HS.out)
                 have hy5 : yn ≤ 15 := by omega
                 have hr5 : rn ≤ 32768 := by omega
                 have HM7 := Lib.hid (show (cellN (w6.setCell ⟨bo, k, none⟩ (.int .i64 yn)) ⟨bo, k, none⟩).toNat < (cellN wr ⟨bo, k, none⟩).toNat from by
                   have h := (HC7.out.at hi).2.2
                   rw [getD_set_self HIL.out, HFE.out, HKE.out] at h
                   rw [cellN_of h, cellN_of HZ3.out]
                   omega)
                 have HWE := Lib.hid hw6e
                 clear hw5 HC HK' HKO HC6 HC5 HK5 HO5 hrn hyn hw6e HGO HS
                 gi_wp2
                 gi_region
                 all_goals
                   rw [show (w5.setCell ⟨w.heap.size + 1, 0, none⟩ (.int .i64 rn)).drew = w6 from HWE.out]
                   clear z3 zb zr f1 f2
                   gi_wp2
                   go_roundw
                   case rel => exact ⟨yn, rn, HSN.out, hy5, hr5, HC7, HK7, HO7⟩
                   case measure => exact HM7.out
         case done =>
           rintro Dd ys W hDl hS ⟨D, r, hf, -, -, hC, hK⟩ hKd
           rw [hS, stpS_all HML.out] at hf
           simp only [Prod.mk.injEq] at hf
           obtain ⟨rfl, rfl⟩ := hf
           have HC := Lib.hid hC
           have HK := Lib.hid hK
           clear hC hK hS
           gi_wp2
           refine ⟨by simp, .inl ⟨_, _, rfl, run_takeDeferred hKd, ?_⟩⟩
           refine ⟨_, results_none rfl _ _ _, ?_⟩
           exact ⟨rfl, (World.putObj_heap_other (by omega)).trans HC.out.out, HK.out.grown (grownBy_putObj' W Dd (.deferred none)) (fun k hk => .inr (by cases hk; omega))⟩
         case stop =>
           rintro Dd c pre W _ _ h _
           exact h.elim
       · have hsi : decide ((32768 : Int) - (sumW D : Nat) < 0) = true := decide_eq_true (by omega)
         obtain ⟨g', N, D', hT, hM'⟩ := cutLoop_go hM hs
         have HZR := Lib.hid zr
         have HIN := Lib.hid (show InL limit D' from (incTop_some HIL.out (by omega) hT).1)
         have hwr : w.heap.size + 1 < wr.heap.size := (Array.getElem?_eq_some_iff.1 HC.out.rm).1
         obtain ⟨l1, hl1⟩ : ∃ l1, limit = l1 + 1 := ⟨limit - 1, by omega⟩
         have HL1 := Lib.hid hl1
         have hl2 : IntKind.i64.wrap ((limit : Int) - 1) = (l1 : Int) := by rw [IntWalk.i64_in _ (by omega)]; omega
         have hl3 : l1 ≤ 14 := by omega
         rw [hl1, Nat.add_sub_cancel] at hT
         have hsb : sumW D ≤ 400 * 32768 := Nat.le_trans (sumW_le D) (Nat.mul_le_mul_right _ (by rw [HC.out.len]; exact hR))
         clear hl1 hM
         go_wp2_with fail
         have HC3 := Lib.hid (HC.out.alloc (.cells #[.int .i64 l1] 3))
         have HK3 := Lib.hid (HK.out.alloc (.cells #[.int .i64 l1] 3))
         have HB3 := Lib.hid (heap_alloc_new wr (.cells #[.int .i64 l1] 3))
         have hb3 : w.heap.size + 2 ≤ wr.heap.size := hwr
         generalize wr.heap.size = b3 at HB3 hb3 ⊢
         generalize wr.alloc (.cells #[.int .i64 l1] 3) = w3 at HC3 HK3 HB3 ⊢
         go_loopw [9] (fun v wr => ∃ (b m : Nat), v = .pointer (some ⟨b, 0, none⟩) ∧ w.heap.size + 2 ≤ b ∧ m ≤ l1 ∧ incTop D m = some (N, D') ∧ Hid (wr.heap[b]? = some (.cells #[.int .i64 m] 3 (0, 0))) ∧ Hid (CutM wr bo w.heap.size (w.heap.size + 1) og n R D (32768 - (sumW D : Nat))) ∧ Hid (Keeps (fun b => b = bo) w wr)) (fun v wr => (ptrN v wr).toNat)
         case atStart => exact ⟨b3, l1, rfl, hb3, Nat.le_refl _, hT, HB3, HC3, HK3⟩
         case round =>
           clear HC3 HK3 HB3 hT HC HK zr hwr hb3
           obtain ⟨b, m, rfl, hb, hm, hT, HB, HC, HK⟩ := hrel
           cases m with
           | zero => simp [incTop] at hT
           | succ m =>
             obtain ⟨p, hp0⟩ : ∃ p, p = m + 1 := ⟨_, rfl⟩
             obtain ⟨p2, hp2⟩ : ∃ p2, p2 = p + 1 := ⟨_, rfl⟩
             rw [← hp0] at HB
             have zn : wr.cell? ⟨b, 0, none⟩ = some (.int .i64 p) := by rw [cell_of_row wr b 0 _ _ _ HB.out]; rfl
             have HZN := Lib.hid zn
             have hge : decide ((p : Int) ≥ 1) = true := decide_eq_true (by omega)
             have HX := Lib.hid (idx_cut (cap := ocap) HC.out zn hR)
             have hbs : b < wr.heap.size := (Array.getElem?_eq_some_iff.1 HB.out).1
             have hw9 : IntKind.i64.wrap ((p : Int) + 1) = (p2 : Int) := by rw [IntWalk.i64_in _ (by omega)]; omega
             have hw8 : IntKind.i64.wrap ((p : Int) - 1) = (m : Int) := by rw [IntWalk.i64_in _ (by omega)]; omega
             have hsh : (32768 : Int) / 2 ^ p2 = (roomW p2 : Int) := by unfold roomW; norm_cast
             have hrl := roomW_le p2
             have hp := roomW_pos (x := p2) (by omega)
             have hp15 : p2 ≤ 15 := by omega
             have hp1 : 1 ≤ p := by omega
             have HT1 := Lib.hid hT
             have HPM := Lib.hid hM'
             have HP0 := Lib.hid hp0
             have HP2 := Lib.hid hp2
             clear hT hM' hp0 hp2
             go_wp2_with fail
             refine HX.out.mono ?_
             rintro e w2 ⟨⟨q, hq⟩, hcase⟩
             have HC2 := Lib.hid (show CutM w2 bo w.heap.size (w.heap.size + 1) og n R D (32768 - (sumW D : Nat)) from by rw [hq]; exact HC.out.drewN q)
             have HK2 := Lib.hid (show Keeps (fun b => b = bo) w w2 from by rw [hq]; exact HK.out.drewN q)
             have HB2 := Lib.hid (show w2.heap[b]? = some (.cells #[.int .i64 p] 3 (0, 0)) from by rw [hq]; exact HB.out)
             clear hq zn HC HK HB
             rcases hcase with ⟨i, hi, rfl, hin, him⟩ | ⟨rfl, hno⟩
             · as_aux_lemma =>
                 have hD' := HT1.out
                 rw [HP0.out] at hin
                 rw [incTop_hit hin] at hD'
                 simp only [Option.some.injEq, Prod.mk.injEq] at hD'
                 obtain ⟨-, hD'⟩ := hD'
                 rw [← HP0.out, ← HP2.out] at hD'
                 have hge2 : decide ((i : Int) ≥ 0) = true := decide_eq_true (by omega)
                 have hil : (i : Int) < (R.length : Int) := by omega
                 obtain ⟨z1, z2, z3⟩ := HC2.out.at hi
                 rw [him] at z3
                 have zb := HC2.out.cbox
                 have f2 := HC2.out.fout (R.getD i 0)
                 have HSW := Lib.hid (sumW_inc (D := D) (i := i) (m := p) (by rw [HC2.out.len]; exact hi) him hp1 (by rw [← HP2.out]; exact hp15))
                 rw [← HP2.out, hD'] at HSW
                 have HC4 := Lib.hid ((HC2.out.setO hi p2).drewN 1)
                 rw [hD'] at HC4
                 generalize R.getD i 0 = k at z1 z2 z3 f2 HC4
                 have hkn : (k : Int) < (n : Int) := by omega
                 have HK4 := Lib.hid ((HK2.out.setCell (a := ⟨bo, k, none⟩) (.inl rfl) (.int .i64 p2)).drewN 1)
                 have HB4 := Lib.hid (show ((w2.setCell ⟨bo, k, none⟩ (.int .i64 p2)).drewN 1).heap[b]? = some (.cells #[.int .i64 p] 3 (0, 0)) from (heap_setCell_other _ _ _ _ (by show b ≠ bo; have := HBO.out; omega)).trans HB2.out)
                 clear hin him hD' HX HT1
                 go_wp2_with fail
                 go_region
                 obtain ⟨w4, hw4⟩ : ∃ w4, (w2.setCell ⟨bo, k, none⟩ (.int .i64 p2)).drewN 1 = w4 := ⟨_, rfl⟩
                 rw [show (w2.setCell ⟨bo, k, none⟩ (.int .i64 p2)).drew = w4 from hw4]
                 rw [hw4] at HC4 HK4 HB4
                 have q1 : w4.cell? ⟨b, 0, none⟩ = some (.int .i64 p) := by rw [cell_of_row w4 b 0 _ _ _ HB4.out]; rfl
                 have q2 := HC4.out.crm
                 have q3 := HC4.out.frm
                 have hw6 : 32768 - (sumW D : Int) + (roomW p2 : Int) = 32768 - (sumW D' : Int) := by
                   have := HSW.out
                   omega
                 clear zb z1 z2 z3 f2 hw4
                 go_wp2_with fail
                 go_region
                 have HC5 := Lib.hid ((HC4.out.setR (32768 - (sumW D' : Int))).drewN 1)
                 have HK5 := Lib.hid ((HK4.out.setCell (a := ⟨w.heap.size + 1, 0, none⟩) (.inr (by show w.heap.size ≤ w.heap.size + 1; omega)) (.int .i64 (32768 - (sumW D' : Int)))).drewN 1)
                 obtain ⟨w5, hw5⟩ : ∃ w5, (w4.setCell ⟨w.heap.size + 1, 0, none⟩ (.int .i64 (32768 - (sumW D' : Int)))).drewN 1 = w5 := ⟨_, rfl⟩
                 rw [show (w4.setCell ⟨w.heap.size + 1, 0, none⟩ (.int .i64 (32768 - (sumW D' : Int)))).drew = w5 from hw5]
                 rw [hw5] at HC5 HK5
                 clear hw5 hw6 HC4 HK4 HB4 q1 q2 q3
                 go_wp2_with fail
                 go_roundw
                 case rel => exact ⟨_, D', HPM.out, Lib.hid (HIN.out), HC5, HK5⟩
                 case measure =>
                   rw [cellN_of HC5.out.crm, cellN_of HZR.out]
                   have := HSW.out
                   omega
             · as_aux_lemma =>
                 have HT2 := Lib.hid (show incTop D m = some (N, D') from by
                   rw [HP0.out] at hno
                   rw [← incTop_miss hno]; exact HT1.out)
                 have zn := cell_of_row w2 b 0 _ _ _ HB2.out
                 have zn : w2.cell? ⟨b, 0, none⟩ = some (.int .i64 p) := by rw [zn]; rfl
                 have hge2 : decide ((-1 : Int) ≥ 0) = false := rfl
                 have hb2 : b < w2.heap.size := (Array.getElem?_eq_some_iff.1 HB2.out).1
                 have HH := Lib.hid (heap_alloc_new w2 (.cells #[.int .i64 m] 3))
                 have hm1 : m ≤ l1 := by have := HP0.out; omega
                 have hbw : w.heap.size + 2 ≤ w2.heap.size := by have := (Array.getElem?_eq_some_iff.1 HC2.out.rm).1; omega
                 clear hno HX HT1
                 go_wp2_with fail
                 refine ⟨⟨_, m, rfl, hbw, hm1, HT2.out, HH, Lib.hid (HC2.out.alloc _), Lib.hid (HK2.out.alloc _)⟩, ?_⟩
                 show (cellN _ _).toNat < (cellN _ _).toNat
                 rw [cellN_of HZN.out, cellN_of (x := (m : Int)) (k := .i64) (by rw [cell_of_row _ _ 0 _ _ _ HH.out]; rfl)]
                 have := HP0.out
                 omega
   have hcd : decide ((i : Int) < (R.length : Int)) = true := decide_eq_true (by omega)
   have hjl : (i : Int) < (R.length : Int) := by omega
   obtain ⟨z1, z2, z3⟩ := HC.out.at hlt
   have zb := HC.out.cbox
   have zr := HC.out.crm
   have f1 := HC.out.frm
   have f2 := HC.out.fout (R.getD i 0)
   have HB := Lib.hid (roomN_bd limit D i)
   have hx := minN_get limit D (i := i) (by rw [HDL.out]; exact hlt)
   rw [hx] at z3
   have HX := Lib.hid hx
   obtain ⟨hx1, hx2⟩ := HD1.out _ (getD_mem (R := D) (i := i) (by rw [HDL.out]; exact hlt))
   have hr0 := HB.out
   have HS := Lib.hid (roomN_step limit D (i := i) (by rw [HDL.out]; exact hlt))
   have HT := Lib.hid (minN_step limit D (i := i) (by rw [HDL.out]; exact hlt))
   generalize hk : R.getD i 0 = k at z1 z2 z3 f2
   have HKK := Lib.hid hk
   generalize hxx : D.getD i 0 = x at z3 hx1 hx2 HS HT
   generalize hrr : roomN limit D i = r at zr HC hr0 HS
   have hkn : (k : Int) < (n : Int) := by omega
   clear hx hk hxx hrr HB
   obtain ⟨y, hy⟩ : ∃ y, y = min x limit := ⟨_, rfl⟩
   have hy15 : y ≤ 15 := by omega
   have hsh : (32768 : Int) / 2 ^ y = (roomW y : Int) := by unfold roomW; norm_cast
   have hrl := roomW_le y
   rw [← hy] at HS HT
   have hmn : (if (x : Int) ≤ limit then (x : Int) else limit) = (y : Int) := by split <;> omega
   have go2 : ∀ (W : World), CutM W bo w.heap.size (w.heap.size + 1) og n R (minN limit D (i + 1)) r → W.cell? ⟨bo, k, none⟩ = some (.int .i64 y) := fun W h => by
     obtain ⟨-, -, h3⟩ := h.at hlt
     rw [HKK.out] at h3
     rw [h3, ← HT.out, List.getD_eq_getElem?_getD, List.getElem?_set_self (by rw [minN_len, HDL.out]; exact hlt)]; rfl
   have HC1 := Lib.hid (show CutM (wr.setCell ⟨bo, k, none⟩ (.int .i64 y)).drew bo w.heap.size (w.heap.size + 1) og n R (minN limit D (i + 1)) r from by
     have := (HC.out.setO hlt y).drewN 1
     rw [HT.out, HKK.out] at this
     exact this)
   have HK1 := Lib.hid (show Keeps (fun b => b = bo) w (wr.setCell ⟨bo, k, none⟩ (.int .i64 y)).drew from (HK.out.setCell (a := ⟨bo, k, none⟩) (.inl rfl) _).drewN 1)
   have HG := Lib.hid go2
   clear go2 HC HK
   have key : x ≤ limit ∧ x = y ∨ ¬ x ≤ limit ∧ y = limit := by omega
   have hw6 : wrap64 (r - (roomW y : Int)) = roomN limit D (i + 1) := by
     rw [HS.out]
     have := HDL.out
     exact IntWalk.wrap64_in _ (by omega)
   have HY := Lib.hid hy
   clear hy hmn
   rcases key with ⟨hxl, hyx⟩ | ⟨hxl, hyx⟩
   · as_aux_lemma =>
       subst hyx
       have hmn : min (x : Int) (limit : Int) = (x : Int) := by omega
       go_wp2_with fail
       go_region
       obtain ⟨w1, hw1⟩ : ∃ w1, (wr.setCell ⟨bo, k, none⟩ (.int .i64 x)).drew = w1 := ⟨_, rfl⟩
       rw [hw1] at HC1 HK1 ⊢
       have q1 := HC1.out.cbox
       have q2 := HC1.out.crm
       have q3 := HC1.out.frm
       have q4 := HG.out _ HC1.out
       clear zb zr f1 f2 z3 z2
       go_wp2_with fail
       go_region
       rw [hw6]
       go_wp2_with fail
       go_roundw
       case rel => exact ⟨i + 1, by go_num, by omega, Lib.hid ((HC1.out.setR _).drewN 1), Lib.hid ((HK1.out.setCell (a := ⟨w.heap.size + 1, 0, none⟩) (.inr (by show w.heap.size ≤ w.heap.size + 1; omega)) _).drewN 1)⟩
       case measure => simp [intOf]; omega
   · as_aux_lemma =>
       subst hyx
       have hmn : min (x : Int) (y : Int) = (y : Int) := by omega
       go_wp2_with fail
       go_region
       obtain ⟨w1, hw1⟩ : ∃ w1, (wr.setCell ⟨bo, k, none⟩ (.int .i64 y)).drew = w1 := ⟨_, rfl⟩
       rw [hw1] at HC1 HK1 ⊢
       have q1 := HC1.out.cbox
       have q2 := HC1.out.crm
       have q3 := HC1.out.frm
       have q4 := HG.out _ HC1.out
       clear zb zr f1 f2 z3 z2
       go_wp2_with fail
       go_region
       rw [hw6]
       go_wp2_with fail
       go_roundw
       case rel => exact ⟨i + 1, by go_num, by omega, Lib.hid ((HC1.out.setR _).drewN 1), Lib.hid ((HK1.out.setCell (a := ⟨w.heap.size + 1, 0, none⟩) (.inr (by show w.heap.size ≤ w.heap.size + 1; omega)) _).drewN 1)⟩
       case measure => simp [intOf]; omega
end Go.Proofs.Ythmpigmmihiecaa
namespace Go.Proofs
open Go.Shelf
def Try.sortInt_ren : Go.Shelf.Ren := ⟨fun | 6 => 35 | 15 => 46 | 14 => 45 | 28 => 57 | 29 => 58 | 20 => 42 | 21 => 50 | 22 => 51 | 23 => 52 | 24 => 53 | 25 => 54 | 26 => 55 | 27 => 56 | 46 => 61 | 47 => 62 | 48 => 63 | 49 => 64 | 50 => 65 | 57 => 67 | n => n, fun | 22 => 22 | 24 => 3 | 25 => 48 | 3 => 3 | 39 => 61 | 0 => 0 | 53 => 35 | 55 => 94 | 4 => 4 | 46 => 86 | 45 => 85 | 50 => 90 | 5 => 5 | 9 => 9 | 66 => 95 | 70 => 99 | 76 => 101 | 77 => 102 | n => n, fun | n => n⟩
theorem Try.sortInt : Go.Proofs.SlLaysF.n6 Try.prog Try.sortInt_ren := {
 mixed := by kernel_rfl
 f6 := ⟨Try.f35.name, by decide, Try.func35.trans (congrArg some (by kernel_rfl))⟩
 f14 := ⟨Try.f45.name, by decide, Try.func45.trans (congrArg some (by kernel_rfl))⟩
 f15 := Try.func46.trans (congrArg some (by kernel_rfl))
 f20 := ⟨Try.f42.name, by decide, Try.func42.trans (congrArg some (by kernel_rfl))⟩
 f21 := ⟨Try.f50.name, by decide, Try.func50.trans (congrArg some (by kernel_rfl))⟩
 f22 := ⟨Try.f51.name, by decide, Try.func51.trans (congrArg some (by kernel_rfl))⟩
 f23 := ⟨Try.f52.name, by decide, Try.func52.trans (congrArg some (by kernel_rfl))⟩
 f24 := ⟨Try.f53.name, by decide, Try.func53.trans (congrArg some (by kernel_rfl))⟩
 f25 := ⟨Try.f54.name, by decide, Try.func54.trans (congrArg some (by kernel_rfl))⟩
 f26 := ⟨Try.f55.name, by decide, Try.func55.trans (congrArg some (by kernel_rfl))⟩
 f27 := ⟨Try.f56.name, by decide, Try.func56.trans (congrArg some (by kernel_rfl))⟩
 f28 := Try.func57.trans (congrArg some (by kernel_rfl))
 f29 := Try.func58.trans (congrArg some (by kernel_rfl))
 f46 := ⟨Try.f61.name, by decide, Try.func61.trans (congrArg some (by kernel_rfl))⟩
 f47 := Try.func62.trans (congrArg some (by kernel_rfl))
 f48 := Try.func63.trans (congrArg some (by kernel_rfl))
 f49 := ⟨Try.f64.name, by decide, Try.func64.trans (congrArg some (by kernel_rfl))⟩
 f50 := ⟨Try.f65.name, by decide, Try.func65.trans (congrArg some (by kernel_rfl))⟩
 f57 := ⟨Try.f67.name, by decide, Try.func67.trans (congrArg some (by kernel_rfl))⟩
 t0 := Try.underlying0
 a0 := Try.isAgg0
 z0 := Try.sizeOf0
 v0 := Try.zeroValue0
 t3 := Try.underlying3
 a3 := Try.isAgg3
 z3 := Try.sizeOf3
 v3 := Try.zeroValue3
 t4 := Try.underlying4
 a4 := Try.isAgg4
 z4 := Try.sizeOf4
 v4 := Try.zeroValue4
 t5 := Try.underlying5
 a5 := Try.isAgg5
 z5 := Try.sizeOf5
 v5 := Try.zeroValue5
 t9 := Try.underlying9
 a9 := Try.isAgg9
 z9 := Try.sizeOf9
 v9 := Try.zeroValue9
 t22 := Try.underlying22
 a22 := Try.isAgg22
 z22 := Try.sizeOf22
 v22 := Try.zeroValue22
 a24 := Try.isAgg3
 z24 := Try.sizeOf3
 t25 := Try.underlying48
 a25 := Try.isAgg48
 z25 := Try.sizeOf48
 v25 := Try.zeroValue48
 t39 := Try.underlying61
 a39 := Try.isAgg61
 z39 := Try.sizeOf61
 v39 := Try.zeroValue61
 t45 := Try.underlying85
 a45 := Try.isAgg85
 z45 := Try.sizeOf85
 v45 := Try.zeroValue85
 t46 := Try.underlying86
 a46 := Try.isAgg86
 z46 := Try.sizeOf86
 v46 := Try.zeroValue86
 t50 := Try.underlying90
 a50 := Try.isAgg90
 z50 := Try.sizeOf90
 v50 := Try.zeroValue90
 t53 := Try.underlying35
 a53 := Try.isAgg35
 z53 := Try.sizeOf35
 v53 := Try.zeroValue35
 t55 := Try.underlying94
 a55 := Try.isAgg94
 z55 := Try.sizeOf94
 v55 := Try.zeroValue94
 t66 := Try.underlying95
 a66 := Try.isAgg95
 z66 := Try.sizeOf95
 v66 := Try.zeroValue95
 t70 := Try.underlying99
 a70 := Try.isAgg99
 z70 := Try.sizeOf99
 v70 := Try.zeroValue99
 t76 := Try.underlying101
 a76 := Try.isAgg101
 z76 := Try.sizeOf101
 v76 := Try.zeroValue101
 t77 := Try.underlying102
 a77 := Try.isAgg102
 z77 := Try.sizeOf102
 v77 := Try.zeroValue102 }
end Go.Proofs
namespace Go.Proofs.Ythmpigmmihiecaa
open Go.RowKit Go.Sort
def encN (x : Nat) : Value := .int .i64 x
def cmpD (x y : Nat) : Int := cmpI y x
theorem cmpD_lt (x y : Nat) : Go.Proofs.ltOf cmpD x y = decide (y < x) := by
 unfold Go.Proofs.ltOf cmpD cmpI
 by_cases h1 : (y : Int) < x
 · rw [if_pos h1]; simp; omega
 · rw [if_neg h1]
   by_cases h2 : (x : Int) < y
   · rw [if_pos h2]; simp; omega
   · rw [if_neg h2]; simp; omega
theorem swoD : SWO (Go.Proofs.ltOf cmpD) where
 irrefl x := by show Go.Proofs.ltOf cmpD x x = false; rw [cmpD_lt]; simp
 trans x y z h1 h2 := by
   change Go.Proofs.ltOf cmpD x y = true at h1
   change Go.Proofs.ltOf cmpD y z = true at h2
   show Go.Proofs.ltOf cmpD x z = true
   rw [cmpD_lt] at *; simp at *; omega
 ntrans x y z h1 h2 := by
   change Go.Proofs.ltOf cmpD x y = false at h1
   change Go.Proofs.ltOf cmpD y z = false at h2
   show Go.Proofs.ltOf cmpD x z = false
   rw [cmpD_lt] at *; simp at *; omega
theorem cmpS1_any (x y : Nat) (w : World) : Calls Try.prog 36 #[.int .i64 x, .int .i64 y] w fun e w' => e = .returned (.int .i64 (cmpD x y)) ∧ w' = w := by
 obtain ⟨R, hR⟩ : ∃ R, R = cmpD x y := ⟨_, rfl⟩
 have HC := Lib.hid (fun W => cmpI_any (y : Int) (x : Int) W)
 have hR2 : cmpI (y : Int) (x : Int) = R := hR.symm
 rw [hR2] at HC
 rw [← hR]
 clear hR hR2
 go_enter Try.func36, Try.ntmps36
 go_wp2_with (go_at_call 16; refine (HC.out _).mono ?_; rintro e w2 ⟨rfl, rfl⟩)
 go_ret
 exact ⟨rfl, rfl⟩
theorem putN_take (D : List Nat) (cur : Array Value) (h : D.length ≤ cur.size) : (putCells encN 0 D.toArray cur).toList.take D.length = natV D := by
 apply List.ext_getElem?
 intro i
 rw [List.getElem?_take]
 by_cases hi : i < D.length
 · rw [if_pos hi, natV_at hi, Array.getElem?_toList]
   unfold putCells
   rw [Array.getElem?_mapIdx, Array.getElem?_eq_getElem (by omega)]
   simp [hi, encN, List.getD]
 · rw [if_neg hi, List.getElem?_eq_none (by rw [natV_len]; omega)]
theorem sort_int : SortISaid := by
 intro base g cap D w h hn
 obtain ⟨h1, h2⟩ := h
 rcases h2 with ⟨h3, _⟩ | ⟨g', cap', cur, hv, hbg, hg, hle, hcm, hcs, htk⟩
 · cases h3
 simp only [Value.slice.injEq, Option.some.injEq, Addr.mk.injEq] at hv
 obtain ⟨⟨rfl, _, _⟩, -, rfl⟩ := hv
 rw [Nat.mul_one] at hcs htk
 have hblk : g < w.heap.size := (Array.getElem?_eq_some_iff.1 hg).1
 have hH : Holds encN w g 0 D.toArray := by
   intro j hj
   have hj2 : j < D.length := by simpa using hj
   refine ⟨?_, frozen_of_row w g _ _ _ hg⟩
   rw [Nat.zero_add, cell_of_row w g j cur _ (0, 0) hg]
   have h5 : (cur.toList.take D.length)[j]? = (natV D)[j]? := by rw [htk]
   rw [List.getElem?_take, if_pos hj2, natV_at hj2, Array.getElem?_toList] at h5
   rw [h5]
   simp [encN, List.getD, hj2]
 have eg : ∀ args w, (callFunc 36 args).run Try.prog w = .ok (.enter 36 args) w := enters_of Try.func36 (by kernel_rfl) rfl
 have hcmp : CmpLays1 Try.prog 36 #[] encN cmpD g 0 D.toArray.size w := CmpReads.lays fun _ _ _ _ x y => (cmpS1_any x y _).mono fun _ _ ⟨h1, h2⟩ => ⟨h1, 0, h2⟩
 have hcon := Any.slices_SortFunc Try.sortInt encN (fun _ => rfl) cmpD swoD 36 #[] g 0 cap D.toArray w eg hcmp hH hblk (by simp; omega)
 change Calls Try.prog 35 _ _ _ at hcon
 have es : D.toArray.size = D.length := by simp
 rw [es] at hcon
 refine hcon.mono ?_
 rintro e w' ⟨rfl, d', m, os, hp, hs, rfl⟩
 obtain ⟨D', rfl⟩ : ∃ D' : List Nat, D'.toArray = d' := ⟨d'.toList, by simp⟩
 have hl' : D'.length = D.length := by have := hp.1; simpa using this
 refine ⟨rfl, D', ?_, fun i j hij hj => ?_, ?_, ?_⟩
 · have h6 := hp.2.2
   have e1 : (D'.toArray.extract 0 D.length).toList = D' := by rw [← hl']; simp
   have e2 : (D.toArray.extract 0 D.length).toList = D := by simp
   rwa [e1, e2] at h6
 · rcases Nat.lt_or_eq_of_le hij with h | h
   · have h7 := hs i j (Nat.zero_le _) h (by omega)
     change Go.Proofs.ltOf cmpD D'.toArray[j]! D'.toArray[i]! = false at h7
     rw [cmpD_lt, getElem!_pos D'.toArray i (by simp; omega), getElem!_pos D'.toArray j (by simpa using hj)] at h7
     simp only [List.getD_eq_getElem?_getD, List.getElem?_eq_getElem hj, List.getElem?_eq_getElem (show i < D'.length by omega), Option.getD_some]
     simp at h7
     omega
   · subst h; exact Nat.le_refl _
 · have hfs : D'.length ≤ cur.size := by omega
   refine ⟨by rw [natV_len, hl', Nat.mul_one], .inr ⟨g, cap, putCells encN 0 D'.toArray cur, rfl, hbg, ?_, hle, hcm, ?_, ?_⟩⟩
   · unfold sortWorld
     rw [heap_grow_old _ _ (by rw [size_putRow]; exact hblk)]
     unfold putRow mapBlock
     show (w.heap.modify g _)[g]? = _
     rw [Array.getElem?_modify, if_pos rfl, hg]
     rfl
   · simp [putCells, hcs]
   · rw [Nat.mul_one, ← hl']; exact putN_take D' cur hfs
 · refine ⟨rfl, rfl, rfl, ?_, fun k hk hne => ?_⟩
   · unfold sortWorld
     have h := size_grow (putRow encN (Sort.ahead w m) g 0 D'.toArray) os
     rw [size_putRow] at h
     rw [h]
     exact Nat.le_add_right _ _
   · unfold sortWorld
     rw [heap_grow_old _ _ (by rw [size_putRow]; exact hk)]
     unfold putRow mapBlock
     show (w.heap.modify g _)[k]? = _
     rw [Array.getElem?_modify, if_neg (fun e => hne (by rw [e]))]
theorem swapR_any {α : Type} [Inhabited α] (enc : α → Value) (hE : ∀ x, ∃ n, enc x = .int .i64 n) (F : Value) (g cap a b n : Nat) (rest : List Value) (d : Array α) (w0 w : World)
   (hS : SB enc w0 g 3 rest d w) (hab : a + n ≤ b) (hb : b + n ≤ d.size) (hsz : d.size < 4611686018427387904) :
   Calls Try.prog 60 #[.slice (some ⟨g, 0, none⟩) d.size cap, .int .i64 a, .int .i64 b, .int .i64 n, F] w fun e w' => e = .returned (.tuple #[]) ∧ ∃ R : Array α, R.size = d.size ∧ SB enc w0 g 3 rest R w' ∧ (∀ k, R[k]! = swR d a b n k) ∧ PermIn a (b + n) d R := by
 have HS := Lib.hid hS
 clear hS
 go_enter Try.func60, Try.ntmps60
 go_wp2
 go_loopw [10] (fun vi wr => ∃ (i : Nat) (dk : Array α), vi = .int .i64 i ∧ i ≤ n ∧ dk.size = d.size ∧ Hid (SB enc w0 g 3 rest dk wr) ∧ Hid (∀ k, dk[k]! = swR d a b i k) ∧ Hid (PermIn a (b + n) d dk)) (fun vi _ => n - (intOf vi).toNat)
 case atStart => exact ⟨0, d, rfl, by omega, rfl, HS, Lib.hid (fun k => (swR_zero d a b k).symm), Lib.hid (permIn_refl _ _ _)⟩
 case round =>
   obtain ⟨i, dk, rfl, hin, hsk, HSk, HR, HP⟩ := hrel
   clear HS
   by_cases hlt : i < n
   · have hc1 := HSk.out.cell (a + i) (by omega)
     have hc2 := HSk.out.cell (b + i) (by omega)
     have hf1 := HSk.out.free (a + i)
     have hf2 := HSk.out.free (b + i)
     obtain ⟨X, hX⟩ : ∃ X, X = dk[a + i]! := ⟨_, rfl⟩
     obtain ⟨Y, hY⟩ : ∃ Y, Y = dk[b + i]! := ⟨_, rfl⟩
     rw [← hX] at hc1
     rw [← hY] at hc2
     have HX := Lib.hid hX
     have HY := Lib.hid hY
     obtain ⟨x, hx⟩ := hE X
     obtain ⟨y, hy⟩ := hE Y
     rw [hx] at hc1
     rw [hy] at hc2
     have HEx := Lib.hid hx
     have HEy := Lib.hid hy
     clear hx hy hX hY
     have hj1 : ((a : Int) + (i : Int)).toNat = a + i := by omega
     have hj2 : ((b : Int) + (i : Int)).toNat = b + i := by omega
     have hb1 : (a : Int) + (i : Int) < (d.size : Int) := by omega
     have hb2 : (b : Int) + (i : Int) < (d.size : Int) := by omega
     go_wp2
     go_region
     all_goals go_wp2
     go_roundw
     case rel =>
       refine ⟨i + 1, swp dk (a + i) (b + i), by go_num, by omega, by rw [size_swp]; exact hsk, ?_, Lib.hid (swR_step d dk a b n i hlt hab (by omega) HR.out), Lib.hid (permIn_trans _ _ _ _ _ HP.out (swp_permIn dk a (b + n) (a + i) (b + i) (by omega) (by omega) (by omega) (by omega) (by omega)))⟩
       have hw := HSk.out.swp (a + i) (b + i) (by omega) (by omega) 1
       rw [← HX.out, ← HY.out, HEx.out, HEy.out] at hw
       exact Lib.hid hw
     case measure => simp [intOf]; omega
   · obtain rfl : n = i := by omega
     go_wp2
     go_end0
     exact ⟨rfl, dk, hsk, HSk.out, HR.out, HP.out⟩
theorem rot_any {α : Type} [Inhabited α] (enc : α → Value) (hE : ∀ x, ∃ n, enc x = .int .i64 n) (F : Value) (g cap a m b : Nat) (rest : List Value) (d : Array α) (w0 w : World)
   (hS : SB enc w0 g 3 rest d w) (ham : a < m) (hmb : m < b) (hb : b ≤ d.size) (hsz : d.size < 4611686018427387904) :
   Calls Try.prog 49 #[.slice (some ⟨g, 0, none⟩) d.size cap, .int .i64 a, .int .i64 m, .int .i64 b, F] w fun e w' => e = .returned (.tuple #[]) ∧ ∃ R : Array α, R.size = d.size ∧ SB enc w0 g 3 rest R w' ∧ (∀ k, R[k]! = rotF d a m b k) ∧ PermIn a b d R := by
 have HS := Lib.hid hS
 clear hS
 go_enter Try.func49, Try.ntmps49
 go_wp2
 go_loopw [10, 11] (fun vi vj wr => ∃ (i j : Nat) (dk : Array α), vi = .int .i64 i ∧ vj = .int .i64 j ∧ 0 < i ∧ 0 < j ∧ i ≤ m - a ∧ j ≤ b - m ∧ dk.size = d.size ∧ Hid (SB enc w0 g 3 rest dk wr) ∧ Hid (∀ k, rotF dk (m - i) m (m + j) k = rotF d a m b k) ∧ Hid (PermIn a b d dk)) (fun vi vj _ => (intOf vi).toNat + (intOf vj).toNat)
 case atStart => exact ⟨m - a, b - m, d, by go_num, by go_num, by omega, by omega, by omega, by omega, rfl, HS, Lib.hid (fun k => by rw [show m - (m - a) = a from by omega, show m + (b - m) = b from by omega]), Lib.hid (permIn_refl _ _ _)⟩
 case round =>
   obtain ⟨i, j, dk, rfl, rfl, hi, hj, him, hjm, hsk, HSk, HR, HP⟩ := hrel
   clear HS
   have hmi : ((m - i : Nat) : Int) = (m : Int) - i := by omega
   by_cases hgt : j < i
   · have hsw := swapR_any enc hE F g cap (m - i) m j rest dk w0 wr HSk.out (by omega) (by omega) (by omega)
     rw [hmi, hsk] at hsw
     have HSW := Lib.hid hsw
     have hne : ((i : Int) == (j : Int)) = false := by rw [beq_eq_false_iff_ne]; omega
     clear hsw
     go_wp2_with (go_at_call 60; refine HSW.out.mono ?_; rintro e w2 ⟨rfl, R, hRs, hRB, hRk, hRP⟩; have HB2 := Lib.hid hRB; have HK2 := Lib.hid hRk; have HP2 := Lib.hid hRP; clear hRB hRk hRP)
     go_roundw
     case rel => exact ⟨i - j, j, R, by go_num, rfl, by omega, by omega, by omega, by omega, hRs, HB2, Lib.hid (fun k => by rw [rot_gt dk R m i j hgt (by omega) HK2.out k]; exact HR.out k), Lib.hid (permIn_trans _ _ _ _ _ HP.out (permIn_mono dk R (m - i) (m + j) a b (by omega) (by omega) (by omega) HP2.out))⟩
     case measure => simp [intOf]; omega
   · by_cases hlt : i < j
     · have hsw := swapR_any enc hE F g cap (m - i) (m + j - i) i rest dk w0 wr HSk.out (by omega) (by omega) (by omega)
       rw [hmi, hsk, show ((m + j - i : Nat) : Int) = (m : Int) + j - i from by omega] at hsw
       have HSW := Lib.hid hsw
       have hne : ((i : Int) == (j : Int)) = false := by rw [beq_eq_false_iff_ne]; omega
       clear hsw
       go_wp2_with (go_at_call 60; refine HSW.out.mono ?_; rintro e w2 ⟨rfl, R, hRs, hRB, hRk, hRP⟩; have HB2 := Lib.hid hRB; have HK2 := Lib.hid hRk; have HP2 := Lib.hid hRP; clear hRB hRk hRP)
       go_roundw
       case rel => exact ⟨i, j - i, R, rfl, by go_num, by omega, by omega, by omega, by omega, hRs, HB2, Lib.hid (fun k => by rw [rot_lt dk R m i j hlt (by omega) HK2.out k]; exact HR.out k), Lib.hid (permIn_trans _ _ _ _ _ HP.out (permIn_mono dk R (m - i) (m + j - i + i) a b (by omega) (by omega) (by omega) HP2.out))⟩
       case measure => simp [intOf]; omega
     · obtain rfl : i = j := by omega
       have hsw := swapR_any enc hE F g cap (m - i) m i rest dk w0 wr HSk.out (by omega) (by omega) (by omega)
       rw [hmi, hsk] at hsw
       have HSW := Lib.hid hsw
       clear hsw
       go_wp2_with (go_at_call 60; refine HSW.out.mono ?_; rintro e w2 ⟨rfl, R, hRs, hRB, hRk, hRP⟩; have HB2 := Lib.hid hRB; have HK2 := Lib.hid hRk; have HP2 := Lib.hid hRP; clear hRB hRk hRP)
       go_end0
       exact ⟨rfl, R, hRs, HB2.out, fun k => by rw [rot_eq dk R m i (by omega) HK2.out k]; exact HR.out k, permIn_trans _ _ _ _ _ HP.out (permIn_mono dk R (m - i) (m + i) a b (by omega) (by omega) (by omega) HP2.out)⟩
def MergeP {α : Type} [Inhabited α] (enc : α → Value) (lt : α → α → Bool) (g a b : Nat) (rest : List Value) (d : Array α) (w0 : World) (e : Ending) (w' : World) : Prop :=
 e = .returned (.tuple #[]) ∧ ∃ R : Array α, R.size = d.size ∧ SB enc w0 g 3 rest R w' ∧ PermIn a b d R ∧ SortedIn lt a b R
theorem sym_left {α : Type} [Inhabited α] (enc : α → Value) (hE : ∀ x, ∃ n, enc x = .int .i64 n) (cf : α → α → Int) (lt : α → α → Bool) (hL : SWO lt) (D : α → Prop) (f : FuncId) (cb : Array Value) (g cap a m b : Nat) (rest : List Value) (d : Array α) (w0 w : World)
   (hC : CmpQ Try.prog f cb enc cf D w0 g) (hS : SB enc w0 g 3 rest d w) (hD : ∀ i, i < d.size → D d[i]!) (hm : m = a + 1) (hmb : m < b) (hb : b ≤ d.size) (hsz : d.size < 4611686018427387904)
   (h2 : SortedIn lt m b d) (hA : Agree (ltOf cf) lt d a m b) :
   Calls Try.prog 43 #[.slice (some ⟨g, 0, none⟩) d.size cap, .int .i64 a, .int .i64 m, .int .i64 b, .func (.func f) #[] cb] w fun e w' => MergeP enc lt g a b rest d w0 e w' := by
 have eg := hC.enters
 have HC := Lib.hid hC
 have HS := Lib.hid hS
 have HD := Lib.hid hD
 have H2 := Lib.hid h2
 have HA := Lib.hid hA
 clear hC hS hD h2 hA
 have heq : ((m : Int) - (a : Int) == 1) = true := by rw [beq_iff_eq]; omega
 go_enter Try.func43, Try.ntmps43
 go_wp2
 go_loopw [10, 11] (fun vi vj wr => ∃ (i j : Nat), vi = .int .i64 i ∧ vj = .int .i64 j ∧ m ≤ i ∧ i ≤ j ∧ j ≤ b ∧ Hid (SB enc w0 g 3 rest d wr) ∧ Hid (∀ q, m ≤ q → q < i → lt d[q]! d[a]! = true) ∧ Hid (∀ q, j ≤ q → q < b → lt d[q]! d[a]! = false)) (fun vi vj _ => (intOf vj).toNat - (intOf vi).toNat)
 case atStart => exact ⟨m, b, rfl, rfl, Nat.le_refl _, by omega, Nat.le_refl _, HS, Lib.hid (fun q h1 h2 => by omega), Lib.hid (fun q h1 h2 => by omega)⟩
 case round =>
   obtain ⟨i, j, rfl, rfl, hai, hij, hjb, HSk, HLo, HHi⟩ := hrel
   clear HS
   by_cases hlt : i < j
   · obtain ⟨h, hh⟩ : ∃ h, h = (i + j) / 2 := ⟨_, rfl⟩
     have hc1 := HSk.out.cell h (by omega)
     have hc2 := HSk.out.cell a (by omega)
     have hcall := fun q => HC.out.calls (wr.drewN q) (HSk.out.drewN q).grown d[h]! d[a]! (HD.out h (by omega)) (HD.out a (by omega))
     have hag := HA.out a h (Nat.le_refl _) (by omega) (by omega) (by omega)
     obtain ⟨X, hX⟩ : ∃ X, X = d[h]! := ⟨_, rfl⟩
     obtain ⟨Y, hY⟩ : ∃ Y, Y = d[a]! := ⟨_, rfl⟩
     rw [← hX] at hc1 hcall hag
     rw [← hY] at hc2 hcall hag
     have HX := Lib.hid hX
     have HY := Lib.hid hY
     obtain ⟨x, hx⟩ := hE X
     obtain ⟨y, hy⟩ := hE Y
     rw [hx] at hc1 hcall
     rw [hy] at hc2 hcall
     have HCALL := Lib.hid hcall
     have HAG := Lib.hid hag
     clear hcall hx hy hX hY hag
     have hh1 : ((i : Int) + (j : Int)) / 2 = (h : Int) := by omega
     have hhb : (h : Int) < (d.size : Int) := by omega
     have hab : (a : Int) < (d.size : Int) := by omega
     have hhi : i ≤ h := by omega
     have hhj : h < j := by omega
     clear hh
     by_cases hcf : cf X Y < 0
     · have hl : lt X Y = true := by rw [← HAG.out]; simpa [ltOf] using hcf
       have HL := Lib.hid hl
       have hcf2 : cf X Y < 0 := hcf
       clear hl hcf
       go_wp2_with fail
       go_quiet ((refine Calls.quiet_of (HCALL.out _)))
       go_wp2
       go_roundw
       case rel => exact ⟨h + 1, j, by go_num, rfl, by omega, by omega, hjb, Lib.hid (HSk.out.drewN _), Lib.hid (fun q h3 h4 => low_all hL H2.out (by omega : h < b) (by rw [← HX.out, ← HY.out]; exact HL.out) q h3 (by omega)), HHi⟩
       case measure => simp [intOf]; omega
     · have hl : lt X Y = false := by rw [← HAG.out]; simpa [ltOf] using hcf
       have HL := Lib.hid hl
       have hcf2 : 0 ≤ cf X Y := by omega
       clear hl hcf
       go_wp2_with fail
       go_quiet ((refine Calls.quiet_of (HCALL.out _)))
       go_wp2
       go_roundw
       case rel => exact ⟨i, h, rfl, rfl, hai, hhi, by omega, Lib.hid (HSk.out.drewN _), HLo, Lib.hid (fun q h3 h4 => high_all hL H2.out (by omega) (by rw [← HX.out, ← HY.out]; exact HL.out) q h3 h4)⟩
       case measure => simp [intOf]; omega
   · obtain rfl : i = j := by omega
     go_wp2
     go_loopw [13] (fun vk wr2 => ∃ (k : Nat) (dk : Array α), vk = .int .i64 k ∧ a ≤ k ∧ k ≤ i - 1 ∧ dk.size = d.size ∧ Hid (SB enc w0 g 3 rest dk wr2) ∧ Hid (∀ q, dk[q]! = shlF d a k q) ∧ Hid (PermIn a b d dk)) (fun vk _ => i - (intOf vk).toNat)
     case atStart => exact ⟨a, d, rfl, Nat.le_refl _, by omega, rfl, HSk, Lib.hid (fun q => (shlF_zero d a q).symm), Lib.hid (permIn_refl _ _ _)⟩
     case round =>
       obtain ⟨k, dk, rfl, hak, hki, hsk, HSk2, HR, HP⟩ := hrel
       clear HSk
       by_cases hk : k < i - 1
       · have hc1 := HSk2.out.cell k (by omega)
         have hc2 := HSk2.out.cell (k + 1) (by omega)
         have hf1 := HSk2.out.free k
         have hf2 := HSk2.out.free (k + 1)
         obtain ⟨X, hX⟩ : ∃ X, X = dk[k]! := ⟨_, rfl⟩
         obtain ⟨Y, hY⟩ : ∃ Y, Y = dk[k + 1]! := ⟨_, rfl⟩
         rw [← hX] at hc1
         rw [← hY] at hc2
         have HX := Lib.hid hX
         have HY := Lib.hid hY
         obtain ⟨x, hx⟩ := hE X
         obtain ⟨y, hy⟩ := hE Y
         rw [hx] at hc1
         rw [hy] at hc2
         have HEx := Lib.hid hx
         have HEy := Lib.hid hy
         clear hx hy hX hY
         have hj1 : ((k : Int) + 1).toNat = k + 1 := by omega
         have hb1 : (k : Int) < (d.size : Int) := by omega
         have hb2 : (k : Int) + 1 < (d.size : Int) := by omega
         go_wp2
         go_region
         all_goals go_wp2
         go_roundw
         case rel =>
           refine ⟨k + 1, swp dk k (k + 1), by go_num, by omega, by omega, by rw [size_swp]; exact hsk, ?_, Lib.hid (shlF_step d dk a k hak (by omega) HR.out), Lib.hid (permIn_trans _ _ _ _ _ HP.out (swp_permIn dk a b k (k + 1) (by omega) (by omega) (by omega) (by omega) (by omega)))⟩
           have hw := HSk2.out.swp k (k + 1) (by omega) (by omega) 1
           rw [← HX.out, ← HY.out, HEx.out, HEy.out] at hw
           exact Lib.hid hw
         case measure => simp [intOf]; omega
       · obtain rfl : k = i - 1 := by omega
         go_wp2
         go_end0
         exact ⟨rfl, dk, hsk, HSk2.out, HP.out, left_done hL d dk a b i (by omega) hjb (by rw [← hm]; exact H2.out) (by rw [← hm]; exact HLo.out) HHi.out HR.out⟩
theorem sym_right {α : Type} [Inhabited α] (enc : α → Value) (hE : ∀ x, ∃ n, enc x = .int .i64 n) (cf : α → α → Int) (lt : α → α → Bool) (hL : SWO lt) (D : α → Prop) (f : FuncId) (cb : Array Value) (g cap a m b : Nat) (rest : List Value) (d : Array α) (w0 w : World)
   (hC : CmpQ Try.prog f cb enc cf D w0 g) (hS : SB enc w0 g 3 rest d w) (hD : ∀ i, i < d.size → D d[i]!) (ham : a + 1 < m) (hbm : b = m + 1) (hb : b ≤ d.size) (hsz : d.size < 4611686018427387904)
   (h1 : SortedIn lt a m d) (hA : Agree (ltOf cf) lt d a m b) :
   Calls Try.prog 43 #[.slice (some ⟨g, 0, none⟩) d.size cap, .int .i64 a, .int .i64 m, .int .i64 b, .func (.func f) #[] cb] w fun e w' => MergeP enc lt g a b rest d w0 e w' := by
 have eg := hC.enters
 have HC := Lib.hid hC
 have HS := Lib.hid hS
 have HD := Lib.hid hD
 have H1 := Lib.hid h1
 have HA := Lib.hid hA
 clear hC hS hD h1 hA
 have hne : ((m : Int) - (a : Int) == 1) = false := by rw [beq_eq_false_iff_ne]; omega
 have heq : ((b : Int) - (m : Int) == 1) = true := by rw [beq_iff_eq]; omega
 go_enter Try.func43, Try.ntmps43
 go_wp2
 go_loopw [14, 15] (fun vi vj wr => ∃ (i j : Nat), vi = .int .i64 i ∧ vj = .int .i64 j ∧ a ≤ i ∧ i ≤ j ∧ j ≤ m ∧ Hid (SB enc w0 g 3 rest d wr) ∧ Hid (∀ q, a ≤ q → q < i → lt d[m]! d[q]! = false) ∧ Hid (∀ q, j ≤ q → q < m → lt d[m]! d[q]! = true)) (fun vi vj _ => (intOf vj).toNat - (intOf vi).toNat)
 case atStart => exact ⟨a, m, rfl, rfl, Nat.le_refl _, by omega, Nat.le_refl _, HS, Lib.hid (fun q h1 h2 => by omega), Lib.hid (fun q h1 h2 => by omega)⟩
 case round =>
   obtain ⟨i, j, rfl, rfl, hai, hij, hjb, HSk, HLo, HHi⟩ := hrel
   clear HS
   by_cases hlt : i < j
   · obtain ⟨h, hh⟩ : ∃ h, h = (i + j) / 2 := ⟨_, rfl⟩
     have hc1 := HSk.out.cell m (by omega)
     have hc2 := HSk.out.cell h (by omega)
     have hcall := fun q => HC.out.calls (wr.drewN q) (HSk.out.drewN q).grown d[m]! d[h]! (HD.out m (by omega)) (HD.out h (by omega))
     have hag := HA.out h m (by omega) (by omega) (by omega) (by omega)
     obtain ⟨X, hX⟩ : ∃ X, X = d[m]! := ⟨_, rfl⟩
     obtain ⟨Y, hY⟩ : ∃ Y, Y = d[h]! := ⟨_, rfl⟩
     rw [← hX] at hc1 hcall hag
     rw [← hY] at hc2 hcall hag
     have HX := Lib.hid hX
     have HY := Lib.hid hY
     obtain ⟨x, hx⟩ := hE X
     obtain ⟨y, hy⟩ := hE Y
     rw [hx] at hc1 hcall
     rw [hy] at hc2 hcall
     have HCALL := Lib.hid hcall
     have HAG := Lib.hid hag
     clear hcall hx hy hX hY hag
     have hh1 : ((i : Int) + (j : Int)) / 2 = (h : Int) := by omega
     have hhb : (h : Int) < (d.size : Int) := by omega
     have hmd : (m : Int) < (d.size : Int) := by omega
     have hhi : i ≤ h := by omega
     have hhj : h < j := by omega
     clear hh
     by_cases hcf : cf X Y < 0
     · have hl : lt X Y = true := by rw [← HAG.out]; simpa [ltOf] using hcf
       have HL := Lib.hid hl
       have hcf2 : cf X Y < 0 := hcf
       have hcfB : decide (cf X Y < 0) = true := by rw [decide_eq_true_iff]; exact hcf
       clear hl hcf
       go_wp2_with fail
       go_quiet ((refine Calls.quiet_of (HCALL.out _)))
       go_wp2
       go_roundw
       case rel => exact ⟨i, h, rfl, rfl, hai, hhi, by omega, Lib.hid (HSk.out.drewN _), HLo, Lib.hid (fun q h3 h4 => high_all' hL H1.out (by omega) (by rw [← HX.out, ← HY.out]; exact HL.out) q h3 h4)⟩
       case measure => simp [intOf]; omega
     · have hl : lt X Y = false := by rw [← HAG.out]; simpa [ltOf] using hcf
       have HL := Lib.hid hl
       have hcf2 : 0 ≤ cf X Y := by omega
       have hcfB : decide (cf X Y < 0) = false := by rw [decide_eq_false_iff_not]; omega
       clear hl hcf
       go_wp2_with fail
       go_quiet ((refine Calls.quiet_of (HCALL.out _)))
       go_wp2
       go_roundw
       case rel => exact ⟨h + 1, j, by go_num, rfl, by omega, by omega, hjb, Lib.hid (HSk.out.drewN _), Lib.hid (fun q h3 h4 => low_all' hL H1.out (by omega : h < m) (by rw [← HX.out, ← HY.out]; exact HL.out) q h3 (by omega)), HHi⟩
       case measure => simp [intOf]; omega
   · obtain rfl : i = j := by omega
     go_wp2
     go_loopw [17] (fun vk wr2 => ∃ (k : Nat) (dk : Array α), vk = .int .i64 k ∧ i ≤ k ∧ k ≤ m ∧ dk.size = d.size ∧ Hid (SB enc w0 g 3 rest dk wr2) ∧ Hid (∀ q, dk[q]! = shrF d m k q) ∧ Hid (PermIn a b d dk)) (fun vk _ => (intOf vk).toNat)
     case atStart => exact ⟨m, d, rfl, hjb, Nat.le_refl _, rfl, HSk, Lib.hid (fun q => (shrF_zero d m q).symm), Lib.hid (permIn_refl _ _ _)⟩
     case round =>
       obtain ⟨k, dk, rfl, hik, hkm, hsk, HSk2, HR, HP⟩ := hrel
       clear HSk
       by_cases hk : i < k
       · obtain ⟨u, rfl⟩ : ∃ u, k = u + 1 := ⟨k - 1, by omega⟩
         have hc1 := HSk2.out.cell (u + 1) (by omega)
         have hc2 := HSk2.out.cell u (by omega)
         have hf1 := HSk2.out.free (u + 1)
         have hf2 := HSk2.out.free u
         obtain ⟨X, hX⟩ : ∃ X, X = dk[u + 1]! := ⟨_, rfl⟩
         obtain ⟨Y, hY⟩ : ∃ Y, Y = dk[u]! := ⟨_, rfl⟩
         rw [← hX] at hc1
         rw [← hY] at hc2
         have HX := Lib.hid hX
         have HY := Lib.hid hY
         obtain ⟨x, hx⟩ := hE X
         obtain ⟨y, hy⟩ := hE Y
         rw [hx] at hc1
         rw [hy] at hc2
         have HEx := Lib.hid hx
         have HEy := Lib.hid hy
         clear hx hy hX hY
         have hj1 : ((u : Int) + 1).toNat = u + 1 := by omega
         have hj2 : ((u : Int) + 1 - 1) = u := by omega
         have hb1 : (u : Int) < (d.size : Int) := by omega
         have hb2 : (u : Int) + 1 < (d.size : Int) := by omega
         go_wp2
         go_region
         all_goals go_wp2
         go_roundw
         case rel =>
           refine ⟨u, swp dk (u + 1) u, by go_num, by omega, by omega, by rw [size_swp]; exact hsk, ?_, Lib.hid (shrF_step d dk m u (by omega) (by omega) HR.out), Lib.hid (permIn_trans _ _ _ _ _ HP.out (swp_permIn dk a b (u + 1) u (by omega) (by omega) (by omega) (by omega) (by omega)))⟩
           have hw := HSk2.out.swp (u + 1) u (by omega) (by omega) 1
           rw [← HX.out, ← HY.out, HEx.out, HEy.out] at hw
           exact Lib.hid hw
         case measure => simp [intOf]
       · obtain rfl : i = k := by omega
         go_wp2
         go_end0
         refine ⟨rfl, dk, hsk, HSk2.out, HP.out, ?_⟩
         rw [hbm]
         exact right_done hL d dk a m i hai hjb H1.out HLo.out HHi.out HR.out
def MergeSaid {α : Type} [Inhabited α] (enc : α → Value) (cf : α → α → Int) (lt : α → α → Bool) (D : α → Prop) (f : FuncId) (cb : Array Value) (g cap : Nat) (rest : List Value) (n : Nat) (w0 : World) (N : Nat) : Prop :=
 ∀ (a m b : Nat) (d : Array α) (w : World), b - a ≤ N → d.size = n → SB enc w0 g 3 rest d w → (∀ i, i < d.size → D d[i]!) → a < m → m < b → b ≤ n → SortedIn lt a m d → SortedIn lt m b d → Agree (ltOf cf) lt d a m b →
   Calls Try.prog 43 #[.slice (some ⟨g, 0, none⟩) n cap, .int .i64 a, .int .i64 m, .int .i64 b, .func (.func f) #[] cb] w fun e w' => MergeP enc lt g a b rest d w0 e w'
def FinSaid {α : Type} [Inhabited α] (enc : α → Value) (lt : α → α → Bool) (f : FuncId) (cb : Array Value) (g cap : Nat) (rest : List Value) (n : Nat) (w0 : World) (a m b mid s0 r0 : Nat) (d : Array α) : Prop :=
 ∀ (s : Nat) (wr : World), s0 ≤ s → s ≤ r0 → SB enc w0 g 3 rest d wr → (s0 < s → lt d[mid + m - s]! d[s - 1]! = false) → (s < r0 → lt d[mid + m - s - 1]! d[s]! = true) →
     ∃ e, e = mid + m - s ∧ m ≤ e ∧ e ≤ b ∧ mid ≤ e ∧ s + (e - m) = mid ∧
     (s < m → m < e → Calls Try.prog 49 #[.slice (some ⟨g, 0, none⟩) n cap, .int .i64 s, .int .i64 m, .int .i64 e, .func (.func f) #[] cb] wr fun e1 w' => e1 = .returned (.tuple #[]) ∧ ∃ R : Array α, R.size = n ∧ SB enc w0 g 3 rest R w' ∧ (∀ k, R[k]! = rotF d s m e k) ∧ PermIn a b d R) ∧
     (∀ (R : Array α) (W : World), R.size = n → SB enc w0 g 3 rest R W → (∀ k, R[k]! = rotF d s m e k) → PermIn a b d R → a < s → s < mid → Calls Try.prog 43 #[.slice (some ⟨g, 0, none⟩) n cap, .int .i64 a, .int .i64 s, .int .i64 mid, .func (.func f) #[] cb] W fun e1 w' => MergeP enc lt g a mid rest R w0 e1 w') ∧
     (∀ (R R1 : Array α) (W : World), R.size = n → R1.size = n → SB enc w0 g 3 rest R1 W → (∀ k, R[k]! = rotF d s m e k) → PermIn a b d R → PermIn a mid R R1 → mid < e → e < b → Calls Try.prog 43 #[.slice (some ⟨g, 0, none⟩) n cap, .int .i64 mid, .int .i64 e, .int .i64 b, .func (.func f) #[] cb] W fun e1 w' => MergeP enc lt g mid b rest R1 w0 e1 w') ∧
     (∀ R : Array α, (∀ k, R[k]! = rotF d s m e k) → (s = a ∨ s = mid) → SortedIn lt a mid R) ∧
     (∀ R R1 : Array α, (∀ k, R[k]! = rotF d s m e k) → PermIn a mid R R1 → (e = mid ∨ e = b) → SortedIn lt mid b R1) ∧
     (∀ R R1 R2 : Array α, R.size = n → (∀ k, R[k]! = rotF d s m e k) → PermIn a b d R → PermIn a mid R R1 → SortedIn lt a mid R1 → PermIn mid b R1 R2 → SortedIn lt mid b R2 → PermIn a b d R2 ∧ SortedIn lt a b R2)
theorem sym_fin {α : Type} [Inhabited α] (enc : α → Value) (hE : ∀ x, ∃ n, enc x = .int .i64 n) (cf : α → α → Int) (lt : α → α → Bool) (hL : SWO lt) (D : α → Prop) (f : FuncId) (cb : Array Value) (g cap : Nat) (rest : List Value) (n : Nat) (w0 : World) (N : Nat)
   (hsz : n < 4611686018427387904) (ih : MergeSaid enc cf lt D f cb g cap rest n w0 N)
   (a m b mid s0 r0 : Nat) (d : Array α) (hN : b - a ≤ N + 1) (hdn : d.size = n) (hD : ∀ i, i < d.size → D d[i]!) (hb : b ≤ n) (h1 : SortedIn lt a m d) (h2 : SortedIn lt m b d) (hA : Agree (ltOf cf) lt d a m b)
   (hma : a < mid) (hmB : mid < b) (hs0a : a ≤ s0) (hr0m : r0 ≤ m) (hr0d : r0 ≤ mid) (hs0b : mid + m - s0 ≤ b) (hend0 : s0 = a ∨ mid + m - s0 = b) (hend1 : r0 = m ∨ r0 = mid) : FinSaid enc lt f cb g cap rest n w0 a m b mid s0 r0 d := by
 have HD := Lib.hid hD
 have H1 := Lib.hid h1
 have H2 := Lib.hid h2
 have HA := Lib.hid hA
 have HI := Lib.hid ih
 clear hD h1 h2 hA ih
 intro s wr h3 h4 hSB h5 h6
 refine ⟨mid + m - s, rfl, by omega, by omega, by omega, by omega, ?_, ?_, ?_, ?_, ?_, ?_⟩
 · intro h7 h8
   have h9 := rot_any enc hE (.func (.func f) #[] cb) g cap s m (mid + m - s) rest d w0 wr hSB h7 h8 (by omega) (by omega)
   rw [hdn] at h9
   exact h9.mono fun e1 w' ⟨q1, R, q2, q3, q4, q5⟩ => ⟨q1, R, q2, q3, q4, permIn_mono d R s (mid + m - s) a b (by omega) (by omega) (by omega) q5⟩
 · intro R W hR1 hR2 hR3 hR4 h7 h8
   refine HI.out a s mid R W (by omega) hR1 hR2 (all_perm D (by omega) hR4 HD.out) h7 h8 (by omega) (sp1 hR3 (by omega) (by omega) H1.out) ?_ ?_
   · have := sp2 hR3 (by omega) (by omega) (by omega) H2.out
     rwa [show s + (mid + m - s - m) = mid from by omega] at this
   · have := agree_lo hR3 (a := a) (by omega) (by omega) (by omega : mid + m - s ≤ b) HA.out
     rwa [show s + (mid + m - s - m) = mid from by omega] at this
 · intro R R1 W hR1 hR2 hR3 hR4 hR5 hR6 h7 h8
   have hc : ∀ k, mid ≤ k → R1[k]! = R[k]! := fun k hk => hR6.2.1 k (by omega)
   refine HI.out mid (mid + m - s) b R1 W (by omega) hR2 hR3 (all_perm D (by omega) hR6 (all_perm D (by omega) hR5 HD.out)) h7 h8 hb ?_ ?_ ?_
   · have := sp3 hR4 (a := a) (by omega) (by omega) (by omega) H1.out
     rw [show s + (mid + m - s - m) = mid from by omega] at this
     exact sorted_congr this (fun k h9 _ => hc k h9)
   · exact sorted_congr (sp4 hR4 (by omega) (by omega) (by omega) H2.out) (fun k h9 _ => hc k (by omega))
   · have := agree_hi hR4 (b := b) (by omega : a ≤ s) (by omega) (by omega) HA.out
     rw [show s + (mid + m - s - m) = mid from by omega] at this
     exact agree_congr this (fun k h9 _ => hc k h9)
 · intro R hR h7
   have := skip_lo hR (by omega : a ≤ s) (by omega) (by omega) (by omega : mid + m - s ≤ b) H1.out H2.out (by omega)
   rwa [show s + (mid + m - s - m) = mid from by omega] at this
 · intro R R1 hR hP h7
   have := skip_hi hR (by omega : a ≤ s) (by omega) (by omega) (by omega : mid + m - s ≤ b) H1.out H2.out (by omega)
   rw [show s + (mid + m - s - m) = mid from by omega] at this
   exact sorted_congr this (fun k h9 _ => hP.2.1 k (by omega))
 · intro R R1 R2 hR1 hR hP p1 s1 p2 s2
   have hm2 : s + (mid + m - s - m) = mid := by omega
   refine ⟨permIn_trans _ _ _ _ _ (permIn_trans _ _ _ _ _ hP (permIn_mono R R1 a mid a b (by omega) (by omega) (by omega) p1)) (permIn_mono R1 R2 mid b a b (by omega) (by omega) (by have := p1.1; omega) p2), ?_⟩
   refine merge_done hL d R R1 R2 a m b s (mid + m - s) (by omega) (by omega) (by omega) (by omega) (by omega) (by omega) H1.out H2.out hR (fun q1 q2 => h5 (by omega)) (fun q1 q2 => ?_) (by rw [hm2]; exact p1) (by rw [hm2]; exact s1) (by rw [hm2]; exact p2) (by rw [hm2]; exact s2)
   have h8 := h6 (by omega)
   cases h9 : lt d[s]! d[mid + m - s - 1]! with
   | false => rfl
   | true => have := hL.trans _ _ _ h8 h9; rw [hL.irrefl] at this; cases this
theorem sym_hi {α : Type} [Inhabited α] (enc : α → Value) (hE : ∀ x, ∃ n, enc x = .int .i64 n) (cf : α → α → Int) (lt : α → α → Bool) (D : α → Prop) (f : FuncId) (cb : Array Value) (g cap : Nat) (rest : List Value) (n : Nat) (w0 : World)
   (hC : CmpQ Try.prog f cb enc cf D w0 g) (hsz : n < 4611686018427387904) (a m b mid s0 r0 : Nat) (d : Array α) (w : World) (hdn : d.size = n) (hS : SB enc w0 g 3 rest d w) (hD : ∀ i, i < d.size → D d[i]!) (ham : a + 1 < m) (hmb : m + 1 < b) (hb : b ≤ n) (hA : Agree (ltOf cf) lt d a m b)
   (hmid : mid = (a + b) / 2) (hcase : mid < m) (hs0 : s0 = mid + m - b) (hr0 : r0 = mid) (hfin : FinSaid enc lt f cb g cap rest n w0 a m b mid s0 r0 d) :
   Calls Try.prog 43 #[.slice (some ⟨g, 0, none⟩) n cap, .int .i64 a, .int .i64 m, .int .i64 b, .func (.func f) #[] cb] w fun e w' => MergeP enc lt g a b rest d w0 e w' := by
 have hne1 : ((m : Int) - (a : Int) == 1) = false := by rw [beq_eq_false_iff_ne]; omega
 have hne2 : ((b : Int) - (m : Int) == 1) = false := by rw [beq_eq_false_iff_ne]; omega
 have hmid1 : ((a : Int) + (b : Int)) / 2 = (mid : Int) := by omega
 have hma : a < mid := by omega
 have hmB : mid < b := by omega
 have hsr : s0 ≤ r0 := by omega
 have hs0a : a ≤ s0 := by omega
 have hr0m : r0 ≤ m := by omega
 have hr0d : r0 ≤ mid := by omega
 have hs0b : mid + m - s0 ≤ b := by omega
 have hend0 : s0 = a ∨ mid + m - s0 = b := by omega
 have hend1 : r0 = m ∨ r0 = mid := by omega
 have eg := hC.enters
 have HC := Lib.hid hC
 have HS := Lib.hid hS
 have HD := Lib.hid hD
 have HA := Lib.hid hA
 have HS0 := Lib.hid hs0
 have HR0 := Lib.hid hr0
 have FIN := Lib.hid hfin
 clear hC hS hD hA hs0 hr0 hmid hfin
 go_enter Try.func43, Try.ntmps43
 go_wp2
 go_loopw [20, 21] (fun vs vr wr => ∃ (s r : Nat), vs = .int .i64 s ∧ vr = .int .i64 r ∧ s0 ≤ s ∧ s ≤ r ∧ r ≤ r0 ∧ Hid (SB enc w0 g 3 rest d wr) ∧ Hid (s0 < s → lt d[mid + m - s]! d[s - 1]! = false) ∧ Hid (r < r0 → lt d[mid + m - r - 1]! d[r]! = true)) (fun vs vr _ => (intOf vr).toNat - (intOf vs).toNat)
 case atStart => exact ⟨s0, r0, by have := HS0.out; go_num, by have := HR0.out; go_num, Nat.le_refl _, hsr, Nat.le_refl _, HS, Lib.hid (fun h => absurd h (Nat.lt_irrefl _)), Lib.hid (fun h => absurd h (Nat.lt_irrefl _))⟩
 case round =>
   obtain ⟨s, r, rfl, rfl, h3, h4, h5, HSk, HLo, HHi⟩ := hrel
   clear HS
   by_cases hlt : s < r
   · obtain ⟨c, hc⟩ : ∃ c, c = (s + r) / 2 := ⟨_, rfl⟩
     have hc1 := HSk.out.cell (mid + m - 1 - c) (by omega)
     have hc2 := HSk.out.cell c (by omega)
     have hcall := fun q => HC.out.calls (wr.drewN q) (HSk.out.drewN q).grown d[mid + m - 1 - c]! d[c]! (HD.out (mid + m - 1 - c) (by omega)) (HD.out c (by omega))
     have hag := HA.out c (mid + m - 1 - c) (by omega) (by omega) (by omega) (by omega)
     obtain ⟨X, hX⟩ : ∃ X, X = d[mid + m - 1 - c]! := ⟨_, rfl⟩
     obtain ⟨Y, hY⟩ : ∃ Y, Y = d[c]! := ⟨_, rfl⟩
     rw [← hX] at hc1 hcall hag
     rw [← hY] at hc2 hcall hag
     have HX := Lib.hid hX
     have HY := Lib.hid hY
     obtain ⟨x, hx⟩ := hE X
     obtain ⟨y, hy⟩ := hE Y
     rw [hx] at hc1 hcall
     rw [hy] at hc2 hcall
     have HCALL := Lib.hid hcall
     have HAG := Lib.hid hag
     clear hcall hx hy hX hY hag
     have hh1 : ((s : Int) + (r : Int)) / 2 = (c : Int) := by omega
     have hidx : ((mid : Int) + (m : Int) - 1 - (c : Int)).toNat = mid + m - 1 - c := by omega
     have hi0 : 0 ≤ (mid : Int) + (m : Int) - 1 - (c : Int) := by omega
     have hi1 : (mid : Int) + (m : Int) - 1 - (c : Int) < (n : Int) := by omega
     have hcn : (c : Int) < (n : Int) := by omega
     have hhi : s ≤ c := by omega
     have hhj : c < r := by omega
     clear hc
     by_cases hcf : cf X Y < 0
     · have hl : lt X Y = true := by rw [← HAG.out]; simpa [ltOf] using hcf
       have HL := Lib.hid hl
       have hcf2 : cf X Y < 0 := hcf
       have hcfB : decide (cf X Y < 0) = true := by rw [decide_eq_true_iff]; exact hcf
       clear hl hcf
       go_wp2_with fail
       go_quiet ((refine Calls.quiet_of (HCALL.out _)))
       go_wp2
       go_roundw
       case rel => exact ⟨s, c, rfl, rfl, h3, hhi, by omega, Lib.hid (HSk.out.drewN _), HLo, Lib.hid (fun _ => by rw [show mid + m - c - 1 = mid + m - 1 - c from by omega, ← HX.out, ← HY.out]; exact HL.out)⟩
       case measure => simp [intOf]; omega
     · have hl : lt X Y = false := by rw [← HAG.out]; simpa [ltOf] using hcf
       have HL := Lib.hid hl
       have hcf2 : 0 ≤ cf X Y := by omega
       have hcfB : decide (cf X Y < 0) = false := by rw [decide_eq_false_iff_not]; omega
       clear hl hcf
       go_wp2_with fail
       go_quiet ((refine Calls.quiet_of (HCALL.out _)))
       go_wp2
       go_roundw
       case rel => exact ⟨c + 1, r, by go_num, rfl, by omega, by omega, h5, Lib.hid (HSk.out.drewN _), Lib.hid (fun _ => by rw [show mid + m - (c + 1) = mid + m - 1 - c from by omega, Nat.add_sub_cancel, ← HX.out, ← HY.out]; exact HL.out), HHi⟩
       case measure => simp [intOf]; omega
   · obtain rfl : s = r := by omega
     obtain ⟨e, he, hme, heb, hde, hsum, FROT, FS1, FS2, FK1, FK2, FD⟩ := FIN.out s wr h3 h5 HSk.out HLo.out HHi.out
     have he1 : (mid : Int) + (m : Int) - (s : Int) = (e : Int) := by omega
     replace FROT := Lib.hid FROT
     replace FS1 := Lib.hid FS1
     replace FS2 := Lib.hid FS2
     replace FK1 := Lib.hid FK1
     replace FK2 := Lib.hid FK2
     replace FD := Lib.hid FD
     clear he
     by_cases hA1 : s < m
     · by_cases hB1 : m < e
       · by_cases hC1 : a < s
         · by_cases hE1 : e < b
           · have hq0 : (s : Int) < (mid : Int) := by omega
             have hq1 : (mid : Int) < (e : Int) := by omega
             have HROT := Lib.hid (FROT.out (by omega) (by omega))
             go_wp2_with fail
             (with_reducible refine HROT.out.mono ?_)
             rintro e1 w2 ⟨rfl, R, hRs, hRB, hRk, hRp⟩
             have HB2 := Lib.hid hRB
             have HRK := Lib.hid hRk
             have HRP := Lib.hid hRp
             clear hRB hRk hRp
             have hs1 := FS1.out R w2 hRs HB2.out HRK.out HRP.out (by omega) (by omega)
             have HS1C := Lib.hid hs1
             clear hs1
             go_wp2_with fail
             (with_reducible refine HS1C.out.mono ?_)
             rintro e2 w3 ⟨rfl, R1, hR1s', hR1B, hR1p, hR1o⟩
             have hR1s : R1.size = n := hR1s'.trans hRs
             have HB3 := Lib.hid hR1B
             have HP1 := Lib.hid hR1p
             have HO1 := Lib.hid hR1o
             clear hR1s' hR1B hR1p hR1o
             have hs2 := FS2.out R R1 w3 hRs hR1s HB3.out HRK.out HRP.out HP1.out (by omega) (by omega)
             have HS2C := Lib.hid hs2
             clear hs2
             go_wp2_with fail
             (with_reducible refine HS2C.out.mono ?_)
             rintro e3 w4 ⟨rfl, R2, hR2s', hR2B, hR2p, hR2o⟩
             have hR2s : R2.size = n := hR2s'.trans hR1s
             have HB4 := Lib.hid hR2B
             have HP2 := Lib.hid hR2p
             have HO2 := Lib.hid hR2o
             clear hR2s' hR2B hR2p hR2o
             go_wp2
             all_goals go_end0
             all_goals exact ⟨rfl, R2, hR2s.trans hdn.symm, HB4.out, FD.out R R1 R2 hRs HRK.out HRP.out HP1.out HO1.out HP2.out HO2.out⟩
           · have hq0 : (s : Int) < (mid : Int) := by omega
             have hq1 : (mid : Int) < (e : Int) := by omega
             have hq2 : (b : Int) ≤ (e : Int) := by omega
             have HROT := Lib.hid (FROT.out (by omega) (by omega))
             go_wp2_with fail
             (with_reducible refine HROT.out.mono ?_)
             rintro e1 w2 ⟨rfl, R, hRs, hRB, hRk, hRp⟩
             have HB2 := Lib.hid hRB
             have HRK := Lib.hid hRk
             have HRP := Lib.hid hRp
             clear hRB hRk hRp
             have hs1 := FS1.out R w2 hRs HB2.out HRK.out HRP.out (by omega) (by omega)
             have HS1C := Lib.hid hs1
             clear hs1
             go_wp2_with fail
             (with_reducible refine HS1C.out.mono ?_)
             rintro e2 w3 ⟨rfl, R1, hR1s', hR1B, hR1p, hR1o⟩
             have hR1s : R1.size = n := hR1s'.trans hRs
             have HB3 := Lib.hid hR1B
             have HP1 := Lib.hid hR1p
             have HO1 := Lib.hid hR1o
             clear hR1s' hR1B hR1p hR1o
             have hR2s : R1.size = n := hR1s
             have HB4 := Lib.hid HB3.out
             have HP2 := Lib.hid (permIn_refl R1 mid b)
             have HO2 := Lib.hid (FK2.out R R1 HRK.out HP1.out (by omega))
             go_wp2
             all_goals go_end0
             all_goals exact ⟨rfl, R1, hR2s.trans hdn.symm, HB4.out, FD.out R R1 R1 hRs HRK.out HRP.out HP1.out HO1.out HP2.out HO2.out⟩
         · by_cases hE1 : e < b
           · have hq0 : (s : Int) < (mid : Int) := by omega
             have hq1 : (mid : Int) < (e : Int) := by omega
             have hq2 : (s : Int) ≤ (a : Int) := by omega
             have HROT := Lib.hid (FROT.out (by omega) (by omega))
             go_wp2_with fail
             (with_reducible refine HROT.out.mono ?_)
             rintro e1 w2 ⟨rfl, R, hRs, hRB, hRk, hRp⟩
             have HB2 := Lib.hid hRB
             have HRK := Lib.hid hRk
             have HRP := Lib.hid hRp
             clear hRB hRk hRp
             have hR1s : R.size = n := hRs
             have HB3 := Lib.hid HB2.out
             have HP1 := Lib.hid (permIn_refl R a mid)
             have HO1 := Lib.hid (FK1.out R HRK.out (by omega))
             have hs2 := FS2.out R R w2 hRs hR1s HB3.out HRK.out HRP.out HP1.out (by omega) (by omega)
             have HS2C := Lib.hid hs2
             clear hs2
             go_wp2_with fail
             (with_reducible refine HS2C.out.mono ?_)
             rintro e3 w4 ⟨rfl, R2, hR2s', hR2B, hR2p, hR2o⟩
             have hR2s : R2.size = n := hR2s'.trans hR1s
             have HB4 := Lib.hid hR2B
             have HP2 := Lib.hid hR2p
             have HO2 := Lib.hid hR2o
             clear hR2s' hR2B hR2p hR2o
             go_wp2
             all_goals go_end0
             all_goals exact ⟨rfl, R2, hR2s.trans hdn.symm, HB4.out, FD.out R R R2 hRs HRK.out HRP.out HP1.out HO1.out HP2.out HO2.out⟩
           · have hq0 : (s : Int) < (mid : Int) := by omega
             have hq1 : (mid : Int) < (e : Int) := by omega
             have hq2 : (s : Int) ≤ (a : Int) := by omega
             have hq3 : (b : Int) ≤ (e : Int) := by omega
             have HROT := Lib.hid (FROT.out (by omega) (by omega))
             go_wp2_with fail
             (with_reducible refine HROT.out.mono ?_)
             rintro e1 w2 ⟨rfl, R, hRs, hRB, hRk, hRp⟩
             have HB2 := Lib.hid hRB
             have HRK := Lib.hid hRk
             have HRP := Lib.hid hRp
             clear hRB hRk hRp
             have hR1s : R.size = n := hRs
             have HB3 := Lib.hid HB2.out
             have HP1 := Lib.hid (permIn_refl R a mid)
             have HO1 := Lib.hid (FK1.out R HRK.out (by omega))
             have hR2s : R.size = n := hR1s
             have HB4 := Lib.hid HB3.out
             have HP2 := Lib.hid (permIn_refl R mid b)
             have HO2 := Lib.hid (FK2.out R R HRK.out HP1.out (by omega))
             go_wp2
             all_goals go_end0
             all_goals exact ⟨rfl, R, hR2s.trans hdn.symm, HB4.out, FD.out R R R hRs HRK.out HRP.out HP1.out HO1.out HP2.out HO2.out⟩
       · have hq0 : (e : Int) ≤ (m : Int) := by omega
         have hq1 : (mid : Int) ≤ (s : Int) := by omega
         have hq2 : (a : Int) < (s : Int) := by omega
         have hq3 : (e : Int) < (b : Int) := by omega
         have hq4 : (mid : Int) < (e : Int) := by omega
         have hRs : d.size = n := hdn
         have HB2 := Lib.hid HSk.out
         have HRK := Lib.hid (rot_none d s m e (by omega) (by omega) (by omega))
         have HRP := Lib.hid (permIn_refl d a b)
         have hR1s : d.size = n := hRs
         have HB3 := Lib.hid HB2.out
         have HP1 := Lib.hid (permIn_refl d a mid)
         have HO1 := Lib.hid (FK1.out d HRK.out (by omega))
         have hs2 := FS2.out d d wr hRs hR1s HB3.out HRK.out HRP.out HP1.out (by omega) (by omega)
         have HS2C := Lib.hid hs2
         clear hs2
         go_wp2_with fail
         all_goals
           (with_reducible refine HS2C.out.mono ?_)
           rintro e3 w4 ⟨rfl, R2, hR2s', hR2B, hR2p, hR2o⟩
           have hR2s : R2.size = n := hR2s'.trans hR1s
           have HB4 := Lib.hid hR2B
           have HP2 := Lib.hid hR2p
           have HO2 := Lib.hid hR2o
           clear hR2s' hR2B hR2p hR2o
           go_wp2
           all_goals go_end0
           all_goals exact ⟨rfl, R2, hR2s.trans hdn.symm, HB4.out, FD.out d d R2 hRs HRK.out HRP.out HP1.out HO1.out HP2.out HO2.out⟩
     · by_cases hB1 : m < e
       · have hq0 : (m : Int) ≤ (s : Int) := by omega
         have hq1 : (s : Int) < (mid : Int) := by omega
         have hq2 : (a : Int) < (s : Int) := by omega
         have hq3 : (e : Int) < (b : Int) := by omega
         have hq4 : (e : Int) ≤ (mid : Int) := by omega
         have hRs : d.size = n := hdn
         have HB2 := Lib.hid HSk.out
         have HRK := Lib.hid (rot_none d s m e (by omega) (by omega) (by omega))
         have HRP := Lib.hid (permIn_refl d a b)
         have hs1 := FS1.out d wr hRs HB2.out HRK.out HRP.out (by omega) (by omega)
         have HS1C := Lib.hid hs1
         clear hs1
         go_wp2_with fail
         all_goals
           (with_reducible refine HS1C.out.mono ?_)
           rintro e2 w3 ⟨rfl, R1, hR1s', hR1B, hR1p, hR1o⟩
           have hR1s : R1.size = n := hR1s'.trans hRs
           have HB3 := Lib.hid hR1B
           have HP1 := Lib.hid hR1p
           have HO1 := Lib.hid hR1o
           clear hR1s' hR1B hR1p hR1o
           have hR2s : R1.size = n := hR1s
           have HB4 := Lib.hid HB3.out
           have HP2 := Lib.hid (permIn_refl R1 mid b)
           have HO2 := Lib.hid (FK2.out d R1 HRK.out HP1.out (by omega))
           go_wp2
           all_goals go_end0
           all_goals exact ⟨rfl, R1, hR2s.trans hdn.symm, HB4.out, FD.out d R1 R1 hRs HRK.out HRP.out HP1.out HO1.out HP2.out HO2.out⟩
       · have hq0 : (m : Int) ≤ (s : Int) := by omega
         have hq1 : (e : Int) ≤ (m : Int) := by omega
         have hq2 : (mid : Int) ≤ (s : Int) := by omega
         have hq3 : (a : Int) < (s : Int) := by omega
         have hq4 : (e : Int) < (b : Int) := by omega
         have hq5 : (e : Int) ≤ (mid : Int) := by omega
         have hRs : d.size = n := hdn
         have HB2 := Lib.hid HSk.out
         have HRK := Lib.hid (rot_none d s m e (by omega) (by omega) (by omega))
         have HRP := Lib.hid (permIn_refl d a b)
         have hR1s : d.size = n := hRs
         have HB3 := Lib.hid HB2.out
         have HP1 := Lib.hid (permIn_refl d a mid)
         have HO1 := Lib.hid (FK1.out d HRK.out (by omega))
         have hR2s : d.size = n := hR1s
         have HB4 := Lib.hid HB3.out
         have HP2 := Lib.hid (permIn_refl d mid b)
         have HO2 := Lib.hid (FK2.out d d HRK.out HP1.out (by omega))
         go_wp2
         all_goals
           all_goals go_end0
           all_goals exact ⟨rfl, d, hR2s.trans hdn.symm, HB4.out, FD.out d d d hRs HRK.out HRP.out HP1.out HO1.out HP2.out HO2.out⟩
end Go.Proofs.Ythmpigmmihiecaa
