/-
  Walks of layer 2: a set in memory, a field of whatever block; a span is put.
-/
import Derived.Test.YtimeacigbacadaaSpJ
import Derived.Test.YtimeacigbacadaaSetD
import Derived.Deep.AppendLies
import Derived.Deep.RegionLaw
import Derived.Deep.RegionHeld3
namespace Go.Proofs.Ytimeacigbacadaa
open Go.RowKit Go.Sort

/-- What a call leaves that turns a set. -/
def SetNextG (w : World) (S : Nat → Prop) (p o : Nat) (cs : Array Value) (ty : TypeId) (T : List (Int × Int)) (w' : World) : Prop := ∃ S' v, IsSetG w' S' p o (cs.setIfInBounds o v) ty T v ∧ Keeps S w w' ∧ ∀ b, S' b → S b ∨ w.heap.size ≤ b

/-- What a put makes of a set. -/
def PutS (T : List (Int × Int)) (x : Int × Int) (T' : List (Int × Int)) : Prop := ∃ S : List (Int × Int), S.Perm (full (T ++ [x])) ∧ S.Pairwise (fun x y => x.1 ≤ y.1) ∧ T' = joinS 0 S

def PutEndG (w : World) (S : Nat → Prop) (p o : Nat) (cs : Array Value) (ty : TypeId) (T : List (Int × Int)) (x : Int × Int) (e : Ending) (w' : World) : Prop := e = .returned (.tuple #[]) ∧ ∃ T', PutS T x T' ∧ SetNextG w S p o cs ty T' w'

theorem put_endG {w W w5 w6 : World} {S : Nat → Prop} {p o g cap c6 : Nat} {cs : Array Value} {ty : TypeId} {T R : List (Int × Int)} {x : Int × Int} {v : Value} {a6 : Option Addr} {C D : Obj} {xs : List Value} {n : Nat} (hw : IsSetG w S p o cs ty T v) (hWW : w.alloc C = W)
    (h5 : w5.ownsRow 0 23 2 (.slice (some ⟨g, 0, none⟩) n cap) n xs ∧ (W.alloc D).drew.grownBy w5 v.ownBlock ∧ (v.ownBlock = some g ∨ g = (W.alloc D).drew.heap.size) ∧ g < w5.heap.size)
    (h6 : R.Perm (full (T ++ [x])) ∧ R.Pairwise (fun x y => x.1 ≤ y.1) ∧ w6.ownsRow w5.heap.size 23 2 (.slice a6 (joinS (max 0 0) R).length c6) (joinS (max 0 0) R).length (spV (joinS (max 0 0) R)) ∧ Below w5.heap.size w5 w6 ∧ w6.heap[p]? = some (.cells cs ty (0, 0))) :
    PutEndG w S p o cs ty T x (.returned (.tuple #[])) (w6.setCell ⟨p, o, none⟩ (.slice a6 (joinS 0 R).length c6)) := by
  obtain ⟨_, hg5, _, _⟩ := h5
  obtain ⟨hP, hS, hO6, hB6, hblk6⟩ := h6
  rw [Int.max_self] at hO6
  subst hWW
  have hp := hw.lt p hw.own
  have hsz : w.heap.size ≤ w5.heap.size := by
    have h1 := hg5.size
    have h2 : ((w.alloc C).alloc D).drew.heap.size = w.heap.size + 1 + 1 := by show ((w.alloc C).alloc D).heap.size = _; rw [sizeA, sizeA]
    omega
  have hk5 : Keeps S w w5 := (((Keeps.refl S w).alloc C).alloc D).drewN 1 |>.grown hg5 (fun k hk => .inl (hw.at_ k hk).1)
  have hk6 : Keeps S w w6 := hk5.trans (Keeps.of_below (S := fun b => w5.heap.size ≤ b) hB6 (fun b h => h)) (fun b h => .inr (by omega))
  have hs6 := hB6.size
  have hoc : o < cs.size := (Array.getElem?_eq_some_iff.1 hw.cel).1
  refine ⟨rfl, joinS 0 R, ⟨R, hP, hS, rfl⟩, fun b => S b ∨ (w5.heap.size ≤ b ∧ b < w6.heap.size), .slice a6 (joinS 0 R).length c6, ⟨?_, ?_, ?_, fun b hb => ?_, .inl hw.own, fun b hb => ?_⟩, hk6.setCell (.inl hw.own) _, fun b hb => ?_⟩
  · exact heap_setCell_same w6 p o _ _ _ hblk6
  · simp [hoc]
  · exact ownsRow_base (ownsRow_setCell_other hO6 (a := ⟨p, o, none⟩) (fun e => by have := (hO6.lt p e).1; omega) _) (Nat.zero_le _)
  · have := hO6.lt b hb
    exact ⟨.inr this, by omega⟩
  · have hs7 : (w6.setCell ⟨p, o, none⟩ (.slice a6 (joinS 0 R).length c6)).heap.size = w6.heap.size := by simp [World.setCell]
    rw [hs7]
    rcases hb with hb | hb
    · have := hw.lt b hb; omega
    · exact hb.2
  · rcases hb with hb | hb
    · exact .inl hb
    · exact .inr (by omega)

set_option maxRecDepth 8000 in
set_option maxHeartbeats 2000000 in
theorem put_anyG (p o : Nat) (S : Nat → Prop) (cs : Array Value) (ty : TypeId) (v : Value) (T : List (Int × Int)) (x y : Int) (w : World) (hw : IsSetG w S p o cs ty T v) (hf : Fit (T ++ [(x, y)])) (hn : T.length ≤ 100000) :
    Calls Try.prog 8 #[.pointer (some ⟨p, o, none⟩), .agg #[.int .i64 x, .int .i64 y]] w (PutEndG w S p o cs ty T (x, y)) := by
  obtain ⟨a, c, rfl, hr, _⟩ := Row.of_owns hw.row
  have hp := hw.lt p hw.own
  have hbW : (w.alloc (.cells #[.int .i64 x, .int .i64 y] 23)).heap[p]? = some (.cells cs ty (0, 0)) := heapA_old _ hw.blk
  have hOW := hw.row.alloc (.cells #[.int .i64 x, .int .i64 y] 23)
  have hbx : (w.alloc (.cells #[.int .i64 x, .int .i64 y] 23)).heap[w.heap.size]? = some (.cells #[.int .i64 x, .int .i64 y] 23 (0, 0)) := heapA_new _ rfl
  have hszW := sizeA w (.cells #[.int .i64 x, .int .i64 y] 23)
  have HW := Lib.hid hw
  have HF := Lib.hid hf
  clear hw hr hf
  go_enter Try.func8, Try.ntmps8
  go_wp2
  generalize hWW : w.alloc (.cells #[.int .i64 x, .int .i64 y] 23) = W at *
  have HWW := Lib.hid hWW
  have k0 : W.cell? ⟨p, o, none⟩ = some (.slice a T.length c) := by rw [cell_of_row W p o _ _ _ hbW]; exact HW.out.cel
  have kf : W.frozen? ⟨p, o, none⟩ = false := frozen_of_row W p o _ _ hbW
  have b0 : W.cell? ⟨w.heap.size, 0, none⟩ = some (.int .i64 x) := by rw [cell_of_row W _ 0 _ _ _ hbx]; rfl
  have b1 : W.cell? ⟨w.heap.size, 1, none⟩ = some (.int .i64 y) := by rw [cell_of_row W _ 1 _ _ _ hbx]; rfl
  have HOW := Lib.hid hOW
  have HBW := Lib.hid hbW
  have HSZ := Lib.hid hszW
  have hpW : p < W.heap.size := by have := HSZ.out; omega
  have hpn : ¬ p = W.heap.size := by omega
  obtain ⟨i0, hi, hz0, hz1, hz2⟩ := info_parts ETS.info
  clear hWW hOW hbW hbx hszW
  go_region_law (first
    | (refine step_append_lies _ rfl (.tmp 10) (.tmp 12) 26 rfl 0 23 i0 (.agg #[.int .i64 0, .int .i64 0]) 2 16 Try.underlying26 hi hz0 hz1 hz2 rfl (by decide) (.slice a T.length c) T.length (spV T) (by simp [Act.eval]) (by exact HOW.out.alloc _) ⟨W.heap.size, 0, none⟩ 1 1 [.int .i64 x, .int .i64 y] (by simp [Act.eval]) rfl (by exact World.news_of_block (heapA_new (w := W) _ rfl)) (spV_one_cell [(x, y)]) (by omega) (by unfold maxLen; omega) (by omega) (Nat.zero_le _) _ rfl ?_; intro g cap w5 hO5 hg5 hg6 hg7)
    | (go_simp; go_at_call 30; refine (join_any (some ⟨g, 0, none⟩) (T.length + 1) cap (T ++ [(x, y)]) 0 _ (by show Row _ _ _ _ _ (spV (T ++ [(x, y)])); rw [spV_append]; exact (Row.of_own hO5).2) HF.out (by omega) (by omega)).mono ?_; rintro e w6 ⟨R, v6, hP6, hS6, rfl, hO6, hB6⟩; obtain ⟨a6, c6, rfl, _, _⟩ := Row.of_owns hO6; have blk6 := block_keep hB6 ((hg5.block p (by show p < (W.alloc _).heap.size; rw [sizeA]; have := HSZ.out; omega) (fun e => (HW.out.at_ p e.symm).2 rfl)).trans ((Below.heap_alloc W _ p (by have := HSZ.out; omega)).trans HBW.out)); have k6 := (cell_of_row w6 p o _ _ _ blk6).trans HW.out.cel; have f6 := frozen_of_row w6 p o _ _ blk6; have H5 := Lib.hid (And.intro hO5 (And.intro hg5 (And.intro hg6 hg7))); have H6 := Lib.hid (And.intro hP6 (And.intro hS6 (And.intro hO6 (And.intro hB6 blk6)))); clear hO5 hg5 hg6 hg7 hP6 hS6 hO6 hB6 blk6))
  all_goals go_end0
  all_goals exact put_endG HW.out HWW.out H5.out H6.out

/-- A set that is all of its block. -/
def SetQ (w : World) (S : Nat → Prop) (p : Nat) (T : List (Int × Int)) : Prop := ∃ v, IsSetG w S p 0 #[v] 63 T v
/-- What a call leaves that turns a set. -/
def SetNext (w : World) (S : Nat → Prop) (p : Nat) (T : List (Int × Int)) (w' : World) : Prop := ∃ S', SetQ w' S' p T ∧ Keeps S w w' ∧ ∀ b, S' b → S b ∨ w.heap.size ≤ b
theorem SetQ.keeps {w w' : World} {S U : Nat → Prop} {p : Nat} {T : List (Int × Int)} (h : SetQ w S p T) (hk : Keeps U w w') (hU : ∀ b, S b → ¬ U b) : SetQ w' S p T := by
  obtain ⟨v, hw⟩ := h
  exact ⟨v, hw.keeps hk hU⟩
theorem SetQ.mono {w w' : World} {S : Nat → Prop} {p : Nat} {T : List (Int × Int)} (h : SetQ w S p T) (hb : Below w.heap.size w w') : SetQ w' S p T := by
  obtain ⟨v, hw⟩ := h
  exact ⟨v, hw.mono hb⟩
theorem SetQ.lt {w : World} {S : Nat → Prop} {p : Nat} {T : List (Int × Int)} (h : SetQ w S p T) : ∀ b, S b → b < w.heap.size := by
  obtain ⟨v, hw⟩ := h
  exact hw.lt
def PutEnd (w : World) (S : Nat → Prop) (p : Nat) (T : List (Int × Int)) (x : Int × Int) (e : Ending) (w' : World) : Prop := e = .returned (.tuple #[]) ∧ ∃ T', PutS T x T' ∧ SetNext w S p T' w'
theorem put_any (p : Nat) (S : Nat → Prop) (T : List (Int × Int)) (x y : Int) (w : World) (h : SetQ w S p T) (hf : Fit (T ++ [(x, y)])) (hn : T.length ≤ 100000) :
    Calls Try.prog 8 #[.pointer (some ⟨p, 0, none⟩), .agg #[.int .i64 x, .int .i64 y]] w (PutEnd w S p T (x, y)) := by
  obtain ⟨v, hw⟩ := h
  exact (put_anyG p 0 S _ _ v T x y w hw hf hn).mono fun e w' ⟨he, T', hp, S', v', hs, hk, hS⟩ => ⟨he, T', hp, S', ⟨v', hs⟩, hk, hS⟩
theorem SetQ.toV {w : World} {S : Nat → Prop} {p : Nat} {T : List (Int × Int)} (h : SetQ w S p T) : SetV w (some ⟨p, 0, none⟩) T := by
  obtain ⟨v, hw⟩ := h
  exact hw.toV
end Go.Proofs.Ytimeacigbacadaa
