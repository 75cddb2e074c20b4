/-
  A map of blocks of bytes, that the call made: what it holds, by its keys.
-/
import Derived.Test.YtimeacigbacadaaBase
import Derived.Test.YtimeacigbacadaaProg
import Derived.Maps.OwnOps
import Derived.Maps.Views
namespace Go.Proofs.Ytimeacigbacadaa
open Go.RowKit Go.Maps Go.ChangeMaps

def blkV (g : Nat) : Value := .slice (some ⟨g, 0, none⟩) 4096 4096
/-- How an element reads: nil; a block's number. -/
def RB (v : Value) : Option (DataW Nat × List MemPlace) := match v with
  | .slice none n c => if n = 0 ∧ c = 0 then some (.nil, []) else none
  | .slice (some ad) n c => if ad = ⟨ad.block, 0, none⟩ ∧ n = 4096 ∧ c = 4096 then some (.lit (.int .i64 ad.block), []) else none
  | _ => none
theorem RB_nil : RB (.slice none 0 0) = some (.nil, []) := rfl
theorem RB_blk (g : Nat) : RB (blkV g) = some (.lit (.int .i64 g), []) := by unfold RB blkV; simp
theorem RB_inv {v : Value} {g : Nat} {ps : List MemPlace} (h : RB v = some (.lit (.int .i64 g), ps)) : v = blkV g := by
  unfold RB at h
  split at h
  · split at h <;> simp at h
  · rename_i ad n c
    split at h
    · rename_i hc
      simp at h
      obtain ⟨h1, rfl, rfl⟩ := hc
      obtain ⟨b, o, s⟩ := ad
      simp at h1 h
      obtain ⟨rfl, rfl⟩ := h1
      obtain ⟨h2, -⟩ := h
      have : b = g := by omega
      subst this; rfl
    · cases h
  · cases h

theorem lawK : Keyed Try.prog 3 := int_keyed Try.underlying3
theorem zeroB (w : World) : (zeroValue 39).run Try.prog w = .ok (.slice none 0 0) w := by kernel_rfl
def i64K (k : Int) : Prop := -9223372036854775808 ≤ k ∧ k ≤ 9223372036854775807
theorem i64K_wf {k : Int} (h : i64K k) : (Lit.int .i64 k).wf = true := by
  obtain ⟨h1, h2⟩ := h
  simp [Lit.wf, IntKind.min, IntKind.max, IntKind.signed, IntKind.bits]; omega
theorem keyI {k : Int} (h : i64K k) : keyOf Try.prog 3 (.int .i64 k) = some (.int .i64 k) := keyOf_int_mk Try.underlying3 (i64K_wf h)

/-- Block mb is a map of at most n entries; at k it holds the block f k. -/
def MapB (w : World) (mb n : Nat) (f : Int → Option Nat) : Prop :=
  ∃ D : DataW Nat, w.ownsMap Try.prog 3 RB mb n D ∧ IsMap D ∧ ∀ k, (f k = none → has D (.int .i64 k) = false) ∧ ∀ g, f k = some g → D.atKey (.int .i64 k) .nil = .lit (.int .i64 g)
theorem MapB.made (w : World) : MapB (w.alloc (.map #[] 0)) w.heap.size 0 (fun _ => none) :=
  ⟨.map [], World.ownsMap_made w _ _ _, isMap_empty, fun k => ⟨fun _ => rfl, fun g h => by cases h⟩⟩
theorem MapB.lt {w : World} {mb n : Nat} {f : Int → Option Nat} (h : MapB w mb n f) : mb < w.heap.size := by obtain ⟨D, h, -⟩ := h; exact h.lt
theorem MapB.mono {w : World} {mb n m : Nat} {f : Int → Option Nat} (h : MapB w mb n f) (hm : n ≤ m) : MapB w mb m f := by obtain ⟨D, h, r⟩ := h; exact ⟨D, h.mono hm, r⟩
theorem MapB.keep {w w' : World} {mb n : Nat} {f : Int → Option Nat} (h : MapB w mb n f) (hb : w'.heap[mb]? = w.heap[mb]?) : MapB w' mb n f := by
  obtain ⟨D, ⟨es, clock, h1, h2⟩, r⟩ := h
  exact ⟨D, ⟨es, clock, hb.trans h1, h2⟩, r⟩
/-- A look-up that finds. -/
theorem MapB.look {w : World} {mb n : Nat} {f : Int → Option Nat} (h : MapB w mb n f) {k : Int} (hk : i64K k) {g : Nat} (hf : f k = some g) (c : Bool) :
    (Instr.lookup 66 (.map (some mb)) (.int .i64 k) c).run Try.prog w = .ok (if c then .tuple #[blkV g, .bool true] else blkV g) w := by
  obtain ⟨D, ⟨es, clock, hb, F, hs, rfl⟩, hm, hD⟩ := h
  have hat := (hD k).2 g hf
  rcases Maps.fit_look c lawK Try.underlying66 (zeroB w) hb F (keyI hk) with ⟨-, -, h0⟩ | ⟨e0, y, -, -, hrun, hRv, h1, -⟩
  · rw [h0] at hat; cases hat
  · have hy := (h1 .nil).symm.trans hat
    have : e0.val = blkV g := RB_inv (ps := y.2) (by rw [hRv, ← hy])
    rw [hrun, this]
/-- A look-up that does not. -/
theorem MapB.look_no {w : World} {mb n : Nat} {f : Int → Option Nat} (h : MapB w mb n f) {k : Int} (hk : i64K k) (hf : f k = none) (c : Bool) :
    (Instr.lookup 66 (.map (some mb)) (.int .i64 k) c).run Try.prog w = .ok (if c then .tuple #[.slice none 0 0, .bool false] else .slice none 0 0) w := by
  obtain ⟨D, ⟨es, clock, hb, F, hs, rfl⟩, hm, hD⟩ := h
  have hat := (hD k).1 hf
  rcases Maps.fit_look c lawK Try.underlying66 (zeroB w) hb F (keyI hk) with ⟨hrun, -, -⟩ | ⟨e0, y, -, -, -, -, h1, -⟩
  · rw [hrun]
  · rw [has_true_of_atKey h1] at hat; cases hat
/-- A store. -/
theorem MapB.store {w : World} {mb n : Nat} {f : Int → Option Nat} (h : MapB w mb n f) {k : Int} (hk : i64K k) (g : Nat) (hn : n < maxLen) :
    ∃ w', (Instr.mapUpdate 66 (.map (some mb)) (.int .i64 k) (blkV g)).run Try.prog w = .ok () w' ∧ MapB w' mb (n + 1) (fun j => if j = k then some g else f j) ∧ w.grownBy w' (some mb) ∧ w'.heap.size = w.heap.size := by
  obtain ⟨D, ho, hm, hD⟩ := h
  obtain ⟨es, clock, hb, F, hs, hDe⟩ := ho
  obtain ⟨es', clock', hrun, F', hput, _⟩ := Maps.fit_store (R' := RB) lawK Try.underlying66 hb F (Nat.lt_of_le_of_lt hs hn) (fun _ _ _ _ hz => hz) (keyI hk) (RB_blk g)
  obtain ⟨w1, hrun1, ho1, hg1⟩ := World.ownsMap.update (R := RB) ⟨es, clock, hb, F, hs, hDe⟩ lawK Try.underlying66 hn (keyI hk) (RB_blk g)
  have hw1 : w1 = setBlock w mb (.map es' clock') := by
    rw [hrun] at hrun1
    simp only [Result.ok.injEq] at hrun1
    exact hrun1.2.symm
  refine ⟨w1, hrun1, ⟨D.put (.int .i64 k) (.lit (.int .i64 g)), ho1, hm.put _ _, fun j => ?_⟩, hg1, by rw [hw1]; simp [setBlock]⟩
  by_cases hj : j = k
  · subst hj
    refine ⟨fun h => by simp at h, fun g' hg' => ?_⟩
    simp at hg'
    subst hg'
    exact atKey_put_same hm (by simp [WideAt.IsKeyLit]) _ _
  · have hne : (Lit.int .i64 j) ≠ .int .i64 k := fun e => hj (by cases e; rfl)
    simp only [if_neg hj]
    exact ⟨fun h => by rw [has_put_other hne]; exact (hD j).1 h, fun g' hg' => by rw [atKey_put_other hne]; exact (hD j).2 g' hg'⟩

/-- At the operations, for a walk. -/
theorem wpList_look {w : World} {ops : Array Oper} {rest : List Oper} {o : Oper} {a : Act} {Q : Exit → Act → World → Prop} (hg : o.guard = none) (m x : Operand) (c : Bool) (hop : o.op = Op.lookup 66 m x c)
    {mb n : Nat} {f : Int → Option Nat} (h : MapB w mb n f) (hm : a.eval m = .map (some mb)) {k : Int} (hx : a.eval x = .int .i64 k) (hk : i64K k) {g : Nat} (hf : f k = some g)
    (hK : wpList Try.prog ops Q rest (a.put o.dst (if c then .tuple #[blkV g, .bool true] else blkV g)) w) : wpList Try.prog ops Q (o :: rest) a w := by
  refine wpList_plain hg fun K' hK' => ?_
  have hrun := h.look hk hf c
  unfold Oper.wp
  simp [execOp, hop, hm, hx, hrun, Result.andThen]
  exact hK' _ _ hK
theorem wpList_look_no {w : World} {ops : Array Oper} {rest : List Oper} {o : Oper} {a : Act} {Q : Exit → Act → World → Prop} (hg : o.guard = none) (m x : Operand) (c : Bool) (hop : o.op = Op.lookup 66 m x c)
    {mb n : Nat} {f : Int → Option Nat} (h : MapB w mb n f) (hm : a.eval m = .map (some mb)) {k : Int} (hx : a.eval x = .int .i64 k) (hk : i64K k) (hf : f k = none)
    (hK : wpList Try.prog ops Q rest (a.put o.dst (if c then .tuple #[.slice none 0 0, .bool false] else .slice none 0 0)) w) : wpList Try.prog ops Q (o :: rest) a w := by
  refine wpList_plain hg fun K' hK' => ?_
  have hrun := h.look_no hk hf c
  unfold Oper.wp
  simp [execOp, hop, hm, hx, hrun, Result.andThen]
  exact hK' _ _ hK
theorem wpList_store {w : World} {ops : Array Oper} {rest : List Oper} {o : Oper} {a : Act} {Q : Exit → Act → World → Prop} (hg : o.guard = none) (m x v : Operand) (hop : o.op = Op.mapUpdate 66 m x v)
    {mb n : Nat} {f : Int → Option Nat} (h : MapB w mb n f) (hm : a.eval m = .map (some mb)) {k : Int} (hx : a.eval x = .int .i64 k) (hk : i64K k) {g : Nat} (hv : a.eval v = blkV g) (hn : n < maxLen)
    (hK : ∀ w', MapB w' mb (n + 1) (fun j => if j = k then some g else f j) → w.grownBy w' (some mb) → w'.heap.size = w.heap.size → wpList Try.prog ops Q rest (a.put o.dst undef) w') : wpList Try.prog ops Q (o :: rest) a w := by
  refine wpList_plain hg fun K' hK' => ?_
  obtain ⟨w', hrun, h1, h2, h3⟩ := h.store hk g hn
  unfold Oper.wp
  simp [execOp, hop, hm, hx, hv, hrun, Result.andThen]
  exact hK' _ _ (hK w' h1 h2 h3)
/-- The same, with 'ok' and without. -/
theorem wpList_lookT {w : World} {ops : Array Oper} {rest : List Oper} {o : Oper} {a : Act} {Q : Exit → Act → World → Prop} (hg : o.guard = none) (m x : Operand) (hop : o.op = Op.lookup 66 m x true)
    {mb n : Nat} {f : Int → Option Nat} (h : MapB w mb n f) (hm : a.eval m = .map (some mb)) {k : Int} (hx : a.eval x = .int .i64 k) (hk : i64K k) {g : Nat} (hf : f k = some g)
    (hK : wpList Try.prog ops Q rest (a.put o.dst (.tuple #[.slice (some ⟨g, 0, none⟩) 4096 4096, .bool true])) w) : wpList Try.prog ops Q (o :: rest) a w := wpList_look hg m x true hop h hm hx hk hf hK
theorem wpList_lookT_no {w : World} {ops : Array Oper} {rest : List Oper} {o : Oper} {a : Act} {Q : Exit → Act → World → Prop} (hg : o.guard = none) (m x : Operand) (hop : o.op = Op.lookup 66 m x true)
    {mb n : Nat} {f : Int → Option Nat} (h : MapB w mb n f) (hm : a.eval m = .map (some mb)) {k : Int} (hx : a.eval x = .int .i64 k) (hk : i64K k) (hf : f k = none)
    (hK : wpList Try.prog ops Q rest (a.put o.dst (.tuple #[.slice none 0 0, .bool false])) w) : wpList Try.prog ops Q (o :: rest) a w := wpList_look_no hg m x true hop h hm hx hk hf hK
theorem wpList_lookF {w : World} {ops : Array Oper} {rest : List Oper} {o : Oper} {a : Act} {Q : Exit → Act → World → Prop} (hg : o.guard = none) (m x : Operand) (hop : o.op = Op.lookup 66 m x false)
    {mb n : Nat} {f : Int → Option Nat} (h : MapB w mb n f) (hm : a.eval m = .map (some mb)) {k : Int} (hx : a.eval x = .int .i64 k) (hk : i64K k) {g : Nat} (hf : f k = some g)
    (hK : wpList Try.prog ops Q rest (a.put o.dst (.slice (some ⟨g, 0, none⟩) 4096 4096)) w) : wpList Try.prog ops Q (o :: rest) a w := wpList_look hg m x false hop h hm hx hk hf hK
end Go.Proofs.Ytimeacigbacadaa
