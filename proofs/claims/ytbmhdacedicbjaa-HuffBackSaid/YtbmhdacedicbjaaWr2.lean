/-
  Walks of layer 1: one bit is written.
-/
import Derived.Test.YtbmhdacedicbjaaWr
namespace Go.Proofs.Ytbmhdacedicbjaa
open Go.RowKit

theorem half_zero {w W : World} {S : Nat → Prop} {wb : Nat} {high : Bool} {B : List Bool} {bs : List UInt8} {n : Nat} {v : Value} (hw : WrQ w S wb high B) (h : Half w S wb high B bs n v W) (hn : n = B.length) :
    WrNext w S wb high (B ++ [false]) (W.setCell ⟨wb, 0, none⟩ (.int .i64 ((n : Int) + 1))) := by
  have hS : S wb := by obtain ⟨_, _, h1, _⟩ := hw; exact h1.own
  refine half_end hw h ?_ (own_other h.row (a := ⟨wb, 0, none⟩) (fun e => by have := (h.row.lt wb e).1; omega) _) (h.keeps.setCell (.inl hS) _) hn (wrote_zero h.room)
  rw [blk_set h.blk]
  exact congrArg (fun x => some (Obj.cells (List.toArray x) _ _)) (fl_congr fun i _ => wrV_set _ _ _ _)

theorem row_bytes_set (bs : List UInt8) (i : Nat) (x : UInt8) : (bs.map fun b => Value.int .u8 b.toNat).set i (.int .u8 x.toNat) = (bs.set i x).map fun b => Value.int .u8 b.toNat := by
  rw [List.map_set]

theorem own_setL {w : World} {base e g n cap : Nat} {xs : List Value} (h : w.ownsRow base e 1 (.slice (some ⟨g, 0, none⟩) n cap) n xs) (i : Nat) (v : Value) :
    (w.setCell ⟨g, i, none⟩ v).ownsRow base e 1 (.slice (some ⟨g, 0, none⟩) n cap) n (xs.set i v) := by
  have hx : xs = fl n (fun i => xs.getD i undef) := by
    have hl : xs.length = n := by simpa using h.1
    have := map_fl undef xs id
    rw [List.map_id] at this
    rw [← hl]; exact this
  rw [hx] at h ⊢
  rw [fl_set]
  exact own_set h i v

theorem half_one {w W : World} {S : Nat → Prop} {wb g k cap : Nat} {high : Bool} {B : List Bool} {bs : List UInt8} {n : Nat} (q : Nat) (hw : WrQ w S wb high B) (h : Half w S wb high B bs n (.slice (some ⟨g, 0, none⟩) k cap) W) (hn : n = B.length) (x : Int)
    (hx : x = ((bs.getD (n / 8) 0).toNat ||| 2 ^ maskE n high : Nat)) :
    WrNext w S wb high (B ++ [true]) (((W.drewN q).setCell ⟨g, n / 8, none⟩ (.int .u8 x)).setCell ⟨wb, 0, none⟩ (.int .i64 ((n : Int) + 1))) := by
  have hS : S wb := by obtain ⟨_, _, h1, _⟩ := hw; exact h1.own
  have hg := h.row.lt g rfl
  have hk : k = bs.length := by
    obtain ⟨_, h2⟩ := h.row
    rcases h2 with ⟨h3, _⟩ | ⟨_, _, _, h3, _⟩
    · cases h3
    · simp at h3; exact h3.2.1
  subst hk
  have hrow : (W.drewN q).ownsRow (wb + 1) 5 1 (.slice (some ⟨g, 0, none⟩) bs.length cap) bs.length (bs.map fun b => .int .u8 b.toNat) := ownsRow_keep h.row (below_drewN (Below.refl _ _) q)
  have hset := own_setL hrow (n / 8) (.int .u8 x)
  rw [show x = (((UInt8.ofNat ((bs.getD (n / 8) 0).toNat ||| 2 ^ maskE n high)).toNat : Nat) : Int) from by rw [or_byte _ _ (maskE_lt _ _)]; exact hx, row_bytes_set] at hset
  rw [show x = (((UInt8.ofNat ((bs.getD (n / 8) 0).toNat ||| 2 ^ maskE n high)).toNat : Nat) : Int) from by rw [or_byte _ _ (maskE_lt _ _)]; exact hx]
  have hset2 := own_other hset (a := ⟨wb, 0, none⟩) (fun e => by simp [Value.ownBlock] at e; omega) (.int .i64 ((n : Int) + 1))
  refine half_end (bs2 := bs.set (n / 8) (UInt8.ofNat ((bs.getD (n / 8) 0).toNat ||| 2 ^ maskE n high))) hw h ?_ (by simpa using hset2) (((h.keeps.drewN q).setCell (h.at_ g rfl) _).setCell (.inl hS) _) hn (by rw [hn]; exact wrote_one h.room)
  have h1 : ((W.drewN q).setCell ⟨g, n / 8, none⟩ (.int .u8 ((UInt8.ofNat ((bs.getD (n / 8) 0).toNat ||| 2 ^ maskE n high)).toNat : Nat))).heap[wb]? = some (.cells (fl 4 (wrV n high (.slice (some ⟨g, 0, none⟩) bs.length cap))).toArray 98 (0, 0)) := by
    rw [heap_setCell_other _ _ _ _ (by show wb ≠ g; omega)]; exact h.blk
  rw [blk_set h1]
  exact congrArg (fun x => some (Obj.cells (List.toArray x) _ _)) (fl_congr fun i _ => wrV_set _ _ _ _)

/-- The byte that is written on. -/
theorem half_row {w W : World} {S : Nat → Prop} {wb : Nat} {high : Bool} {B : List Bool} {bs : List UInt8} {n : Nat} {v : Value} (h : Half w S wb high B bs n v W) (hn : n = B.length) :
    ∃ g cap, v = .slice (some ⟨g, 0, none⟩) bs.length cap ∧ wb < g ∧ n / 8 < bs.length ∧ W.cell? ⟨g, n / 8, none⟩ = some (.int .u8 (bs.getD (n / 8) 0).toNat) ∧ W.frozen? ⟨g, n / 8, none⟩ = false := by
  have hlen : n / 8 < bs.length := by have := h.room.1; omega
  obtain ⟨h1, h2⟩ := h.row
  rcases h2 with ⟨_, h4⟩ | ⟨g, cap, cur, hv, hg, hh, hle, hm, hc, ht⟩
  · omega
  · refine ⟨g, cap, hv, by omega, hlen, ?_, frozen_of_row W g _ _ _ hh⟩
    have hcell := h.row.cells (g := g) (by rw [hv]; rfl) (n / 8) (.int .u8 (bs.getD (n / 8) 0).toNat) (by simp [hlen, List.getD])
    rwa [Addr.add_lit, Nat.zero_add] at hcell

theorem blk_after {w w1 : World} {S : Nat → Prop} {wb : Nat} {high : Bool} {bs : List UInt8} {n : Nat} {v : Value} (hw : IsWr w S wb high bs n v) (o : Obj) (hg : (w.alloc o).grownBy w1 v.ownBlock) :
    w1.heap[wb]? = some (.cells (fl 4 (wrV n high v)).toArray 98 (0, 0)) :=
  (hg.block wb (by rw [sizeA]; have := (hw.lt wb hw.own).2; omega) (fun e => by have := (hw.row.lt wb e.symm).1; omega)).trans ((Below.heap_alloc w o wb (hw.lt wb hw.own).2).trans hw.blk)
theorem wrV_cells {w : World} {wb n : Nat} {high : Bool} {v : Value} (h : w.heap[wb]? = some (.cells (fl 4 (wrV n high v)).toArray 98 (0, 0))) :
    w.cell? ⟨wb, 0, none⟩ = some (.int .i64 n) ∧ w.cell? ⟨wb, 1, none⟩ = some (.bool high) ∧ w.cell? ⟨wb, 3, none⟩ = some v ∧ ∀ i, w.frozen? ⟨wb, i, none⟩ = false :=
  ⟨blk_cell h 0 (by omega), blk_cell h 1 (by omega), blk_cell h 3 (by omega), fun i => blk_free h i⟩

set_option maxHeartbeats 1000000 in
theorem bit_zero (wb : Nat) (high : Bool) (B : List Bool) (S : Nat → Prop) (w : World) (h : WrQ w S wb high B) (hlt : B.length < 1099511627776) :
    Calls Try.prog 78 #[.pointer (some ⟨wb, 0, none⟩), .bool false] w fun e w' => e = .returned (.tuple #[]) ∧ WrNext w S wb high (B ++ [false]) w' := by
  have HQ := Lib.hid h
  obtain ⟨bs, v, hw, hq⟩ := h
  obtain ⟨h0, h1, h3, hf⟩ := wrV_cells hw.blk
  have hf0 := hf 0
  have hf3 := hf 3
  have hl := hq.1
  have hbs : bs.length ≤ 1099511627776 := by omega
  have hsz := (hw.lt wb hw.own).2
  have HW := Lib.hid hw
  have HWQ := Lib.hid hq
  obtain ⟨n, hn⟩ : ∃ n, n = B.length := ⟨_, rfl⟩
  rw [← hn] at h0
  have HN := Lib.hid hn
  have hnb : n < 1099511627776 := by omega
  by_cases h8 : n % 8 = 0
  · have hand : bits .and .i64 (n : Int) 7 = 0 := by rw [i64_and7]; omega
    clear hw hq hf hl h8 hn
    go_enter Try.func78, Try.ntmps78
    go_wp2_with (at_builtin; refine append_at ETB rfl (.tmp 15) (.tmp 16) rfl (wb + 1) v bs.length _ rfl (HW.out.row.alloc _) _ 1 _ _ rfl (row_new1 _ _ _) (one_mem rfl) (by unfold maxLen; omega) (by omega) (by rw [sizeA]; omega) ?_; intro v' w5 hO5 hg5 hN5; obtain ⟨a5, c5, rfl, _, _⟩ := Row.of_owns hO5; have HALF := Lib.hid (half_pad HW.out HWQ.out (by have := HN.out; have := i64_and7 (n : Int); omega) _ hO5 hg5 hN5); obtain ⟨k0, k1, k3, kf⟩ := wrV_cells (blk_after HW.out _ hg5); rw [← HN.out] at k0; have kf0 := kf 0; have kf3 := kf 3; clear hO5 hg5 hN5 kf)
    go_end0
    have hz := half_zero HQ.out HALF.out rfl
    rw [← HN.out] at hz
    exact ⟨rfl, hz⟩
  · have hand : bits .and .i64 (n : Int) 7 = ((n % 8 : Nat) : Int) := by rw [i64_and7]; omega
    have hne : (((n % 8 : Nat) : Int) == 0) = false := by rw [beq_eq_false_iff_ne]; omega
    have HALF := Lib.hid (half_in hw hq (by omega))
    clear hw hq hf hl h8 hn
    go_enter Try.func78, Try.ntmps78
    go_wp2
    go_end0
    have hz := half_zero HQ.out HALF.out rfl
    rw [← HN.out] at hz
    exact ⟨rfl, hz⟩
end Go.Proofs.Ytbmhdacedicbjaa
