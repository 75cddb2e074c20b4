/-
  Our texts DeJ to Ds1, in one.
-/
import Derived.Test.YtkikhmdpcanidaaGreatPkC5
import Derived.StillTailTactics
import Derived.Deep.DeepCutAuto
import Derived.BigQuiet
import Derived.Deep.QuietTactic
import Derived.Deep.RegionHeld3
import Derived.Deep.Cut
import Derived.Deep.CutRange
import Derived.Deep.CutBlock
set_option maxRecDepth 8000
set_option maxHeartbeats 8000000
namespace Go.Proofs.YtkikhmdpcanidaaGreat
def sumB : List UInt8 → Nat
 | [] => 0
 | x :: l => x.toNat + sumB l
theorem adS_fst : ∀ (l : List UInt8) (a b : Nat), (adS l a b).1 = a + sumB l
 | [], a, b => rfl
 | x :: l, a, b => by rw [adS, adS_fst l, sumB]; omega
theorem sumB_app : ∀ a b : List UInt8, sumB (a ++ b) = sumB a + sumB b
 | [], b => by simp [sumB]
 | x :: a, b => by rw [List.cons_append, sumB, sumB, sumB_app a b]; omega
def adV (l : List UInt8) : Nat := 65536 * (adM l 1 0).2 + (adM l 1 0).1
def by4 (x : Nat) : List UInt8 := [UInt8.ofNat (x / 16777216), UInt8.ofNat (x / 65536 % 256), UInt8.ofNat (x / 256 % 256), UInt8.ofNat (x % 256)]
theorem adV_lt (l : List UInt8) : adV l < 4294967296 := by
 have := zd9 l 1 0 (by decide) (by decide)
 unfold adV; omega
theorem by4_inj {x y : Nat} (hx : x < 4294967296) (hy : y < 4294967296) (h : by4 x = by4 y) : x = y := by
 have e : ∀ a b, a < 256 → b < 256 → UInt8.ofNat a = UInt8.ofNat b → a = b := fun a b ha hb h => by
   have := congrArg UInt8.toNat h
   simp only [UInt8.toNat_ofNat'] at this
   rw [Nat.mod_eq_of_lt ha, Nat.mod_eq_of_lt hb] at this
   exact this
 unfold by4 at h
 simp only [List.cons.injEq, and_true] at h
 have h1 := e _ _ (by omega) (by omega) h.1
 have h2 := e _ _ (by omega) (by omega) h.2.1
 have h3 := e _ _ (by omega) (by omega) h.2.2.1
 have h4 := e _ _ (by omega) (by omega) h.2.2.2
 omega
theorem adV_sees {P Q : List UInt8} {x y : UInt8} (h : adV (P ++ x :: Q) = adV (P ++ y :: Q)) : x = y := by
 have e : ∀ z : UInt8, (adM (P ++ z :: Q) 1 0).1 = (1 + (sumB P + (z.toNat + sumB Q))) % 65521 := fun z => by
   rw [adM_is _ _ _ (by decide) (by decide)]
   dsimp only
   rw [adS_fst, sumB_app, sumB]
 have hx := e x
 have hy := e y
 have l1 := zd9 (P ++ x :: Q) 1 0 (by decide) (by decide)
 have l2 := zd9 (P ++ y :: Q) 1 0 (by decide) (by decide)
 unfold adV at h
 have b1 := x.toNat_lt
 have b2 := y.toNat_lt
 apply UInt8.toNat_inj.1
 omega
def chkV (b : List UInt8) : Int :=
 if b.length < 2 then 10 else if (b.getD 0 0).toNat % 16 ≠ 8 ∨ 7 < (b.getD 0 0).toNat / 16 ∨ (b.getD 1 0).toNat / 32 % 2 ≠ 0 ∨ (256 * (b.getD 0 0).toNat + (b.getD 1 0).toNat) % 31 ≠ 0 then 11 else 0
noncomputable def unpV (b : List UInt8) (most : Nat) : List UInt8 × Nat × Int :=
 if chkV b ≠ 0 then ([], 0, chkV b) else if (endI (b.drop 2) most).e ≠ 0 then ([], 0, (endI (b.drop 2) most).e) else
 if b.length < resN (endI (b.drop 2) most) + 6 then ([], 0, 10) else
 if (b.drop (resN (endI (b.drop 2) most) + 2)).take 4 ≠ by4 (adV (resO (endI (b.drop 2) most))) then ([], 0, 12) else
 (resO (endI (b.drop 2) most), resN (endI (b.drop 2) most) + 6, 0)
theorem zaX.more {p : List UInt8} {Z : List Bool} (h : zaX p false Z) (q : List UInt8) : Sees (p ++ q) 0 Z :=
 ⟨by have := h.1; rw [List.length_append]; omega, fun i hi => by
   have h1 := h.1
   have h2 := h.2 i (by omega)
   unfold bitF
   rw [Nat.zero_add, ← h2]
   unfold zaF
   rw [zb7 _ _ _ _ (by omega)]⟩
theorem zbb.far {bs : List UInt8} {most : Nat} {l : List (Nat × List UInt8)} {Z : List Bool} (h : zbb 0 l Z) (hw : Sees bs 0 Z) (hm : (l.flatMap Prod.snd).length ≤ most) :
   endI bs most = ⟨Z.length, 0, l.flatMap Prod.snd⟩ := by
 have h1 := h.ok (most := most) [] hw (by simpa using hm)
 rw [Nat.zero_add, List.nil_append] at h1
 have h2 := h.len
 have h3 := hw.1
 unfold endI
 rw [h1.infl (zbI bs) (by unfold zbI; omega)]; rfl
theorem chk_head : ∀ q : List UInt8, chkV (0x78 :: 0x9c :: q) = 0 := fun q => by
 unfold chkV
 rw [if_neg (by simp)]
 show (if (0x78 : UInt8).toNat % 16 ≠ 8 ∨ 7 < (0x78 : UInt8).toNat / 16 ∨ (0x9c : UInt8).toNat / 32 % 2 ≠ 0 ∨ (256 * (0x78 : UInt8).toNat + (0x9c : UInt8).toNat) % 31 ≠ 0 then (11 : Int) else 0) = 0
 rw [if_neg (by decide)]
theorem zbZ (x : Nat) : (by4 x).length = 4 := rfl
theorem unp_sum {p b s behind : List UInt8} {most : Nat} {Z : List Bool} {l : List (Nat × List UInt8)} (h : zbb 0 l Z) (hl : l.flatMap Prod.snd = b) (hw : zaX p false Z) (hm : b.length ≤ most) (hs : s.length = 4) :
   unpV (0x78 :: 0x9c :: (p ++ (s ++ behind))) most = if s ≠ by4 (adV b) then ([], 0, 12) else (b, p.length + 6, 0) := by
 have he : endI (p ++ (s ++ behind)) most = ⟨Z.length, 0, b⟩ := by
   rw [h.far (hw.more _) (by rw [hl]; exact hm), hl]
 unfold unpV
 rw [chk_head, if_neg (by decide)]
 rw [show (0x78 :: 0x9c :: (p ++ (s ++ behind))).drop 2 = p ++ (s ++ behind) from rfl, he]
 have hn : resN ⟨Z.length, 0, b⟩ = p.length := hw.1.symm
 have ho : resO ⟨Z.length, 0, b⟩ = b := rfl
 rw [hn, ho]
 dsimp only
 have hd : ((0x78 :: 0x9c :: (p ++ (s ++ behind))).drop (p.length + 2)).take 4 = s := by
   show ((p ++ (s ++ behind)).drop p.length).take 4 = s
   rw [List.drop_left, List.take_left' hs]
 rw [if_neg (by simp), if_neg (by simp only [List.length_cons, List.length_append]; omega), hd]
theorem unp_back {p b behind : List UInt8} {most : Nat} {Z : List Bool} {l : List (Nat × List UInt8)} (h : zbb 0 l Z) (hl : l.flatMap Prod.snd = b) (hw : zaX p false Z) (hm : b.length ≤ most) :
   unpV (0x78 :: 0x9c :: (p ++ (by4 (adV b) ++ behind))) most = (b, p.length + 6, 0) := by
 rw [unp_sum h hl hw hm (zbZ _), if_neg (by simp)]
theorem unp_cut {p b : List UInt8} {most : Nat} {Z : List Bool} {l : List (Nat × List UInt8)} (h : zbb 0 l Z) (hl : l.flatMap Prod.snd = b) (hw : zaX p false Z) (hm : b.length ≤ most) {m : Nat} (hlt : m < p.length + 6) :
   unpV ((0x78 :: 0x9c :: (p ++ by4 (adV b))).take m) most = ([], 0, 10) := by
 match m with
 | 0 => rfl
 | 1 => rfl
 | m + 2 =>
   have e1 : (0x78 :: 0x9c :: (p ++ by4 (adV b))).take (m + 2) = 0x78 :: 0x9c :: (p ++ by4 (adV b)).take m := rfl
   rw [e1]
   unfold unpV
   rw [chk_head, if_neg (by decide)]
   rw [show (0x78 :: 0x9c :: (p ++ by4 (adV b)).take m).drop 2 = (p ++ by4 (adV b)).take m from rfl]
   have hwhole : endI (p ++ by4 (adV b)) most = ⟨Z.length, 0, b⟩ := by
     rw [h.far (hw.more _) (by rw [hl]; exact hm), hl]
   obtain ⟨q1, q2⟩ := zea ((p ++ by4 (adV b)).take m) most
   obtain ⟨r1, -⟩ := zea (p ++ by4 (adV b)) most
   rw [hwhole] at r1
   have hlen : ((p ++ by4 (adV b)).take m).length = m := by
     rw [List.length_take, List.length_append, zbZ]; omega
   rw [hlen] at q2
   rcases cut_infl (pre_take (p ++ by4 (adV b)) m) _ q1 r1 with e | e
   · rw [e] at q2 ⊢
     have hn : resN ⟨Z.length, 0, b⟩ = p.length := hw.1.symm
     have hp := hw.1
     dsimp only at q2 ⊢
     rw [hn, if_neg (by simp), if_pos (by simp only [List.length_cons, hlen]; omega)]
   · rw [if_pos (by rw [e]; decide), e]
theorem unp_sees {b : List UInt8} (hb : b.length ≤ 65535) {k : Nat} (hk : k < b.length + 4) (x : UInt8) :
   (unpV ((0x78 :: 0x9c :: (zaO b ++ by4 (adV b))).set (7 + k) x) b.length).2.2 = 0 ↔ (0x78 :: 0x9c :: (zaO b ++ by4 (adV b))).getD (7 + k) 0 = x := by
 have hw : ∀ c : List UInt8, c.length = b.length → zbb 0 [(0, c)] (stoB 0 true c) ∧ zaX (zaO c) false (stoB 0 true c) := fun c hc =>
   ⟨.one (.inl ⟨rfl, by omega, rfl⟩), by rw [stoB_is (by omega)]; exact zcL _⟩
 have hset : ∀ (l : List UInt8), (0x78 :: 0x9c :: l).set (7 + k) x = 0x78 :: 0x9c :: l.set (5 + k) x := fun l => by
   rw [show 7 + k = 5 + k + 1 + 1 from by omega]; rfl
 have hget : ∀ (l : List UInt8), (0x78 :: 0x9c :: l).getD (7 + k) 0 = l.getD (5 + k) 0 := fun l => by
   rw [show 7 + k = 5 + k + 1 + 1 from by omega]; rfl
 rw [hset, hget]
 by_cases hd : k < b.length
 · have e1 : (zaO b ++ by4 (adV b)).set (5 + k) x = zaO (b.set k x) ++ by4 (adV b) := by
     rw [List.set_append_left _ _ (by rw [zbo]; omega)]
     congr 1
     unfold zaO
     rw [List.length_set, List.set_append_right _ _ (by simp)]
     congr 2
     simp
   have e2 : (zaO b ++ by4 (adV b)).getD (5 + k) 0 = b.getD k 0 := by
     rw [zb7 _ _ _ _ (by rw [zbo]; omega)]
     unfold zaO
     rw [zbF _ _ _ _ (by simp)]
     congr 1
     simp
   rw [e1, e2]
   obtain ⟨h1, h2⟩ := hw (b.set k x) (by rw [List.length_set])
   have := unp_sum (b := b.set k x) (behind := []) (s := by4 (adV b)) h1 (by simp) h2 (Nat.le_refl _) (zbZ _)
   rw [List.append_nil, List.length_set] at this
   rw [this]
   have eb : b = b.take k ++ b.getD k 0 :: b.drop (k + 1) := by
     conv => lhs; rw [← List.take_append_drop k b, List.drop_eq_getElem_cons hd]
     simp [List.getD, hd]
   have es : b.set k x = b.take k ++ x :: b.drop (k + 1) := by
     rw [List.set_eq_take_append_cons_drop, if_pos hd]
   constructor
   · intro h
     split at h
     · cases h
     · rename_i hn
       have e := by4_inj (adV_lt _) (adV_lt _) (Classical.not_not.1 hn)
       rw [es] at e
       rw [eb] at e
       have := adV_sees (P := b.take k) (Q := b.drop (k + 1)) (x := b.getD k 0) (y := x) (by
         rw [← eb]; rw [← eb] at e; exact e)
       exact this
   · intro h
     have : b.set k x = b := by rw [es, ← h]; exact eb.symm
     rw [this, if_neg (by simp)]
 · have hk2 : 5 + k = (zaO b).length + (k - b.length) := by rw [zbo]; omega
   have e1 : (zaO b ++ by4 (adV b)).set (5 + k) x = zaO b ++ (by4 (adV b)).set (k - b.length) x := by
     rw [List.set_append_right _ _ (by rw [zbo]; omega), zbo]
     congr 2
     omega
   have e2 : (zaO b ++ by4 (adV b)).getD (5 + k) 0 = (by4 (adV b)).getD (k - b.length) 0 := by
     rw [zbF _ _ _ _ (by rw [zbo]; omega), zbo]
     congr 1
     omega
   rw [e1, e2]
   obtain ⟨h1, h2⟩ := hw b rfl
   have := unp_sum (b := b) (behind := []) (s := (by4 (adV b)).set (k - b.length) x) h1 (by simp) h2 (Nat.le_refl _) (by rw [List.length_set]; exact zbZ _)
   rw [List.append_nil] at this
   rw [this]
   have hj : k - b.length < (by4 (adV b)).length := by rw [zbZ]; omega
   constructor
   · intro h
     split at h
     · cases h
     · rename_i hn
       have e := Classical.not_not.1 hn
       have := congrArg (fun l : List UInt8 => l.getD (k - b.length) 0) e
       simp only [List.getD_eq_getElem?_getD, List.getElem?_set_self hj, Option.getD_some] at this
       rw [List.getD_eq_getElem?_getD, ← this]
   · intro h
     have : (by4 (adV b)).set (k - b.length) x = by4 (adV b) := by
       rw [← h, List.getD_eq_getElem?_getD, List.getElem?_eq_getElem hj, Option.getD_some, List.set_getElem_self]
     rw [this, if_neg (by simp)]
end Go.Proofs.YtkikhmdpcanidaaGreat
namespace Go.Proofs.YtkikhmdpcanidaaGreat
open Go.RowKit
def wrV (n : Nat) (high : Bool) (v : Value) (i : Nat) : Value := if i = 0 then .int .i64 n else if i = 1 then .bool high else if i = 2 then .bool true else v
structure IsWr (w : World) (S : Nat → Prop) (wb : Nat) (high : Bool) (bs : List UInt8) (n : Nat) (v : Value) : Prop where
 blk : w.heap[wb]? = some (.cells (fl 4 (wrV n high v)).toArray 86 (0, 0))
 row : w.ownsRow (wb + 1) 5 1 v bs.length (bs.map fun b => .int .u8 b.toNat)
 at_ : ∀ b, v.ownBlock = some b → S b
 own : S wb
 lt : ∀ b, S b → wb ≤ b ∧ b < w.heap.size
def WrQ (w : World) (S : Nat → Prop) (wb : Nat) (high : Bool) (B : List Bool) : Prop := ∃ bs v, IsWr w S wb high bs B.length v ∧ zaX bs high B
def zab (w : World) (S : Nat → Prop) (wb : Nat) (high : Bool) (B : List Bool) (w' : World) : Prop := ∃ S', WrQ w' S' wb high B ∧ zaa S w w' ∧ ∀ b, S' b → S b ∨ w.heap.size ≤ b
theorem zab.refl {w : World} {S : Nat → Prop} {wb : Nat} {high : Bool} {B : List Bool} (h : WrQ w S wb high B) : zab w S wb high B w := ⟨S, h, zaa.refl _ _, fun _ h => .inl h⟩
theorem zab.trans {w w1 w2 : World} {S S1 : Nat → Prop} {wb : Nat} {high : Bool} {B : List Bool} (hk : zaa S w w1) (hs : ∀ b, S1 b → S b ∨ w.heap.size ≤ b) (h2 : zab w1 S1 wb high B w2) : zab w S wb high B w2 := by
 obtain ⟨S2, q, k, s⟩ := h2
 exact ⟨S2, q, hk.trans k hs, fun b hb => (s b hb).elim (hs b) (fun h => .inr (Nat.le_trans hk.size h))⟩
theorem zdU {w : World} {S : Nat → Prop} {wb : Nat} {high : Bool} {bs : List UInt8} {n : Nat} {v : Value} (h : IsWr w S wb high bs n v) :
   Calls Tryz.prog 56 #[.pointer (some ⟨wb, 0, none⟩)] w fun e w' => e = .returned (.bool false) ∧ w = w' := by
 have h2 := zaj h.blk 2 (by omega)
 unfold wrV at h2
 simp only [if_pos, Nat.reduceEqDiff, if_false] at h2
 clear h
 go_enter Tryz.func56, Tryz.ntmps56
 go_wp2
 go_ret
 exact ⟨rfl, rfl⟩
structure Half (w : World) (S : Nat → Prop) (wb : Nat) (high : Bool) (B : List Bool) (bs : List UInt8) (n : Nat) (v : Value) (W : World) : Prop where
 blk : W.heap[wb]? = some (.cells (fl 4 (wrV n high v)).toArray 86 (0, 0))
 row : W.ownsRow (wb + 1) 5 1 v bs.length (bs.map fun b => .int .u8 b.toNat)
 at_ : ∀ b, v.ownBlock = some b → S b ∨ w.heap.size ≤ b
 keeps : zaa S w W
 room : Room bs high B
theorem half_end {w W W2 : World} {S : Nat → Prop} {wb : Nat} {high one : Bool} {B : List Bool} {bs bs2 : List UInt8} {n : Nat} {v : Value} (hw : WrQ w S wb high B) (h : Half w S wb high B bs n v W)
   (hW : W2.heap[wb]? = some (.cells (fl 4 (wrV (n + 1) high v)).toArray 86 (0, 0))) (hr : W2.ownsRow (wb + 1) 5 1 v bs2.length (bs2.map fun b => .int .u8 b.toNat)) (hk : zaa S w W2) (hn : n = B.length)
   (hq : zaX bs2 high (B ++ [one])) : zab w S wb high (B ++ [one]) W2 := by
 obtain ⟨bs0, v0, hw0, _⟩ := hw
 refine ⟨fun b => S b ∨ (wb ≤ b ∧ w.heap.size ≤ b ∧ b < W2.heap.size), ⟨bs2, v, ⟨by simpa [hn] using hW, hr, fun b hb => ?_, .inl hw0.own, fun b hb => ?_⟩, hq⟩, hk, fun b hb => ?_⟩
 · have := hr.lt b hb
   exact (h.at_ b hb).elim .inl fun h1 => .inr ⟨by omega, h1, this.2⟩
 · rcases hb with hb | hb
   · have := hw0.lt b hb; have := hk.size; omega
   · exact ⟨hb.1, hb.2.2⟩
 · rcases hb with hb | hb
   · exact .inl hb
   · exact .inr hb.2.1
theorem wrV_set (n : Nat) (high : Bool) (v : Value) (i : Nat) : (if i = 0 then Value.int .i64 ((n : Int) + 1) else wrV n high v i) = wrV (n + 1) high v i := by
 unfold wrV
 by_cases h : i = 0
 · simp [h]
 · simp [h]
theorem wrV_set3 (n : Nat) (high : Bool) (v v' : Value) (i : Nat) (h4 : i < 4) : (if i = 3 then v' else wrV n high v i) = wrV n high v' i := by
 unfold wrV
 by_cases h : i = 3
 · simp [h]
 · have : i = 0 ∨ i = 1 ∨ i = 2 := by omega
   rcases this with rfl | rfl | rfl <;> simp
theorem half_pad {w w1 : World} {S : Nat → Prop} {wb : Nat} {high : Bool} {B : List Bool} {bs : List UInt8} {v v' : Value} (hw : IsWr w S wb high bs B.length v) (hq : zaX bs high B) (h8 : B.length % 8 = 0) (o : Obj)
   (hr : w1.ownsRow (wb + 1) 5 1 v' (bs.length + 1) (bs.map (fun b => Value.int .u8 b.toNat) ++ [.int .u8 0])) (hg : (w.alloc o).grownBy w1 v.ownBlock) (hn : zfA (w.alloc o) v v') :
   Half w S wb high B (bs ++ [0]) B.length v' (w1.setCell ⟨wb, 3, none⟩ v') := by
 have hwb := (hw.lt wb hw.own).2
 have hvb : ∀ b, v.ownBlock = some b → wb < b := fun b hb => (hw.row.lt b hb).1
 have h1 : w1.heap[wb]? = some (.cells (fl 4 (wrV B.length high v)).toArray 86 (0, 0)) :=
   (hg.block wb (by rw [zac]; omega) (fun e => by have := hvb wb e.symm; omega)).trans ((Below.heap_alloc w o wb hwb).trans hw.blk)
 have hk : zaa S w w1 := ((zaa.refl S w).alloc o).grown hg (fun k hk => .inl (hw.at_ k hk))
 refine ⟨?_, ?_, fun b hb => ?_, hk.setCell (.inl hw.own) _, room_pad hq h8⟩
 · rw [zaG h1]
   exact congrArg (fun x => some (Obj.cells (List.toArray x) _ _)) (zam fun i hi => wrV_set3 _ _ _ _ _ hi)
 · have := za2 hr (a := ⟨wb, 3, none⟩) (fun h => by have := (hr.lt wb h).1; omega) v'
   simpa using this
 · rcases hn b hb with h2 | h2
   · exact .inl (hw.at_ b h2)
   · right; rw [zac] at h2; omega
theorem half_in {w : World} {S : Nat → Prop} {wb : Nat} {high : Bool} {B : List Bool} {bs : List UInt8} {v : Value} (hw : IsWr w S wb high bs B.length v) (hq : zaX bs high B) (h8 : B.length % 8 ≠ 0) : Half w S wb high B bs B.length v w :=
 ⟨hw.blk, hw.row, fun b hb => .inl (hw.at_ b hb), zaa.refl _ _, room_in hq h8⟩
theorem half_zero {w W : World} {S : Nat → Prop} {wb : Nat} {high : Bool} {B : List Bool} {bs : List UInt8} {n : Nat} {v : Value} (hw : WrQ w S wb high B) (h : Half w S wb high B bs n v W) (hn : n = B.length) :
   zab w S wb high (B ++ [false]) (W.setCell ⟨wb, 0, none⟩ (.int .i64 ((n : Int) + 1))) := by
 have hS : S wb := by obtain ⟨_, _, h1, _⟩ := hw; exact h1.own
 refine half_end hw h ?_ (za2 h.row (a := ⟨wb, 0, none⟩) (fun e => by have := (h.row.lt wb e).1; omega) _) (h.keeps.setCell (.inl hS) _) hn (wrote_zero h.room)
 rw [zaG h.blk]
 exact congrArg (fun x => some (Obj.cells (List.toArray x) _ _)) (zam fun i _ => wrV_set _ _ _ _)
theorem ze8 (bs : List UInt8) (i : Nat) (x : UInt8) : (bs.map fun b => Value.int .u8 b.toNat).set i (.int .u8 x.toNat) = (bs.set i x).map fun b => Value.int .u8 b.toNat := by
 rw [List.map_set]
theorem own_setL {w : World} {base e g n cap : Nat} {xs : List Value} (h : w.ownsRow base e 1 (.slice (some ⟨g, 0, none⟩) n cap) n xs) (i : Nat) (v : Value) :
   (w.setCell ⟨g, i, none⟩ v).ownsRow base e 1 (.slice (some ⟨g, 0, none⟩) n cap) n (xs.set i v) := by
 have hx : xs = fl n (fun i => xs.getD i undef) := by
   have hl : xs.length = n := by simpa using h.1
   have := map_fl undef xs id
   rw [List.map_id] at this
   rw [← hl]; exact this
 rw [hx] at h ⊢
 rw [fl_set]
 exact own_set h i v
theorem half_one {w W : World} {S : Nat → Prop} {wb g k cap : Nat} {high : Bool} {B : List Bool} {bs : List UInt8} {n : Nat} (q : Nat) (hw : WrQ w S wb high B) (h : Half w S wb high B bs n (.slice (some ⟨g, 0, none⟩) k cap) W) (hn : n = B.length) (x : Int)
   (hx : x = ((bs.getD (n / 8) 0).toNat ||| 2 ^ zbl n high : Nat)) :
   zab w S wb high (B ++ [true]) (((W.drewN q).setCell ⟨g, n / 8, none⟩ (.int .u8 x)).setCell ⟨wb, 0, none⟩ (.int .i64 ((n : Int) + 1))) := by
 have hS : S wb := by obtain ⟨_, _, h1, _⟩ := hw; exact h1.own
 have hg := h.row.lt g rfl
 have hk : k = bs.length := by
   obtain ⟨_, h2⟩ := h.row
   rcases h2 with ⟨h3, _⟩ | ⟨_, _, _, h3, _⟩
   · cases h3
   · simp at h3; exact h3.2.1
 subst hk
 have hrow : (W.drewN q).ownsRow (wb + 1) 5 1 (.slice (some ⟨g, 0, none⟩) bs.length cap) bs.length (bs.map fun b => .int .u8 b.toNat) := zag h.row (zau (Below.refl _ _) q)
 have hset := own_setL hrow (n / 8) (.int .u8 x)
 rw [show x = (((UInt8.ofNat ((bs.getD (n / 8) 0).toNat ||| 2 ^ zbl n high)).toNat : Nat) : Int) from by rw [or_byte _ _ (zdd _ _)]; exact hx, ze8] at hset
 rw [show x = (((UInt8.ofNat ((bs.getD (n / 8) 0).toNat ||| 2 ^ zbl n high)).toNat : Nat) : Int) from by rw [or_byte _ _ (zdd _ _)]; exact hx]
 have hset2 := za2 hset (a := ⟨wb, 0, none⟩) (fun e => by simp [Value.ownBlock] at e; omega) (.int .i64 ((n : Int) + 1))
 refine half_end (bs2 := bs.set (n / 8) (UInt8.ofNat ((bs.getD (n / 8) 0).toNat ||| 2 ^ zbl n high))) hw h ?_ (by simpa using hset2) (((h.keeps.drewN q).setCell (h.at_ g rfl) _).setCell (.inl hS) _) hn (by rw [hn]; exact wrote_one h.room)
 have h1 : ((W.drewN q).setCell ⟨g, n / 8, none⟩ (.int .u8 ((UInt8.ofNat ((bs.getD (n / 8) 0).toNat ||| 2 ^ zbl n high)).toNat : Nat))).heap[wb]? = some (.cells (fl 4 (wrV n high (.slice (some ⟨g, 0, none⟩) bs.length cap))).toArray 86 (0, 0)) := by
   rw [heap_setCell_other _ _ _ _ (by show wb ≠ g; omega)]; exact h.blk
 rw [zaG h1]
 exact congrArg (fun x => some (Obj.cells (List.toArray x) _ _)) (zam fun i _ => wrV_set _ _ _ _)
theorem half_row {w W : World} {S : Nat → Prop} {wb : Nat} {high : Bool} {B : List Bool} {bs : List UInt8} {n : Nat} {v : Value} (h : Half w S wb high B bs n v W) (hn : n = B.length) :
   ∃ g cap, v = .slice (some ⟨g, 0, none⟩) bs.length cap ∧ wb < g ∧ n / 8 < bs.length ∧ W.cell? ⟨g, n / 8, none⟩ = some (.int .u8 (bs.getD (n / 8) 0).toNat) ∧ W.frozen? ⟨g, n / 8, none⟩ = false := by
 have hlen : n / 8 < bs.length := by have := h.room.1; omega
 obtain ⟨h1, h2⟩ := h.row
 rcases h2 with ⟨_, h4⟩ | ⟨g, cap, cur, hv, hg, hh, hle, hm, hc, ht⟩
 · omega
 · refine ⟨g, cap, hv, by omega, hlen, ?_, frozen_of_row W g _ _ _ hh⟩
   have hcell := h.row.cells (g := g) (by rw [hv]; rfl) (n / 8) (.int .u8 (bs.getD (n / 8) 0).toNat) (by simp [hlen, List.getD])
   rwa [Addr.add_lit, Nat.zero_add] at hcell
theorem blk_after {w w1 : World} {S : Nat → Prop} {wb : Nat} {high : Bool} {bs : List UInt8} {n : Nat} {v : Value} (hw : IsWr w S wb high bs n v) (o : Obj) (hg : (w.alloc o).grownBy w1 v.ownBlock) :
   w1.heap[wb]? = some (.cells (fl 4 (wrV n high v)).toArray 86 (0, 0)) :=
 (hg.block wb (by rw [zac]; have := (hw.lt wb hw.own).2; omega) (fun e => by have := (hw.row.lt wb e.symm).1; omega)).trans ((Below.heap_alloc w o wb (hw.lt wb hw.own).2).trans hw.blk)
theorem zbn {w : World} {wb n : Nat} {high : Bool} {v : Value} (h : w.heap[wb]? = some (.cells (fl 4 (wrV n high v)).toArray 86 (0, 0))) :
   w.cell? ⟨wb, 0, none⟩ = some (.int .i64 n) ∧ w.cell? ⟨wb, 1, none⟩ = some (.bool high) ∧ w.cell? ⟨wb, 3, none⟩ = some v ∧ ∀ i, w.frozen? ⟨wb, i, none⟩ = false :=
 ⟨zaj h 0 (by omega), zaj h 1 (by omega), zaj h 3 (by omega), fun i => zaM h i⟩
theorem bit_zero (wb : Nat) (high : Bool) (B : List Bool) (S : Nat → Prop) (w : World) (h : WrQ w S wb high B) (hlt : B.length < 1099511627776) :
   Calls Tryz.prog 106 #[.pointer (some ⟨wb, 0, none⟩), .bool false] w fun e w' => e = .returned (.tuple #[]) ∧ zab w S wb high (B ++ [false]) w' := by
 have HQ := Lib.hid h
 obtain ⟨bs, v, hw, hq⟩ := h
 obtain ⟨h0, h1, h3, hf⟩ := zbn hw.blk
 have hf0 := hf 0
 have hf3 := hf 3
 have hl := hq.1
 have hbs : bs.length ≤ 1099511627776 := by omega
 have hsz := (hw.lt wb hw.own).2
 have HW := Lib.hid hw
 have HWQ := Lib.hid hq
 obtain ⟨n, hn⟩ : ∃ n, n = B.length := ⟨_, rfl⟩
 rw [← hn] at h0
 have HN := Lib.hid hn
 have hnb : n < 1099511627776 := by omega
 by_cases h8 : n % 8 = 0
 · have hand : bits .and .i64 (n : Int) 7 = 0 := by rw [zb2]; omega
   clear hw hq hf hl h8 hn
   go_enter Tryz.func106, Tryz.ntmps106
   go_wp2_with (at_builtin; refine zcf ETB rfl (.tmp 15) (.tmp 16) rfl (wb + 1) v bs.length _ rfl (HW.out.row.alloc _) _ 1 _ _ rfl (zbu _ _ _) (zcg rfl) (by unfold maxLen; omega) (by omega) (by rw [zac]; omega) ?_; intro v' w5 hO5 hg5 hN5; obtain ⟨a5, c5, rfl, _, _⟩ := Row.of_owns hO5; have HALF := Lib.hid (half_pad HW.out HWQ.out (by have := HN.out; have := zb2 (n : Int); omega) _ hO5 hg5 hN5); obtain ⟨k0, k1, k3, kf⟩ := zbn (blk_after HW.out _ hg5); rw [← HN.out] at k0; have kf0 := kf 0; have kf3 := kf 3; clear hO5 hg5 hN5 kf)
   go_end0
   have hz := half_zero HQ.out HALF.out rfl
   rw [← HN.out] at hz
   exact ⟨rfl, hz⟩
 · have hand : bits .and .i64 (n : Int) 7 = ((n % 8 : Nat) : Int) := by rw [zb2]; omega
   have hne : (((n % 8 : Nat) : Int) == 0) = false := by rw [beq_eq_false_iff_ne]; omega
   have HALF := Lib.hid (half_in hw hq (by omega))
   clear hw hq hf hl h8 hn
   go_enter Tryz.func106, Tryz.ntmps106
   go_wp2
   go_end0
   have hz := half_zero HQ.out HALF.out rfl
   rw [← HN.out] at hz
   exact ⟨rfl, hz⟩
theorem or_mask {bs : List UInt8} {n x : Nat} {high : Bool} (hx : x = (bs.getD (n / 8) 0).toNat) : bits .or .u8 (x : Int) (zem n high) = (((bs.getD (n / 8) 0).toNat ||| 2 ^ zbl n high : Nat) : Int) := by
 have h1 : x < 256 := by rw [hx]; exact (bs.getD (n / 8) 0).toNat_lt
 have h2 : 2 ^ zbl n high < 256 := Nat.lt_of_lt_of_le (Nat.pow_lt_pow_right (by omega) (zdd n high)) (by omega)
 unfold zem
 rw [u8_or_nat x _ h1 h2, hx]
theorem bit_one (wb : Nat) (high : Bool) (B : List Bool) (S : Nat → Prop) (w : World) (h : WrQ w S wb high B) (hlt : B.length < 1099511627776) :
   Calls Tryz.prog 106 #[.pointer (some ⟨wb, 0, none⟩), .bool true] w fun e w' => e = .returned (.tuple #[]) ∧ zab w S wb high (B ++ [true]) w' := by
 have HQ := Lib.hid h
 obtain ⟨bs, v, hw, hq⟩ := h
 obtain ⟨h0, h1, h3, hf⟩ := zbn hw.blk
 have hf0 := hf 0
 have hf3 := hf 3
 have hl := hq.1
 have hbs : bs.length ≤ 1099511627776 := by omega
 have hsz := (hw.lt wb hw.own).2
 have HW := Lib.hid hw
 have HWQ := Lib.hid hq
 obtain ⟨n, hn⟩ : ∃ n, n = B.length := ⟨_, rfl⟩
 rw [← hn] at h0
 have HN := Lib.hid hn
 have hnb : n < 1099511627776 := by omega
 by_cases h8 : n % 8 = 0
 · have hand : bits .and .i64 (n : Int) 7 = 0 := by rw [zb2]; omega
   clear hw hq hf hl h8 hn
   go_enter Tryz.func106, Tryz.ntmps106
   go_wp2_with (at_builtin; refine zcf ETB rfl (.tmp 15) (.tmp 16) rfl (wb + 1) v bs.length _ rfl (HW.out.row.alloc _) _ 1 _ _ rfl (zbu _ _ _) (zcg rfl) (by unfold maxLen; omega) (by omega) (by rw [zac]; omega) ?_; intro v' w5 hO5 hg5 hN5; obtain ⟨a5, c5, rfl, _, _⟩ := Row.of_owns hO5; have HALF := Lib.hid (half_pad HW.out HWQ.out (by have := HN.out; have := zb2 (n : Int); omega) _ hO5 hg5 hN5); obtain ⟨k0, k1, k3, kf⟩ := zbn (blk_after HW.out _ hg5); rw [← HN.out] at k0; have kf0 := kf 0; have kf3 := kf 3; clear hO5 hg5 hN5 kf)
   clear k0 k1 k3 kf0 kf3 h0 h1 h3 hf0 hf3 hand
   generalize w5.setCell ⟨wb, 3, none⟩ (.slice a5 (bs.length + 1) c5) = W at *
   obtain ⟨g, c, hv, hwg, hix, hcell, hfree⟩ := half_row HALF.out rfl
   rw [← HN.out] at hix hcell hfree
   simp only [Value.slice.injEq] at hv
   obtain ⟨rfl, hlen, rfl⟩ := hv
   obtain ⟨k0, k1, k3, kf⟩ := zbn HALF.out.blk
   rw [← HN.out] at k0
   have kf0 := kf 0
   have hmask := zdI wb 0 n high
   obtain ⟨x, hx⟩ : ∃ x, x = ((bs ++ [0]).getD (n / 8) 0).toNat := ⟨_, rfl⟩
   rw [← hx] at hcell
   have HX := Lib.hid hx
   have HM := Lib.hid hmask
   have hdi : ((n : Int) / 8).toNat = n / 8 := by omega
   have hix2 : (n : Int) / 8 < (bs.length : Int) + 1 := by rw [List.length_append] at hix; simp at hix; omega
   have hix0 : (0 : Int) ≤ (n : Int) / 8 := by omega
   clear hmask hx kf hix hlen
   refine wp_region_still_tail 18 (by kernel_rfl) (by kernel_rfl) ?_
   simp only [List.take_succ_cons, List.take_zero, List.drop_succ_cons, List.drop_zero]
   repeat still_step
   still_call ((HM.out _ (by exact k0) (by exact k1)).mono fun e w' ⟨he, hw⟩ => ⟨he, hw.symm⟩)
   repeat still_step
   refine wpStill_nil ?_
   change wpList _ _ _ _ _ (W.drewN 1)
   have hgw : g ≠ wb := by omega
   go_wp2
   go_end0
   have hz := half_one 1 HQ.out HALF.out rfl (bits .or .u8 (x : Int) (zem n high)) (by rw [← HN.out]; exact or_mask HX.out)
   rw [← HN.out] at hz
   exact ⟨rfl, hz⟩
 · have hand : bits .and .i64 (n : Int) 7 = ((n % 8 : Nat) : Int) := by rw [zb2]; omega
   have hne : (((n % 8 : Nat) : Int) == 0) = false := by rw [beq_eq_false_iff_ne]; omega
   have HALF := Lib.hid (half_in hw hq (by omega))
   clear hw hq hf hl h8 hn h0 h1 h3 hf0 hf3
   obtain ⟨g, c, hv, hwg, hix, hcell, hfree⟩ := half_row HALF.out rfl
   rw [← HN.out] at hix hcell hfree
   subst hv
   obtain ⟨k0, k1, k3, kf⟩ := zbn HALF.out.blk
   rw [← HN.out] at k0
   have kf0 := kf 0
   have hmask := zdI wb 0 n high
   obtain ⟨x, hx⟩ : ∃ x, x = (bs.getD (n / 8) 0).toNat := ⟨_, rfl⟩
   rw [← hx] at hcell
   have HX := Lib.hid hx
   have HM := Lib.hid hmask
   have hdi : ((n : Int) / 8).toNat = n / 8 := by omega
   have hix2 : (n : Int) / 8 < (bs.length : Int) := by omega
   have hix0 : (0 : Int) ≤ (n : Int) / 8 := by omega
   clear hmask hx kf hix
   go_enter Tryz.func106, Tryz.ntmps106
   go_wp2
   refine wp_region_still_tail 18 (by kernel_rfl) (by kernel_rfl) ?_
   simp only [List.take_succ_cons, List.take_zero, List.drop_succ_cons, List.drop_zero]
   repeat still_step
   still_call ((HM.out _ (by exact k0) (by exact k1)).mono fun e w' ⟨he, hw⟩ => ⟨he, hw.symm⟩)
   repeat still_step
   refine wpStill_nil ?_
   change wpList _ _ _ _ _ (w.drewN 1)
   have hgw : g ≠ wb := by omega
   go_wp2
   go_end0
   have hz := half_one 1 HQ.out HALF.out rfl (bits .or .u8 (x : Int) (zem n high)) (by rw [← HN.out]; exact or_mask HX.out)
   rw [← HN.out] at hz
   exact ⟨rfl, hz⟩
theorem wbit_any (wb : Nat) (high one : Bool) (B : List Bool) (S : Nat → Prop) (w : World) (h : WrQ w S wb high B) (hlt : B.length < 1099511627776) :
   Calls Tryz.prog 106 #[.pointer (some ⟨wb, 0, none⟩), .bool one] w fun e w' => e = .returned (.tuple #[]) ∧ zab w S wb high (B ++ [one]) w' := by
 cases one
 · exact bit_zero wb high B S w h hlt
 · exact bit_one wb high B S w h hlt
theorem new_wr (high : Bool) (w : World) : Calls Tryz.prog 28 #[.bool high] w fun e w' => e = .returned (.pointer (some ⟨w.heap.size, 0, none⟩)) ∧ WrQ w' (fun b => b = w.heap.size) w.heap.size high [] ∧ Below w.heap.size w w' ∧ w'.heap.size = w.heap.size + 1 := by
 go_enter Tryz.func28, Tryz.ntmps28
 go_wp2
 go_ret
 refine ⟨rfl, ⟨[], .slice none 0 0, ⟨zaf _ rfl, World.ownsRow_nil _ _ _ _, fun b h => (by cases h), rfl, fun b h => (by rw [zac]; have h2 : b = w.heap.size := h; omega)⟩, wrote_nil high⟩, zai _ _, zac _ _⟩
theorem bit_test (x t : Nat) (hx : x < 4294967296) : (bits .and .u32 ((x : Int) / 2 ^ t) 1 == 1) = x.testBit t := by
 have e : (x : Int) / 2 ^ t = ((x / 2 ^ t : Nat) : Int) := by simp only [Int.natCast_ediv, Int.natCast_pow, Int.cast_ofNat_Int]
 have hl : x / 2 ^ t < 4294967296 := Nat.lt_of_le_of_lt (Nat.div_le_self _ _) hx
 rw [e, show (1 : Int) = ((1 : Nat) : Int) from rfl, u32_and_nat _ 1 hl (by omega), Nat.and_one_is_mod, Nat.testBit_eq_decide_div_mod_eq, Bool.eq_iff_iff]
 simp
 omega
theorem putL_succ (x : Nat) (high : Bool) (n k : Nat) : putL x high n (k + 1) = putL x high n k ++ [x.testBit (zbq k n high)] := rfl
theorem wput_any (wb n x : Nat) (high : Bool) (B : List Bool) (S : Nat → Prop) (w : World) (h : WrQ w S wb high B) (hlt : B.length < 549755813888) (hn : n ≤ 32) (hx : x < 2 ^ n) :
   Calls Tryz.prog 81 #[.pointer (some ⟨wb, 0, none⟩), .int .u32 x, .int .i64 n] w fun e w' => e = .returned (.int .i64 0) ∧ zab w S wb high (B ++ putL x high n n) w' := by
 have HQ := Lib.hid h
 have hdead : Calls Tryz.prog 56 #[.pointer (some ⟨wb, 0, none⟩)] w fun e w' => e = .returned (.bool false) ∧ w = w' := by
   obtain ⟨bs, v, hw, hq⟩ := h
   exact zdU hw
 have HD := Lib.hid hdead
 have hx32 : x < 4294967296 := Nat.lt_of_lt_of_le hx (pow32 hn)
 have hdiv : x / 2 ^ n = 0 := Nat.div_eq_of_lt hx
 have HX := Lib.hid hx
 have HDV := Lib.hid hdiv
 have hN1 : decide ((n : Int) < 0) = false := by simp
 have hN2 : decide (32 < (n : Int)) = false := by simp; omega
 have hN3 : ((x : Int) / 2 ^ n != 0) = false := by
   have e : (x : Int) / 2 ^ n = ((x / 2 ^ n : Nat) : Int) := by simp only [Int.natCast_ediv, Int.natCast_pow, Int.cast_ofNat_Int]
   rw [e, hdiv]; rfl
 clear h hdead hx hdiv
 go_enter Tryz.func81, Tryz.ntmps81
 go_wp2_with (go_at_call 56; refine HD.out.mono ?_; rintro e w' ⟨rfl, rfl⟩)
 go_loopw [26] (fun i wr => ∃ (k : Nat) (S' : Nat → Prop), k ≤ n ∧ i = .int .i64 k ∧ Hid (WrQ wr S' wb high (B ++ putL x high n k)) ∧ Hid (zaa S w wr) ∧ Hid (∀ b, S' b → S b ∨ w.heap.size ≤ b)) (fun i _ => n - (intOf i).toNat)
 case atStart => exact ⟨0, S, by omega, rfl, Lib.hid (by simpa [putL] using HQ.out), Lib.hid (zaa.refl _ _), Lib.hid (fun b h => .inl h)⟩
 case round =>
   obtain ⟨k, S', hk, rfl, HQk, HK, HS⟩ := hrel
   by_cases hlt2 : k < n
   · have hbt := bit_test x (zbq k n high) hx32
     have hc1 : wr.cell? ⟨wb, 1, none⟩ = some (.bool high) := by
       obtain ⟨bs, v, hw, hq⟩ := HQk.out
       exact (zbn hw.blk).2.1
     have hbit := wbit_any wb high (x.testBit (zbq k n high)) (B ++ putL x high n k) S' wr HQk.out (by rw [List.length_append, zae]; omega)
     have ht32 : zbq k n high < 32 := by unfold zbq; split <;> omega
     generalize hone : x.testBit (zbq k n high) = one at hbt hbit
     have HONE := Lib.hid hone
     clear hone
     have HB := Lib.hid hbit
     clear hbit
     go_wp2_with fail
     refine (turn_any wb 0 k n high _ (by simpa using hc1) hlt2 hn).mono ?_
     rintro e w' ⟨rfl, rfl⟩
     go_wp2_with fail
     refine HB.out.mono ?_
     rintro e w2 ⟨rfl, S2, hQ2, hK2, hS2⟩
     have HQ2 := Lib.hid hQ2
     have HK2 := Lib.hid (HK.out.trans hK2 HS.out)
     have HS2 := Lib.hid (show ∀ b, S2 b → S b ∨ w.heap.size ≤ b from fun b hb => (hS2 b hb).elim (HS.out b) (fun h => .inr (Nat.le_trans HK.out.size h)))
     clear hQ2 hK2 hS2
     go_wp2
     go_roundw
     case rel => exact ⟨k + 1, S2, by omega, by go_num, by rw [putL_succ, HONE.out, ← List.append_assoc]; exact HQ2, HK2, HS2⟩
     case measure => simp [intOf]; omega
   · obtain rfl : k = n := by omega
     go_wp2
     go_ret
     exact ⟨rfl, S', HQk.out, HK.out, HS.out⟩
theorem wbytes_any (wb : Nat) (high : Bool) (B : List Bool) (S : Nat → Prop) (w : World) (h : WrQ w S wb high B) (hlt : B.length < 549755813888) :
   Calls Tryz.prog 30 #[.pointer (some ⟨wb, 0, none⟩)] w fun e w' => ∃ bs v, zaX bs high B ∧ e = .returned v ∧ w'.ownsRow w.heap.size 5 1 v bs.length (bs.map fun b => .int .u8 b.toNat) ∧ Below w.heap.size w w' := by
 obtain ⟨bs, v, hw, hq⟩ := h
 have hdead := zdU hw
 have h3 := (zbn hw.blk).2.2.1
 obtain ⟨a, c, rfl, hr, _⟩ := Row.of_owns hw.row
 have hl := hq.1
 have hcl := cloneB a bs.length c _ w hr (by intro u hu; simp at hu; obtain ⟨x, _, rfl⟩ := hu; rfl) (by omega)
 have HD := Lib.hid hdead
 have HC := Lib.hid hcl
 have HQ := Lib.hid hq
 clear hdead hcl hw hq hr hl
 go_enter Tryz.func30, Tryz.ntmps30
 go_wp2_with (first
   | (go_at_call 56; refine HD.out.mono ?_; rintro e w' ⟨rfl, rfl⟩)
   | (go_at_call 57; refine HC.out.mono ?_; rintro e w1 ⟨v, rfl, hO, hb, hnn⟩; have HO := Lib.hid hO; have HB := Lib.hid hb; clear hO hb hnn))
 go_ret
 exact ⟨bs, _, HQ.out, rfl, HO.out, HB.out⟩
end Go.Proofs.YtkikhmdpcanidaaGreat
namespace Go.Proofs.YtkikhmdpcanidaaGreat
open Go.RowKit Go.Sort
theorem bit_of (x u : Nat) (high : Bool) : putL (x / 2 ^ u % 2) high 1 1 = [x.testBit u] := by
 have ht : zbq 0 1 high = 0 := by unfold zbq; cases high <;> rfl
 simp only [putL, ht, List.nil_append]
 rw [Nat.testBit_eq_decide_div_mod_eq, Nat.testBit_eq_decide_div_mod_eq]
 simp
theorem and_one (x u : Nat) (hx : x < 4294967296) : bits .and .u32 ((x : Int) / 2 ^ u) 1 = ((x / 2 ^ u % 2 : Nat) : Int) := by
 have e : (x : Int) / 2 ^ u = ((x / 2 ^ u : Nat) : Int) := by simp only [Int.natCast_ediv, Int.natCast_pow, Int.cast_ofNat_Int]
 have hl : x / 2 ^ u < 4294967296 := Nat.lt_of_le_of_lt (Nat.div_le_self _ _) hx
 rw [e, show (1 : Int) = ((1 : Nat) : Int) from rfl, u32_and_nat _ 1 hl (by omega), Nat.and_one_is_mod]
structure PutFacts (W : World) (p : Nat) (bL oL bC oC n cL cC s : Nat) (x : Int) (m : Int) : Prop where
 c0 : W.cell? ⟨p, 0, none⟩ = some (.slice (some ⟨bL, oL, none⟩) n cL)
 c1 : W.cell? ⟨p, 1, none⟩ = some (.slice (some ⟨bC, oC, none⟩) n cC)
 l : W.cell? ⟨bL, oL + s, none⟩ = some (.int .i64 m)
 x : W.cell? ⟨bC, oC + s, none⟩ = some (.int .u32 x)
theorem put_facts {w : World} {Bl : Nat → Prop} {p : Nat} {l : List Int} (h : IsTb w Bl p l) (s : Nat) (hs : s < l.length) :
   ∃ bL oL bC oC cL cC, ∀ W S, zaa S w W → (∀ b, Bl b → ¬ S b) → PutFacts W p bL oL bC oC l.length cL cC s (zaw l s) (l.getD s 0) := by
 obtain ⟨⟨aL, cL, aC, cC, aS, cS, srt, hT, hL, hC, hS, hso, b1, b2, b3, hnn⟩, hroom, hp⟩ := h
 obtain ⟨bL, oL, rfl, _, hcL⟩ := hL.at 0 s hs
 obtain ⟨bC, oC, rfl, _, hcC⟩ := Row.at (enc := id) (.bool false) (l := fl l.length (cdV l l.length)) (by simpa using hC) s hs
 refine ⟨bL, oL, bC, oC, cL, cC, fun W S hk hd => ?_⟩
 have k0 := zaj hT 0 (by omega)
 have k1 := zaj hT 1 (by omega)
 unfold tbV at k0 k1
 simp only [if_true, Nat.one_ne_zero, if_false] at k0 k1
 have k3 := hcC s hs
 rw [id, show (fl l.length (cdV l l.length)).getD s (.bool false) = .int .u32 (zaw l s) from by simp [fl, hs, cdV]] at k3
 exact ⟨hk.cell k0 (hd p hp), hk.cell k1 (hd p hp), hk.cell (hcL s hs) (hd _ (b1 _ rfl)), hk.cell k3 (hd _ (b2 _ rfl))⟩
theorem tput_ok (Bl : Nat → Prop) (p wb s : Nat) (l : List Int) (high : Bool) (B : List Bool) (S : Nat → Prop) (w : World) (hT : IsTb w Bl p l) (h : WrQ w S wb high B) (hS : ∀ b, Bl b → ¬ S b) (hlt : B.length < 274877906944) (hs : s < l.length) (hp : 0 < l.getD s 0) :
   Calls Tryz.prog 93 #[.pointer (some ⟨p, 0, none⟩), .pointer (some ⟨wb, 0, none⟩), .int .i64 s] w fun e w' => e = .returned (.int .i64 0) ∧ zab w S wb high (B ++ za1 l s (lenN l s)) w' := by
 have HQ := Lib.hid h
 have hdead := tdead_any Bl p l w hT
 have HD := Lib.hid hdead
 have h15 := zbe (zat hT.room).2.2.1 (l.getD s 0) (by simp [List.getD, hs])
 have hcode := code_lt hT.room hs hp
 have hcb := zdg hT.room s
 obtain ⟨bL, oL, bC, oC, cL, cC, hpf⟩ := put_facts hT s hs
 obtain ⟨m, hm⟩ : ∃ m, m = lenN l s := ⟨_, rfl⟩
 obtain ⟨x, hx⟩ : ∃ x : Nat, x = (zaw l s).toNat := ⟨_, rfl⟩
 have hcB : ∀ u j, u + 1 + j = m → codeB l s j = x.testBit u := by
   intro u j hj
   unfold codeB
   rw [← hx, ← hm, show m - 1 - j = u from by omega]
 have HCB := Lib.hid hcB
 rw [show zaw l s = (x : Int) from by omega, show l.getD s 0 = (m : Int) from by rw [hm, lenN]; omega] at hpf
 have HPF := Lib.hid fun W hk => hpf W S hk hS
 have hx32 : x < 4294967296 := by omega
 rw [← hm]
 have hm0 : 0 < m := by rw [hm]; unfold lenN; omega
 have hm15 : m ≤ 15 := by rw [hm]; unfold lenN; omega
 have hf0 := hpf w S (zaa.refl _ _) hS
 obtain ⟨f0, f1, f2, f3⟩ := hf0
 have hN1 : decide ((s : Int) < 0) = false := by simp
 have hN2 : decide (l.length ≤ s) = false := by simp; omega
 have hmz : ((m : Int) == 0) = false := by rw [beq_eq_false_iff_ne]; omega
 have hll := (zat hT.room).2.1
 generalize l.length = n at *
 clear h hdead hT hS hpf hcB hm hx hcode hcb hp h15
 go_enter Tryz.func93, Tryz.ntmps93
 go_wp2_with (go_at_call 122; refine HD.out.mono ?_; rintro e w' ⟨rfl, rfl⟩)
 clear f0 f1 f2 f3
 go_loopw [7] (fun kv wr => ∃ (u j : Nat) (S' : Nat → Prop), kv = .int .i64 ((u : Int) - 1) ∧ u ≤ m ∧ Hid (u + j = m) ∧ Hid (WrQ wr S' wb high (B ++ za1 l s j)) ∧ Hid (zaa S w wr) ∧ Hid (∀ b, S' b → S b ∨ w.heap.size ≤ b)) (fun kv _ => (intOf kv + 1).toNat)
 case atStart => exact ⟨m, 0, S, by go_num, Nat.le_refl _, Lib.hid rfl, Lib.hid (by simpa [za1] using HQ.out), Lib.hid (zaa.refl _ _), Lib.hid (fun b h => .inl h)⟩
 case round =>
   obtain ⟨u, j, S', rfl, hu, HU, HQk, HK, HS⟩ := hrel
   rcases u with _ | u
   · go_wp2
     go_ret
     have hj : j = m := by have := HU.out; omega
     subst hj
     exact ⟨rfl, S', HQk.out, HK.out, HS.out⟩
   · rw [show (((u + 1 : Nat) : Int) - 1) = (u : Int) from by omega]
     obtain ⟨f0, f1, f2, f3⟩ := HPF.out wr HK.out
     have hand := and_one x u hx32
     have hy2 : x / 2 ^ u % 2 < 2 := Nat.mod_lt _ (by omega)
     have hput := wput_any wb 1 (x / 2 ^ u % 2) high (B ++ za1 l s j) S' wr HQk.out (by have := HU.out; rw [List.length_append, zas]; omega) (by omega) (by omega)
     rw [bit_of, ← HCB.out u j (by have := HU.out; omega), List.append_assoc, ← codeL_succ] at hput
     generalize x / 2 ^ u % 2 = y at hput hand hy2
     have HP := Lib.hid hput
     clear hput
     go_wp2_with fail
     refine HP.out.mono ?_
     rintro e w2 ⟨rfl, S2, hQ2, hK2, hS2⟩
     have HQ2 := Lib.hid hQ2
     have HK2 := Lib.hid (HK.out.trans hK2 HS.out)
     have HS2 := Lib.hid (show ∀ b, S2 b → S b ∨ w.heap.size ≤ b from fun b hb => (hS2 b hb).elim (HS.out b) (fun h => .inr (Nat.le_trans HK.out.size h)))
     clear hQ2 hK2 hS2 f0 f1 f2 f3
     go_wp2
     go_roundw
     case rel => exact ⟨u, j + 1, S2, by go_num, by omega, Lib.hid (by have := HU.out; omega), HQ2, HK2, HS2⟩
     case measure => simp [intOf]
theorem zcE {l : List Int} (hok1 : hok l = true) (s : Nat) : lenN l s ≤ 15 := by
 unfold lenN
 by_cases h : s < l.length
 · have := zbe hok1 (l.getD s 0) (by simp [List.getD, h]); omega
 · simp [List.getD, h]
theorem WrQ.keeps {w w' : World} {S T : Nat → Prop} {wb : Nat} {high : Bool} {B : List Bool} (h : WrQ w S wb high B) (hk : zaa T w w') (hT : ∀ b, S b → ¬ T b) : WrQ w' S wb high B := by
 obtain ⟨bs, v, hw, hq⟩ := h
 exact ⟨bs, v, ⟨hk.obj hw.blk (hT wb hw.own), zan hw.row hk (fun b hb => hT b (hw.at_ b hb)), hw.at_, hw.own, fun b hb => ⟨(hw.lt b hb).1, Nat.lt_of_lt_of_le (hw.lt b hb).2 hk.size⟩⟩, hq⟩
theorem WrQ.lt {w : World} {S : Nat → Prop} {wb : Nat} {high : Bool} {B : List Bool} (h : WrQ w S wb high B) : ∀ b, S b → wb ≤ b ∧ b < w.heap.size := by
 obtain ⟨bs, v, hw, hq⟩ := h
 exact hw.lt
def symV (ss : List Nat) : List Value := ss.map fun s : Nat => Value.int .i64 (s : Int)
theorem symV_snoc (ss : List Nat) (s : Nat) : symV (ss ++ [s]) = symV ss ++ [.int .i64 (s : Int)] := by simp [symV]
structure BackAt (l : List Int) (high : Bool) (wb : Nat) (w2 : World) (ss : List Nat) (v : Value) (S : Nat → Prop) (wr : World) : Prop where
 wr_ : WrQ wr S wb high (zcB l ss)
 own : wr.ownsRow (wb + 1) 3 1 v ss.length (symV ss)
 apart : ∀ b, v.ownBlock = some b → ¬ S b
 below : Below wb w2 wr
 may : ∀ s ∈ ss, s < l.length ∧ 0 < l.getD s 0
theorem BackAt.next {l : List Int} {high : Bool} {wb : Nat} {w2 wr w5 w6 : World} {ss : List Nat} {s : Nat} {v v' : Value} {S : Nat → Prop} (h : BackAt l high wb w2 ss v S wr) (hs : s < l.length) (hp : 0 < l.getD s 0) (hwb : wb ≤ w2.heap.size)
   (hn : zab wr S wb high (zcB l ss ++ za1 l s (lenN l s)) w5) (o : Obj) (hO : w6.ownsRow (wb + 1) 3 1 v' (ss.length + 1) (symV ss ++ [.int .i64 (s : Int)])) (hg : (w5.alloc o).grownBy w6 v.ownBlock) (hN : zfA (w5.alloc o) v v') :
   ∃ S', BackAt l high wb w2 (ss ++ [s]) v' S' w6 := by
 obtain ⟨S2, hq, hk, hS⟩ := hn
 rw [← bitsOf_snoc] at hq
 have hlt := hq.lt
 have hlt0 := h.wr_.lt
 have hb2 := h.below.size
 have hv2 : ∀ b, v.ownBlock = some b → ¬ S2 b := fun b hb hc => by
   have h1 := h.own.lt b hb
   rcases hS b hc with h2 | h2
   · exact h.apart b hb h2
   · omega
 have hk2 : zaa (fun b => v.ownBlock = some b) w5 w6 := ((zaa.refl _ w5).alloc o).grown hg (fun k hk => .inl hk)
 refine ⟨S2, ⟨hq.keeps hk2 (fun b hb hc => hv2 b hc hb), ?_, fun b hb hc => ?_, ?_, fun x hx => ?_⟩⟩
 · rw [symV_snoc, List.length_append]; exact hO
 · rcases hN b hb with h1 | h1
   · exact hv2 b h1 hc
   · rw [zac] at h1; have := (hlt b hc).2; omega
 · refine h.below.trans (Below.trans (hk.below (B := wb) (by omega) (fun b hb => (hlt0 b hb).1)) ?_)
   exact hk2.below (by have := hk.size; omega) (fun b hb => by have := (h.own.lt b hb).1; omega)
 · rcases List.mem_append.1 hx with h1 | h1
   · exact h.may x h1
   · simp at h1; subst h1; exact ⟨hs, hp⟩
end Go.Proofs.YtkikhmdpcanidaaGreat
namespace Go.Proofs.YtkikhmdpcanidaaGreat
open Go.RowKit
def wrA (wb : Nat) : Value := .agg #[.pointer (some ⟨wb, 0, none⟩)]
theorem WrQ.alloc {w : World} {S : Nat → Prop} {wb : Nat} {high : Bool} {B : List Bool} (h : WrQ w S wb high B) (o : Obj) : WrQ (w.alloc o) S wb high B :=
 h.keeps (T := fun _ => False) ((zaa.refl _ w).alloc o) (fun _ _ => id)
theorem WrQ.out {w : World} {S : Nat → Prop} {wb : Nat} {high : Bool} {B : List Bool} (h : WrQ w S wb high B) : ¬ S w.heap.size := fun hs => by have := (h.lt _ hs).2; omega
section
variable {w0 w : World} {S : Nat → Prop} {wb : Nat} {B : List Bool}
theorem zab.cell {high : Bool} (h : zab w0 S wb high B w) {b k : Nat} {v : Value} (hc : w0.cell? ⟨b, k, none⟩ = some v) (hn : ¬ S b) : w.cell? ⟨b, k, none⟩ = some v := by
 obtain ⟨S1, -, k1, -⟩ := h
 exact k1.cell hc hn
theorem zab.size {high : Bool} (h : zab w0 S wb high B w) : w0.heap.size ≤ w.heap.size := by
 obtain ⟨S1, -, k1, -⟩ := h
 exact k1.size
theorem zaC (h : zab w0 S wb false B w) (n x : Nat) (hlt : B.length < 549755813888) (hn : n ≤ 32) (hx : x < 2 ^ n) :
   Calls Tryz.prog 81 #[.pointer (some ⟨wb, 0, none⟩), .int .u32 x, .int .i64 n] w fun e w' => e = .returned (.int .i64 0) ∧ zab w0 S wb false (B ++ putL x false n n) w' := by
 obtain ⟨S1, q, k1, s1⟩ := h
 exact (wput_any wb n x false B S1 w q hlt hn hx).mono fun e w' ⟨he, h2⟩ => ⟨he, zab.trans k1 s1 h2⟩
theorem zcc {Bl : Nat → Prop} {p s : Nat} {l : List Int} (h : zab w0 S wb false B w) (hT : IsTb w0 Bl p l) (hS : ∀ b, Bl b → ¬ S b ∧ b < w0.heap.size) (hlt : B.length < 274877906944) (hs : s < l.length) (hp : 0 < l.getD s 0) :
   Calls Tryz.prog 93 #[.pointer (some ⟨p, 0, none⟩), .pointer (some ⟨wb, 0, none⟩), .int .i64 s] w fun e w' => e = .returned (.int .i64 0) ∧ zab w0 S wb false (B ++ za1 l s (lenN l s)) w' := by
 obtain ⟨S1, q, k1, s1⟩ := h
 exact (tput_ok Bl p wb s l false B S1 w (hT.keeps k1 fun b hb => (hS b hb).1) q (fun b hb h1 => by
   rcases s1 b h1 with h2 | h2
   · exact (hS b hb).1 h2
   · have := (hS b hb).2; omega) hlt hs hp).mono fun e w' ⟨he, h2⟩ => ⟨he, zab.trans k1 s1 h2⟩
end
theorem zdb {w : World} {S : Nat → Prop} {wb kind : Nat} {B : List Bool} (last : Bool) (h : WrQ w S wb false B) (hlt : B.length < 274877906944) (hk : kind < 4) :
   Calls Tryz.prog 79 #[wrA wb, .bool last, .int .u32 kind] w fun e w' => e = .returned (.tuple #[]) ∧ zab w S wb false (B ++ zcd last kind) w' := by
 have hc : (w.alloc (.cells #[.pointer (some ⟨wb, 0, none⟩)] 48)).cell? ⟨w.heap.size, 0, none⟩ = some (.pointer (some ⟨wb, 0, none⟩)) := by
   rw [cell_of_row _ _ 0 _ _ _ (heap_alloc_new w _)]; rfl
 have hno : ¬ S w.heap.size := h.out
 have HN := Lib.hid (zab.refl (h.alloc (.cells #[.pointer (some ⟨wb, 0, none⟩)] 48)))
 have HE := Lib.hid (fun (B' : List Bool) (w' : World) (hn : zab (w.alloc (.cells #[.pointer (some ⟨wb, 0, none⟩)] 48)) S wb false B' w') => zab.trans (S := S) ((zaa.refl S w).alloc (.cells #[.pointer (some ⟨wb, 0, none⟩)] 48)) (fun b hb => .inl hb) hn)
 have HX := Lib.hid hno
 clear h hno
 unfold wrA
 cases last with
 | false =>
   go_enter Tryz.func79, Tryz.ntmps79
   go_wp2_with fail
   generalize w.alloc (.cells #[.pointer (some ⟨wb, 0, none⟩)] 48) = w0 at hc HN HE ⊢
   refine (zaC HN.out 1 0 (by omega) (by omega) (by omega)).mono ?_
   rintro e w1 ⟨rfl, h1⟩
   have H1 := Lib.hid h1
   have hc1 := h1.cell hc HX.out
   clear h1
   go_wp2_with fail
   refine (zaC H1.out 2 kind (by rw [List.length_append, zae]; omega) (by omega) hk).mono ?_
   rintro e w2 ⟨rfl, h2⟩
   have H2 := Lib.hid h2
   clear h2
   go_wp2_with fail
   go_end0
   exact ⟨rfl, by have h := HE.out _ _ H2.out; rw [List.append_assoc] at h; exact h⟩
 | true =>
   go_enter Tryz.func79, Tryz.ntmps79
   go_wp2_with fail
   generalize w.alloc (.cells #[.pointer (some ⟨wb, 0, none⟩)] 48) = w0 at hc HN HE ⊢
   refine (zaC HN.out 1 1 (by omega) (by omega) (by omega)).mono ?_
   rintro e w1 ⟨rfl, h1⟩
   have H1 := Lib.hid h1
   have hc1 := h1.cell hc HX.out
   clear h1
   go_wp2_with fail
   refine (zaC H1.out 2 kind (by rw [List.length_append, zae]; omega) (by omega) hk).mono ?_
   rintro e w2 ⟨rfl, h2⟩
   have H2 := Lib.hid h2
   clear h2
   go_wp2_with fail
   go_end0
   exact ⟨rfl, by have h := HE.out _ _ H2.out; rw [List.append_assoc] at h; exact h⟩
theorem wrote_pad {bs : List UInt8} {B : List Bool} (h : zaX bs false B) : zaX bs false (B ++ List.replicate ((B.length + 7) / 8 * 8 - B.length) false) := by
 refine ⟨by rw [h.1, List.length_append, List.length_replicate]; omega, fun i hi => ?_⟩
 rw [h.2 i hi]
 by_cases hl : i < B.length
 · rw [zb7 _ _ _ _ hl]
 · rw [zbF _ _ _ _ (by omega), List.getD_eq_getElem?_getD, List.getElem?_eq_none (by omega), List.getD_eq_getElem?_getD, List.getElem?_replicate]
   split <;> rfl
theorem zeP {w : World} {S : Nat → Prop} {wb : Nat} {B : List Bool} (h : WrQ w S wb false B) (hlt : B.length < 274877906944) :
   Calls Tryz.prog 80 #[.pointer (some ⟨wb, 0, none⟩)] w fun e w' => e = .returned (.tuple #[]) ∧ zab w S wb false (B ++ List.replicate ((B.length + 7) / 8 * 8 - B.length) false) w' := by
 obtain ⟨bs, v, hw, hq⟩ := h
 have HD := Lib.hid (zdU hw)
 have hb := hw.blk
 have c0 := zaj hb 0 (by omega)
 have f0 := zaM hb 0
 unfold wrV at c0
 simp only [if_true] at c0
 have HW := Lib.hid hw
 have HQ := Lib.hid hq
 obtain ⟨m, hm⟩ : ∃ m, m = (B.length + 7) / 8 * 8 := ⟨_, rfl⟩
 have hq7 : bits .andNot .i64 ((B.length : Int) + 7) 7 = (m : Int) := by
   have h := zed (B.length + 7) (by omega)
   rw [hm, ← h]; rfl
 have HM := Lib.hid hm
 have hml : B.length ≤ m := by omega
 clear hm
 have hand : IntKind.i64.wrap (((B.length : Int) + 7)) = (B.length : Int) + 7 := IntWalk.i64_in _ (by omega)
 clear hw hq hb
 go_enter Tryz.func80, Tryz.ntmps80
 go_wp2_with (go_at_call 56; refine HD.out.mono ?_; rintro e w' ⟨rfl, rfl⟩)
 go_end0
 refine ⟨rfl, S, ⟨bs, v, ⟨?_, za2 HW.out.row (fun e => by have := (HW.out.row.lt _ e).1; simp at this; omega) _, HW.out.at_, HW.out.own, fun b hb => ⟨(HW.out.lt b hb).1, Nat.lt_of_lt_of_le (HW.out.lt b hb).2 ((zaa.refl S w).setCell (a := ⟨wb, 0, none⟩) (.inl HW.out.own) _).size⟩⟩, ?_⟩, (zaa.refl S w).setCell (a := ⟨wb, 0, none⟩) (.inl HW.out.own) _, fun b hb => .inl hb⟩
 · rw [zaG HW.out.blk]
   exact congrArg (fun x => some (Obj.cells (List.toArray x) _ _)) (zam fun i _ => by
     unfold wrV
     by_cases h0 : i = 0
     · rw [if_pos h0, if_pos h0, List.length_append, List.length_replicate, ← HM.out, show B.length + (m - B.length) = m from by omega]
     · simp only [h0, if_false])
 · exact wrote_pad HQ.out
end Go.Proofs.YtkikhmdpcanidaaGreat
namespace Go.Proofs.YtkikhmdpcanidaaGreat
open Go.RowKit
theorem adS_snoc : ∀ (l : List UInt8) (x : UInt8) (a b : Nat), adS (l ++ [x]) a b = (((adS l a b).1 + x.toNat), ((adS l a b).2 + ((adS l a b).1 + x.toNat)))
 | [], x, a, b => rfl
 | y :: l, x, a, b => by rw [List.cons_append, adS, adS, adS_snoc l x]
theorem take_snocA (b : List UInt8) (i : Nat) (h : i < b.length) : b.take (i + 1) = b.take i ++ [b.getD i 0] := by
 rw [List.take_add_one, List.getD_eq_getElem?_getD, List.getElem?_eq_getElem h]; rfl
theorem own_four {w : World} {p q r t : Value} : (w.alloc (.cells #[p, q, r, t] 5)).ownsRow w.heap.size 5 1 (.slice (some ⟨w.heap.size, 0, none⟩) 4 4) 4 [p, q, r, t] :=
 ⟨rfl, .inr ⟨w.heap.size, 4, _, rfl, Nat.le_refl _, zaf _ rfl, Nat.le_refl _, by unfold maxLen; omega, rfl, rfl⟩⟩
theorem by4_cells {x : Nat} (hx : x < 4294967296) : ((by4 x).map fun b => Value.int .u8 b.toNat) = [.int .u8 ((x : Int) / 16777216), .int .u8 ((x : Int) / 65536 % 256), .int .u8 ((x : Int) / 256 % 256), .int .u8 ((x : Int) % 256)] := by
 have e : ∀ a, a < 256 → (UInt8.ofNat a).toNat = a := fun a ha => by rw [UInt8.toNat_ofNat']; exact Nat.mod_eq_of_lt ha
 unfold by4
 simp only [List.map_cons, List.map_nil]
 rw [e _ (by omega), e _ (by omega), e _ (by omega), e _ (by omega)]
 rfl
theorem zeK {w : World} {x : Nat} (hx : x < 4294967296) : Calls Tryz.prog 47 #[.int .u32 x] w fun e w' => ∃ v, e = .returned v ∧ w'.ownsRow w.heap.size 5 1 v 4 ((by4 x).map fun b => .int .u8 b.toNat) ∧ Below w.heap.size w w' := by
 have HB := Lib.hid (by4_cells hx)
 go_enter Tryz.func47, Tryz.ntmps47
 go_wp2_with fail
 go_ret
 exact ⟨_, rfl, by rw [HB.out]; exact own_four, zai w _⟩
theorem or_halves {x y : Nat} (hx : x < 65536) (hy : y < 65536) : bits .or .u32 ((y : Int) * 65536) (x : Int) = ((65536 * y + x : Nat) : Int) := by
 rw [show ((y : Int) * 65536) = ((65536 * y : Nat) : Int) from by omega, u32_or_nat _ _ (by omega) (by omega)]
 have h := Nat.two_pow_add_eq_or_of_lt (i := 16) (b := x) (by omega) y
 rw [show (2 : Nat) ^ 16 = 65536 from rfl] at h
 rw [h]
theorem avalue_any {w : World} {hb x y : Nat} (hx : x < 65521) (hy : y < 65521) (c0 : w.cell? ⟨hb, 0, none⟩ = some (.int .u32 x)) (c1 : w.cell? ⟨hb, 1, none⟩ = some (.int .u32 y)) :
   Calls Tryz.prog 77 #[.pointer (some ⟨hb, 0, none⟩)] w fun e w' => e = .returned (.int .u32 (65536 * y + (x + 1) % 65521 : Nat)) ∧ ∃ q, w' = w.drewN q := by
 have HO := Lib.hid (or_halves (x := (x + 1) % 65521) (y := y) (by omega) (by omega))
 go_enter Tryz.func77, Tryz.ntmps77
 go_wp2_with fail
 go_quiet (fail)
 go_wp2_with fail
 go_ret
 refine ⟨?_, _, rfl⟩
 show Ending.returned (.int .u32 (bits .or .u32 ((y : Int) * 65536) (((x : Int) + 1) % 65521))) = _
 rw [← HO.out]
 rfl
def TakeEnd (w : World) (hb x y : Nat) (e : Ending) (w' : World) : Prop := e = .returned (.tuple #[]) ∧ ∃ q, w' = ((w.setCell ⟨hb, 0, none⟩ (.int .u32 ((x + 65520) % 65521 : Nat))).setCell ⟨hb, 1, none⟩ (.int .u32 (y : Nat))).drewN q
theorem atake_any {w : World} {a : Option Addr} {n cap hb : Nat} {b : List UInt8} (hr : Row w 1 a n cap (b.map fun x => .int .u8 x.toNat)) (hn : n ≤ 2000) (c0 : w.cell? ⟨hb, 0, none⟩ = some (.int .u32 0)) (c1 : w.cell? ⟨hb, 1, none⟩ = some (.int .u32 0))
   (f0 : w.frozen? ⟨hb, 0, none⟩ = false) (f1 : w.frozen? ⟨hb, 1, none⟩ = false) (ha : ∀ x, a = some x → x.block ≠ hb) :
   Calls Tryz.prog 76 #[.pointer (some ⟨hb, 0, none⟩), .slice a n cap] w (TakeEnd w hb (adM b 1 0).1 (adM b 1 0).2) := by
 have hl : b.length = n := by have := hr.1; simpa using this
 have hcapn := hr.2.1
 have hcapm := hr.2.2.1
 unfold maxLen at hcapm
 have HR := Lib.hid hr
 have HL := Lib.hid hl
 clear hr hl
 obtain ⟨x, hx⟩ : ∃ x, x = (adM b 1 0).1 := ⟨_, rfl⟩
 obtain ⟨y, hy⟩ : ∃ y, y = (adM b 1 0).2 := ⟨_, rfl⟩
 have hlt := zd9 b 1 0 (by decide) (by decide)
 rw [← hx, ← hy] at hlt ⊢
 have HX := Lib.hid hx
 have HY := Lib.hid hy
 clear hx hy
 go_enter Tryz.func76, Tryz.ntmps76
 go_wp2_with fail
 go_quiet (fail)
 have z0 : (w.drewN nq).cell? ⟨hb, 0, none⟩ = some (.int .u32 0) := c0
 have z1 : (w.drewN nq).cell? ⟨hb, 1, none⟩ = some (.int .u32 0) := c1
 have g0 : (w.drewN nq).frozen? ⟨hb, 0, none⟩ = false := f0
 have g1 : (w.drewN nq).frozen? ⟨hb, 1, none⟩ = false := f1
 have HQ := Lib.hid (show Row (w.drewN nq) 1 a n cap (b.map fun x => .int .u8 x.toNat) from HR.out.mono (zau (Below.refl _ _) nq))
 obtain ⟨W0, hW0⟩ : ∃ W0, W0 = w.drewN nq := ⟨_, rfl⟩
 rw [← hW0] at z0 z1 g0 g1 HQ ⊢
 have HW0 := Lib.hid hW0
 clear hW0 c0 c1 f0 f1 HR
 go_wp2_with fail
 go_loopw [1, 4, 5] (fun vp va vb wr => wr = W0 ∧ ((0 < n ∧ vp = .slice a n cap ∧ va = .int .u32 1 ∧ vb = .int .u32 0) ∨ ∃ (a2 : Option Addr) (c2 : Nat), vp = .slice a2 0 c2 ∧ va = .int .u32 x ∧ vb = .int .u32 y)) (fun vp _ _ _ => match vp with | .slice _ m _ => m | _ => 0)
 case atStart =>
   refine ⟨rfl, ?_⟩
   by_cases h0 : 0 < n
   · exact .inl ⟨h0, rfl, rfl, rfl⟩
   · obtain rfl : n = 0 := by omega
     have hb0 : b = [] := List.eq_nil_of_length_eq_zero HL.out
     exact .inr ⟨a, cap, rfl, by rw [HX.out, hb0]; rfl, by rw [HY.out, hb0]; rfl⟩
 case round =>
   obtain ⟨rfl, ⟨h0, rfl, rfl, rfl⟩ | ⟨a2, c2, rfl, rfl, rfl⟩⟩ := hrel
   case inr =>
     go_wp2_with fail
     go_end0
     have e := HW0.out
     subst e
     refine ⟨rfl, nq, ?_⟩
     rw [show (((x : Int) + 65521 - 1) % 65521) = (((x + 65520) % 65521 : Nat) : Int) from by omega]
     rfl
   have hd : decide ((n : Int) > 0) = true := decide_eq_true (by omega)
   have hmin : ¬ ((5552 : Int) < (n : Int)) := by omega
   obtain ⟨bb, off, rfl, -, hcc⟩ := HQ.out.at 0 0 (by omega)
   have HC := Lib.hid hcc
   clear hcc
   go_wp2_with fail
   go_loopw [4, 5, 8, 28] (fun va vb vx vk wk => ∃ k p q : Nat, vk = .int .i64 k ∧ va = .int .u32 p ∧ vb = .int .u32 q ∧ k ≤ n ∧ wk = wr ∧ Hid (adS (b.take k) 1 0 = (p, q))) (fun _ _ _ vk _ => n - (intOf vk).toNat)
   case atStart => exact ⟨0, 1, 0, rfl, rfl, rfl, Nat.zero_le _, rfl, Lib.hid rfl⟩
   case round =>
     obtain ⟨k, p, q, rfl, rfl, rfl, hk, rfl, HA⟩ := hrel
     by_cases hkn : k < n
     case neg =>
       have hke : k = n := by omega
       have hd2 : decide ((k : Int) < (n : Int)) = false := decide_eq_false (by omega)
       have hpq : p % 65521 = x ∧ q % 65521 = y := by
         have h := HA.out
         rw [hke, List.take_of_length_le (Nat.le_of_eq HL.out)] at h
         have h2 := adM_is b 1 0 (by decide) (by decide)
         rw [h] at h2
         exact ⟨by rw [HX.out, h2], by rw [HY.out, h2]⟩
       have hp : (p : Int) % 65521 = (x : Int) := by omega
       have hq : (q : Int) % 65521 = (y : Int) := by omega
       clear HA hpq hke
       go_wp2_with fail
       exact ⟨⟨by trivial, .inr ⟨_, _, rfl, by rw [hp], by rw [hq]⟩⟩, by show (0 : Nat) < n; exact h0⟩
     have hd2 : decide ((k : Int) < (n : Int)) = true := decide_eq_true (by omega)
     have hdi : (k : Int) < (n : Int) := by omega
     have z2 := HC.out k hkn
     have HS := Lib.hid (show adS (b.take (k + 1)) 1 0 = (p + (b.getD k 0).toNat, q + (p + (b.getD k 0).toNat)) from by
       rw [take_snocA b k (by rw [HL.out]; exact hkn), adS_snoc, HA.out])
     have hfit := adS_fits (b.take (k + 1)) 1 0 (by rw [List.length_take]; omega) (by omega) (by omega)
     rw [HS.out] at hfit
     obtain ⟨hf1, hf2⟩ := hfit
     dsimp only at hf1 hf2
     have hz := (b.getD k 0).toNat_lt
     clear HA
     generalize (b.getD k 0).toNat = z at z2 HS hz hf1 hf2
     go_wp2_with fail
     exact ⟨⟨k + 1, p + z, q + (p + z), by go_num, by rw [Int.natCast_add], by rw [Int.natCast_add, Int.natCast_add], by omega, by trivial, HS⟩, by simp [intOf]; omega⟩
theorem asum_any {w : World} {a : Option Addr} {n cap : Nat} {b : List UInt8} (hr : Row w 1 a n cap (b.map fun x => .int .u8 x.toNat)) (hn : n ≤ 2000) (ha : ∀ x, a = some x → x.block < w.heap.size) :
   Calls Tryz.prog 48 #[.slice a n cap] w fun e w' => e = .returned (.int .u32 (adV b)) ∧ Below w.heap.size w w' := by
 have hbA := zai w (.cells #[.int .u32 0, .int .u32 0] 109)
 have hnew := heap_alloc_new w (.cells #[.int .u32 0, .int .u32 0] 109)
 have hbk := hnew
 have c0 : (w.alloc (.cells #[.int .u32 0, .int .u32 0] 109)).cell? ⟨w.heap.size, 0, none⟩ = some (.int .u32 0) := by rw [cell_of_row _ _ 0 _ _ _ hnew]; rfl
 have c1 : (w.alloc (.cells #[.int .u32 0, .int .u32 0] 109)).cell? ⟨w.heap.size, 1, none⟩ = some (.int .u32 0) := by rw [cell_of_row _ _ 1 _ _ _ hnew]; rfl
 have HT := Lib.hid (atake_any (hr.mono hbA) hn c0 c1 (frozen_of_row _ _ _ _ _ hnew) (frozen_of_row _ _ _ _ _ hnew) (fun x hx e => by have := ha x hx; omega))
 have HB := Lib.hid hbA
 have hlt := zd9 b 1 0 (by decide) (by decide)
 have HV := Lib.hid (show adV b = 65536 * (adM b 1 0).2 + ((adM b 1 0).1 + 65520) % 65521 + 0 ∨ True from .inr trivial)
 have HVV := Lib.hid (show 65536 * (adM b 1 0).2 + (((adM b 1 0).1 + 65520) % 65521 + 1) % 65521 = adV b from by unfold adV; omega)
 have HC := Lib.hid (And.intro c0 c1)
 clear hr ha hbA hnew hbk c0 c1 HV
 generalize (adM b 1 0).1 = x at HT hlt HVV
 generalize (adM b 1 0).2 = y at HT hlt HVV
 go_enter Tryz.func48, Tryz.ntmps48
 go_wp2_with fail
 generalize w.alloc (.cells #[.int .u32 0, .int .u32 0] 109) = w0 at HT HB HC ⊢
 obtain ⟨hb, hhb⟩ : ∃ hb, hb = w.heap.size := ⟨_, rfl⟩
 rw [← hhb] at HT HC HB ⊢
 have HH := Lib.hid hhb
 clear hhb
 refine HT.out.mono ?_
 rintro e w1 ⟨rfl, q, hq⟩
 have d0 : w1.cell? ⟨hb, 0, none⟩ = some (.int .u32 ((x + 65520) % 65521 : Nat)) := by
   rw [hq]
   show ((w0.setCell _ _).setCell _ _).cell? _ = _
   rw [World.cell?_setCell_other _ _ _ _ (by simp)]
   exact World.cell?_setCell_same _ _ _ HC.out.1
 have d1 : w1.cell? ⟨hb, 1, none⟩ = some (.int .u32 (y : Nat)) := by
   rw [hq]
   show ((w0.setCell _ _).setCell _ _).cell? _ = _
   exact World.cell?_setCell_same _ _ _ (u := .int .u32 0) (by rw [World.cell?_setCell_other _ _ _ _ (by simp)]; exact HC.out.2)
 have hb1 : Below hb w w1 := by
   rw [hq]
   exact zau ((((zaa.of_below (S := fun z => hb ≤ z) HB.out fun z hz => hz).setCell (a := ⟨hb, 0, none⟩) (.inl (Nat.le_refl _)) _).setCell (a := ⟨hb, 1, none⟩) (.inl (Nat.le_refl _)) _).below (by have := HH.out; omega) fun z hz => hz) q
 have HVL := Lib.hid (avalue_any (w := w1) (hb := hb) (x := (x + 65520) % 65521) (y := y) (by omega) hlt.2 d0 d1)
 have HB1 := Lib.hid hb1
 clear d0 d1 hb1 hq HT HC HB
 go_wp2_with fail
 refine HVL.out.mono ?_
 rintro e w2 ⟨rfl, q2, hq2⟩
 have HB2 := Lib.hid (show Below hb w w2 from by rw [hq2]; exact zau HB1.out q2)
 clear hq2 HVL
 go_wp2_with fail
 go_ret
 refine ⟨?_, by have := HB2.out; rw [HH.out] at this; exact this⟩
 rw [← HVV.out]
 show Ending.returned (.int .u32 (65536 * (y : Int) + ((x : Int) + 65520 + 1) % 65521)) = _
 exact congrArg (fun z => Ending.returned (.int .u32 z)) (by omega)
structure BelowW (W : World) where
 w : World
 h : Below W.heap.size W w
instance BelowW.there (W : World) : Nonempty (BelowW W) := ⟨⟨W, Below.refl _ _⟩⟩
theorem BelowW.cell {W : World} {b o : Nat} {v : Value} (hc : W.cell? ⟨b, o, none⟩ = some v) (p : BelowW W) : p.w.cell? ⟨b, o, none⟩ = some v := cell?_keep p.h hc
theorem and15 (x : Nat) (h : x < 256) : bits .and .u8 (x : Int) 15 = ((x % 16 : Nat) : Int) := by
 rw [show (15 : Int) = ((15 : Nat) : Int) from rfl, u8_and_nat x 15 h (by omega)]
 have : ∀ k : Fin 256, k.1 &&& 15 = k.1 % 16 := by decide +kernel
 rw [this ⟨x, h⟩]
theorem and32 (x : Nat) (h : x < 256) : bits .and .u8 (x : Int) 32 = ((x / 32 % 2 * 32 : Nat) : Int) := by
 rw [show (32 : Int) = ((32 : Nat) : Int) from rfl, u8_and_nat x 32 h (by omega)]
 have : ∀ k : Fin 256, k.1 &&& 32 = k.1 / 32 % 2 * 32 := by decide +kernel
 rw [this ⟨x, h⟩]
theorem or256 (x y : Nat) (hx : x < 256) (hy : y < 256) : bits .or .i64 ((x : Int) * 256) (y : Int) = ((256 * x + y : Nat) : Int) := by
 rw [show ((x : Int) * 256) = ((256 * x : Nat) : Int) from by omega, zeX _ _ (by omega) (by omega)]
 have h := Nat.two_pow_add_eq_or_of_lt (i := 8) (b := y) (by omega) x
 rw [show (2 : Nat) ^ 8 = 256 from rfl] at h
 rw [h]
def chk2 (x y : Nat) : Int := if x % 16 ≠ 8 ∨ 7 < x / 16 ∨ y / 32 % 2 ≠ 0 ∨ (256 * x + y) % 31 ≠ 0 then 11 else 0
def ChkEnd (w : World) (v : Int) (e : Ending) (w' : World) : Prop := e = .returned (.int .i64 v) ∧ ∃ q, w' = w.drewN q
theorem check_two {w : World} {b off n cap x y : Nat} (hn : 2 ≤ n) (_hc : n ≤ cap) (_hcm : cap ≤ 9223372036854775807) (z0 : w.cell? ⟨b, off, none⟩ = some (.int .u8 x)) (z1 : w.cell? ⟨b, off + 1, none⟩ = some (.int .u8 y)) (hx : x < 256) (hy : y < 256) :
   Calls Tryz.prog 21 #[.slice (some ⟨b, off, none⟩) n cap] w (ChkEnd w (chk2 x y)) := by
 have d0 : decide ((n : Int) < 2) = false := decide_eq_false (by omega)
 have h0 : (0 : Int) < (n : Int) := by omega
 have h1 : (1 : Int) < (n : Int) := by omega
 have hA := and15 x hx
 have hB := and32 y hy
 have hC := or256 x y hx hy
 by_cases c1 : x % 16 = 8
 case neg =>
   have HV := Lib.hid (show chk2 x y = 11 from by unfold chk2; rw [if_pos (.inl c1)])
   have e1 : ((x : Int) % 16 != 8) = true := by rw [bne_iff_ne]; omega
   clear hA hB hC
   go_enter Tryz.func21, Tryz.ntmps21
   go_wp2_with fail
   go_quiet (fail)
   go_wp2_with fail
   go_ret
   exact ⟨zaI HV.out.symm, _, rfl⟩
 have e1 : ((x : Int) % 16 != 8) = false := by rw [bne_eq_false_iff_eq]; omega
 by_cases c2 : 7 < x / 16
 · have HV := Lib.hid (show chk2 x y = 11 from by unfold chk2; rw [if_pos (.inr (.inl c2))])
   have e2 : decide ((x : Int) / 16 > 7) = true := decide_eq_true (by omega)
   clear hA hB hC
   go_enter Tryz.func21, Tryz.ntmps21
   go_wp2_with fail
   go_quiet (fail)
   go_wp2_with fail
   go_ret
   exact ⟨zaI HV.out.symm, _, rfl⟩
 have e2 : decide ((x : Int) / 16 > 7) = false := decide_eq_false (by omega)
 by_cases c3 : y / 32 % 2 = 0
 case neg =>
   have HV := Lib.hid (show chk2 x y = 11 from by unfold chk2; rw [if_pos (.inr (.inr (.inl c3)))])
   have e3 : (bits .and .u8 (y : Int) 32 != 0) = true := by rw [hB, bne_iff_ne]; omega
   clear hA hB hC
   go_enter Tryz.func21, Tryz.ntmps21
   go_wp2_with fail
   go_quiet (fail)
   go_wp2_with fail
   go_ret
   exact ⟨zaI HV.out.symm, _, rfl⟩
 have e3 : (bits .and .u8 (y : Int) 32 != 0) = false := by rw [hB, bne_eq_false_iff_eq]; omega
 by_cases c4 : (256 * x + y) % 31 = 0
 · have HV := Lib.hid (show chk2 x y = 0 from by unfold chk2; rw [if_neg (by omega)])
   have e4 : ((bits .or .i64 ((x : Int) * 256) (y : Int)).tmod 31 != 0) = false := by rw [hC, Int.tmod_eq_emod_of_nonneg (by omega), bne_eq_false_iff_eq]; omega
   clear hA hB hC
   go_enter Tryz.func21, Tryz.ntmps21
   go_wp2_with fail
   go_quiet (fail)
   go_wp2_with fail
   go_ret
   exact ⟨zaI HV.out.symm, _, rfl⟩
 · have HV := Lib.hid (show chk2 x y = 11 from by unfold chk2; rw [if_pos (.inr (.inr (.inr c4)))])
   have e4 : ((bits .or .i64 ((x : Int) * 256) (y : Int)).tmod 31 != 0) = true := by rw [hC, Int.tmod_eq_emod_of_nonneg (by omega), bne_iff_ne]; omega
   clear hA hB hC
   go_enter Tryz.func21, Tryz.ntmps21
   go_wp2_with fail
   go_quiet (fail)
   go_wp2_with fail
   go_ret
   exact ⟨zaI HV.out.symm, _, rfl⟩
theorem chkV_two {b : List UInt8} (h : 2 ≤ b.length) : chkV b = chk2 (b.getD 0 0).toNat (b.getD 1 0).toNat := by
 unfold chkV chk2
 rw [if_neg (by omega)]
theorem check_any {w : World} {a : Option Addr} {n cap : Nat} {b : List UInt8} (hr : Row w 1 a n cap (b.map fun x => .int .u8 x.toNat)) : Calls Tryz.prog 21 #[.slice a n cap] w (ChkEnd w (chkV b)) := by
 have hl : b.length = n := by have := hr.1; simpa using this
 have hcapm := hr.2.2.1
 have hcapn := hr.2.1
 unfold maxLen at hcapm
 by_cases h2 : n < 2
 · have HV := Lib.hid (show chkV b = 10 from by unfold chkV; rw [if_pos (by omega)])
   have d0 : decide ((n : Int) < 2) = true := decide_eq_true (by omega)
   clear hr
   go_enter Tryz.func21, Tryz.ntmps21
   go_wp2
   go_ret
   exact ⟨zaI HV.out.symm, 0, rfl⟩
 · obtain ⟨bb, off, rfl, -, hcc⟩ := hr.at 0 0 (by omega)
   rw [chkV_two (by omega)]
   exact check_two (by omega) hcapn (by omega) (hcc 0 (by omega)) (hcc 1 (by omega)) (UInt8.toNat_lt _) (UInt8.toNat_lt _)
end Go.Proofs.YtkikhmdpcanidaaGreat
namespace Go.Proofs.YtkikhmdpcanidaaGreat
open Go.RowKit Go.Sort
def rC (a : Option Addr) (L c at_ : Nat) (e : Int) (v : Value) (most : Nat) : Array Value := #[.slice a L c, .int .i64 at_, .int .i64 e, v, .int .i64 most]
def rE (a : Option Addr) (L c at_ : Nat) (e : Int) (v : Value) (most : Nat) (i : Nat) : Value := if i = 0 then .slice a L c else if i = 1 then .int .i64 at_ else if i = 2 then .int .i64 e else if i = 3 then v else .int .i64 most
def bitR (bs : List UInt8) : List Value := (bl bs false 0 (8 * bs.length)).map Value.bool
structure IsR (w : World) (U : Nat → Prop) (rb : Nat) (a : Option Addr) (c : Nat) (bs : List UInt8) (most : Nat) (s : IS) : Prop where
 ex : ∃ v, w.heap[rb]? = some (.cells (rC a (8 * bs.length) c s.at_ s.e v most) 66 (0, 0)) ∧ w.ownsRow (rb + 1) 5 1 v s.out.length (s.out.map u8C) ∧ ∀ b, v.ownBlock = some b → U b
 row : Row w 1 a (8 * bs.length) c (bitR bs)
 lt : ∀ x, a = some x → x.block < rb
 le : s.at_ ≤ 8 * bs.length
 own : U rb
 ult : ∀ b, U b → rb ≤ b ∧ b < w.heap.size
def zfp (w : World) (U : Nat → Prop) (rb : Nat) (a : Option Addr) (c : Nat) (bs : List UInt8) (most : Nat) (s : IS) (w' : World) : Prop := ∃ U', IsR w' U' rb a c bs most s ∧ zaa U w w' ∧ ∀ b, U' b → U b ∨ w.heap.size ≤ b
section
variable {w w' : World} {U : Nat → Prop} {rb : Nat} {a : Option Addr} {c : Nat} {bs : List UInt8} {most : Nat} {s : IS}
theorem IsR.blt (h : IsR w U rb a c bs most s) {b : Nat} (hb : U b) : b < w.heap.size := (h.ult b hb).2
theorem IsR.keeps {V : Nat → Prop} (h : IsR w U rb a c bs most s) (hk : zaa V w w') (hV : ∀ b, b < rb ∨ U b → ¬ V b) : IsR w' U rb a c bs most s := by
 obtain ⟨⟨v, h1, h2, h3⟩, h4, h5, h6, h7, h8⟩ := h
 exact ⟨⟨v, hk.obj h1 (hV rb (.inr h7)), zan h2 hk (fun b hb => hV b (.inr (h3 b hb))), h3⟩, h4.keeps hk (fun x hx => hV _ (.inl (h5 x hx))), h5, h6, h7, fun b hb => ⟨(h8 b hb).1, Nat.lt_of_lt_of_le (h8 b hb).2 hk.size⟩⟩
theorem IsR.mono (h : IsR w U rb a c bs most s) (hb : Below w.heap.size w w') : IsR w' U rb a c bs most s :=
 h.keeps (zaa.of_below (S := fun b => w.heap.size ≤ b) hb (fun _ h => h)) (fun b hb2 hn => by
   have := h.blt h.own
   rcases hb2 with h1 | h1
   · omega
   · have := h.blt h1; omega)
theorem IsR.cells (h : IsR w U rb a c bs most s) :
   w.cell? ⟨rb, 0, none⟩ = some (.slice a (8 * bs.length) c) ∧ w.cell? ⟨rb, 1, none⟩ = some (.int .i64 s.at_) ∧ w.cell? ⟨rb, 2, none⟩ = some (.int .i64 s.e) ∧ w.cell? ⟨rb, 4, none⟩ = some (.int .i64 most) ∧ w.frozen? ⟨rb, 1, none⟩ = false ∧ w.frozen? ⟨rb, 2, none⟩ = false ∧ w.frozen? ⟨rb, 3, none⟩ = false := by
 obtain ⟨⟨v, h1, -⟩, -⟩ := h
 refine ⟨?_, ?_, ?_, ?_, frozen_of_row w rb 1 _ _ h1, frozen_of_row w rb 2 _ _ h1, frozen_of_row w rb 3 _ _ h1⟩ <;> (rw [cell_of_row w rb _ _ _ _ h1]; rfl)
theorem IsR.drewN (h : IsR w U rb a c bs most s) (q : Nat) : IsR (w.drewN q) U rb a c bs most s ∧ zaa U w (w.drewN q) :=
 ⟨h.keeps ((zaa.refl (fun _ => False) w).drewN q) (fun _ _ h => h), (zaa.refl U w).drewN q⟩
theorem IsR.setE (h : IsR w U rb a c bs most s) (e : Int) : IsR (w.setCell ⟨rb, 2, none⟩ (.int .i64 e)) U rb a c bs most { s with e := e } ∧ zaa U w (w.setCell ⟨rb, 2, none⟩ (.int .i64 e)) := by
 have hk : zaa (fun b => b = rb) w (w.setCell ⟨rb, 2, none⟩ (.int .i64 e)) := zaa.setCell (S := fun b => b = rb) (zaa.refl _ w) (a := ⟨rb, 2, none⟩) (.inl rfl) _
 obtain ⟨⟨v, h1, h2, h3⟩, h4, h5, h6, h7, h8⟩ := h
 refine ⟨⟨⟨v, ?_, zan h2 hk (fun b hb e => by have := (h2.lt b hb).1; omega), h3⟩, h4.keeps hk (fun x hx e => by have := h5 x hx; omega), h5, h6, h7, fun b hb => ⟨(h8 b hb).1, Nat.lt_of_lt_of_le (h8 b hb).2 hk.size⟩⟩, hk.weaken (fun b hb => hb ▸ h7)⟩
 have := zaG (w := w) (b := rb) (n := 5) (enc := rE a (8 * bs.length) c s.at_ s.e v most) (t := 66) h1 2 (.int .i64 e)
 exact this
theorem zfp.trans {w1 w2 : World} {U1 : Nat → Prop} (hk : zaa U w w1) (hs : ∀ b, U1 b → U b ∨ w.heap.size ≤ b) (h2 : zfp w1 U1 rb a c bs most s w2) : zfp w U rb a c bs most s w2 := by
 obtain ⟨U2, h3, h4, h5⟩ := h2
 have := hk.size
 exact ⟨U2, h3, hk.trans h4 hs, fun b hb => (h5 b hb).elim (hs b) (fun h => .inr (by omega))⟩
end
end Go.Proofs.YtkikhmdpcanidaaGreat
namespace Go.Proofs.YtkikhmdpcanidaaGreat
open Go.RowKit Go.Sort
theorem IsR.putOut {w w1 : World} {U : Nat → Prop} {rb : Nat} {a : Option Addr} {c : Nat} {bs : List UInt8} {most : Nat} {s : IS} {v v' : Value} {o : Obj} {x : UInt8} (h : IsR w U rb a c bs most s) (hv : w.heap[rb]? = some (.cells (rC a (8 * bs.length) c s.at_ s.e v most) 66 (0, 0))) (hO : w.ownsRow (rb + 1) 5 1 v s.out.length (s.out.map u8C)) (hU : ∀ b, v.ownBlock = some b → U b)
   (hO' : w1.ownsRow (rb + 1) 5 1 v' (s.out.length + 1) (s.out.map u8C ++ [u8C x])) (hg : (w.alloc o).grownBy w1 v.ownBlock) (hN : zfA (w.alloc o) v v') :
   zfp w U rb a c bs most { s with out := s.out ++ [x] } (w1.setCell ⟨rb, 3, none⟩ v') := by
 have hk : zaa (fun b => v.ownBlock = some b) w w1 := ((zaa.refl _ w).alloc o).grown hg (fun k hk => .inl hk)
 have hk2 : zaa (fun b => b = rb) w1 (w1.setCell ⟨rb, 3, none⟩ v') := zaa.setCell (S := fun b => b = rb) (zaa.refl _ w1) (a := ⟨rb, 3, none⟩) (.inl rfl) _
 have hsz := hk.size
 have hult := h.ult
 have hrb := h.blt h.own
 have hrb1 : w1.heap[rb]? = some (.cells (rC a (8 * bs.length) c s.at_ s.e v most) 66 (0, 0)) := hk.obj hv (fun e => by have := (hO.lt rb e).1; omega)
 have hkU : zaa U w w1 := hk.weaken hU
 refine ⟨fun b => U b ∨ v'.ownBlock = some b, ⟨⟨v', ?_, ?_, fun b hb => .inr hb⟩, (h.row.keeps hk (fun y hy e => by have := (hO.lt _ e).1; have := h.lt y hy; omega)).keeps hk2 (fun y hy e => by have := h.lt y hy; omega), h.lt, h.le, .inl h.own, fun b hb => ?_⟩, hkU.trans hk2 (fun b hb => .inl (hb ▸ h.own)), fun b hb => ?_⟩
 · have := zaG (w := w1) (b := rb) (n := 5) (enc := rE a (8 * bs.length) c s.at_ s.e v most) (t := 66) hrb1 3 v'
   exact this
 · have h3 := zan hO' hk2 (fun b hb e => by have := (hO'.lt b hb).1; omega)
   show World.ownsRow _ _ _ _ v' (s.out ++ [x]).length ((s.out ++ [x]).map u8C)
   rw [List.length_append, List.map_append]
   exact h3
 · have hs2 := hk2.size
   rcases hb with hb | hb
   · have := hult b hb
     exact ⟨this.1, by omega⟩
   · have := hO'.lt b hb
     exact ⟨by omega, by omega⟩
 · rcases hb with hb | hb
   · exact .inl hb
   · rcases hN b hb with e | e
     · exact .inl (hU b e)
     · rw [zac] at e; exact .inr (by omega)
theorem IsR.next {w w' : World} {U : Nat → Prop} {rb : Nat} {a : Option Addr} {c : Nat} {bs : List UInt8} {most : Nat} {s : IS} (h : IsR w' U rb a c bs most s ∧ zaa U w w') : zfp w U rb a c bs most s w' := ⟨U, h.1, h.2, fun _ h => .inl h⟩
structure CdR (w : World) (U : Nat → Prop) (al : Option Addr) (n cap : Nat) (vc : Value) (l : List Int) : Prop where
 room : 0 ≤ zaz l
 row : Row w 1 al n cap (l.map (Value.int .i64))
 cds : ∃ aC cC, vc = .slice aC n cC ∧ Row w 1 aC n cC (fl n (cdV l n)) ∧ ∀ x, aC = some x → x.block < w.heap.size ∧ ¬ U x.block
 at_ : ∀ x, al = some x → x.block < w.heap.size ∧ ¬ U x.block
theorem CdR.keeps {w w' : World} {U U' : Nat → Prop} {al : Option Addr} {n cap : Nat} {vc : Value} {l : List Int} (h : CdR w U al n cap vc l) (hk : zaa U w w') (hU : ∀ b, U' b → U b ∨ w.heap.size ≤ b) : CdR w' U' al n cap vc l := by
 obtain ⟨h1, h2, ⟨aC, cC, h3, h4, h5⟩, h6⟩ := h
 have hs := hk.size
 have hh : ∀ b, b < w.heap.size ∧ ¬ U b → b < w'.heap.size ∧ ¬ U' b := fun b hb => ⟨by omega, fun hu => (hU b hu).elim hb.2 (fun h => by omega)⟩
 exact ⟨h1, h2.keeps hk (fun x hx => (h6 x hx).2), ⟨aC, cC, h3, h4.keeps hk (fun x hx => (h5 x hx).2), fun x hx => hh _ (h5 x hx)⟩, fun x hx => hh _ (h6 x hx)⟩
structure LrAt (w wr : World) (U : Nat → Prop) (rb : Nat) (a : Option Addr) (c : Nat) (bs : List UInt8) (most : Nat) (al : Option Addr) (nl cl : Nat) (vc : Value) (l : List Int) (n : Nat) (vo : Value) (out : List Int) (s : IS) : Prop where
 st : IsR wr U rb a c bs most s
 k : zaa U w wr
 t : s.e = 0 → CdR wr U al nl cl vc l ∧ (∀ x, al = some x → x.block < w.heap.size) ∧ ∀ aC nC cC, vc = .slice aC nC cC → ∀ x, aC = some x → x.block < w.heap.size
 row : wr.ownsRow w.heap.size 3 1 vo out.length (iV out)
 len : out.length ≤ n
 o : ∀ b, U b → b < w.heap.size
theorem LrAt.next {w wr w' : World} {U : Nat → Prop} {rb : Nat} {a : Option Addr} {c : Nat} {bs : List UInt8} {most : Nat} {al : Option Addr} {nl cl : Nat} {vc : Value} {l : List Int} {n : Nat} {vo : Value} {out : List Int} {s s2 : IS} (h : LrAt w wr U rb a c bs most al nl cl vc l n vo out s) (h1 : IsR w' U rb a c bs most s2) (h2 : zaa U wr w') (he : s2.e = 0 → s.e = 0) : LrAt w w' U rb a c bs most al nl cl vc l n vo out s2 :=
 ⟨h1, h.k.trans h2 (fun _ hb => .inl hb), (fun h0 => ⟨(h.t (he h0)).1.keeps h2 (fun _ hb => .inl hb), (h.t (he h0)).2⟩), zan h.row h2 (fun b hb hu => by have := (h.row.lt b hb).1; have := h.o b hu; omega), h.len, h.o⟩
theorem LrAt.app {w wr w5 : World} {U : Nat → Prop} {rb : Nat} {a : Option Addr} {c : Nat} {bs : List UInt8} {most : Nat} {al : Option Addr} {nl cl : Nat} {vc : Value} {l : List Int} {n : Nat} {vo v' : Value} {out : List Int} {s : IS} {o : Obj} {x : Int} (h : LrAt w wr U rb a c bs most al nl cl vc l n vo out s) (hO : w5.ownsRow w.heap.size 3 1 v' (out.length + 1) (iV out ++ [.int .i64 x])) (hg : (wr.alloc o).grownBy w5 vo.ownBlock) (hl : out.length + 1 ≤ n) :
   LrAt w w5 U rb a c bs most al nl cl vc l n v' (out ++ [x]) s := by
 have hk : zaa (fun b => vo.ownBlock = some b) wr w5 := ((zaa.refl _ wr).alloc o).grown hg (fun k hk => .inl hk)
 have hlo : ∀ b, vo.ownBlock = some b → w.heap.size ≤ b := fun b hb => (h.row.lt b hb).1
 have hr := h.o rb h.st.own
 have hsz := hk.size
 refine ⟨h.st.keeps hk (fun b hb e => ?_), h.k.trans hk (fun b hb => .inr (hlo b hb)), fun h0 => ?_, ?_, by simp; omega, h.o⟩
 · have := hlo b e
   rcases hb with hb | hb
   · omega
   · have := h.o b hb; omega
 · obtain ⟨⟨t1, t2, ⟨aC, cC, t3, t4, t5⟩, t6⟩, t7, t8⟩ := h.t h0
   exact ⟨⟨t1, t2.keeps hk (fun y hy e => by have := hlo _ e; have := t7 y hy; omega), ⟨aC, cC, t3, t4.keeps hk (fun y hy e => by have := hlo _ e; have := t8 _ _ _ t3 y hy; omega), fun y hy => ⟨by have := (t5 y hy).1; omega, (t5 y hy).2⟩⟩, fun y hy => ⟨by have := (t6 y hy).1; omega, (t6 y hy).2⟩⟩, t7, t8⟩
 · rw [List.length_append, iV, List.map_append]
   exact hO
set_option maxRecDepth 20000 in
theorem MO.code (bs : List UInt8) (most : Nat) (l d : List Int) (s : IS) : MO (zao bs l s).2 (za8 bs most l d s).2 := by
 unfold za8
 simp only
 split
 · exact MO.refl _
 · split
   · exact MO.put _ _ _
   · exact (((((MO.ifF _ _).trans (MO.num bs _ _)).trans (MO.sym bs d _)).trans (MO.ifF _ _)).trans (MO.num bs _ _)).trans (MO.rep _ _ _ _)
structure RMid (w wr : World) (U U1 : Nat → Prop) (rb : Nat) (a : Option Addr) (c : Nat) (bs : List UInt8) (most : Nat) (al : Option Addr) (nl cl : Nat) (v1 : Value) (l : List Int) (ad : Option Addr) (nd cd : Nat) (v2 : Value) (d : List Int) (s : IS) : Prop where
 st : IsR wr U1 rb a c bs most s
 k : zaa U w wr
 u : ∀ b, U1 b → U b ∨ w.heap.size ≤ b
 t : s.e = 0 → CdR wr U1 al nl cl v1 l
 d : s.e = 0 → CdR wr U1 ad nd cd v2 d
 o : s.out.length ≤ most
theorem RMid.next {w wr w' : World} {U U1 : Nat → Prop} {rb : Nat} {a : Option Addr} {c : Nat} {bs : List UInt8} {most : Nat} {al : Option Addr} {nl cl : Nat} {v1 : Value} {l : List Int} {ad : Option Addr} {nd cd : Nat} {v2 : Value} {d : List Int} {s s2 : IS} (h : RMid w wr U U1 rb a c bs most al nl cl v1 l ad nd cd v2 d s) (h1 : IsR w' U1 rb a c bs most s2) (h2 : zaa U1 wr w') (he : s2.e = 0 → s.e = 0) (ho : s2.out.length ≤ most) : RMid w w' U U1 rb a c bs most al nl cl v1 l ad nd cd v2 d s2 :=
 ⟨h1, h.k.trans h2 h.u, h.u, fun h0 => (h.t (he h0)).keeps h2 (fun _ hb => .inl hb), fun h0 => (h.d (he h0)).keeps h2 (fun _ hb => .inl hb), ho⟩
theorem RMid.nextU {w wr w' : World} {U U1 : Nat → Prop} {rb : Nat} {a : Option Addr} {c : Nat} {bs : List UInt8} {most : Nat} {al : Option Addr} {nl cl : Nat} {v1 : Value} {l : List Int} {ad : Option Addr} {nd cd : Nat} {v2 : Value} {d : List Int} {s s2 : IS} (h : RMid w wr U U1 rb a c bs most al nl cl v1 l ad nd cd v2 d s) (h1 : zfp wr U1 rb a c bs most s2 w') (he : s2.e = 0 → s.e = 0) (ho : s2.out.length ≤ most) : ∃ U2, RMid w w' U U2 rb a c bs most al nl cl v1 l ad nd cd v2 d s2 := by
 obtain ⟨U2, g1, g2, g3⟩ := h1
 have := h.k.size
 exact ⟨U2, g1, h.k.trans g2 h.u, fun b hb => (g3 b hb).elim (h.u b) (fun h => .inr (by omega)), fun h0 => (h.t (he h0)).keeps g2 g3, fun h0 => (h.d (he h0)).keeps g2 g3, ho⟩
def RrAt (w wr : World) (U : Nat → Prop) (rb : Nat) (a : Option Addr) (c : Nat) (bs : List UInt8) (most : Nat) (s : IS) (far len j : Nat) : Prop :=
 ∃ U1 s1, IsR wr U1 rb a c bs most s1 ∧ zaa U w wr ∧ (∀ b, U1 b → U b ∨ w.heap.size ≤ b) ∧ s1.e = s.e ∧ s1.at_ = s.at_ ∧ s1.out.length = s.out.length + j ∧ repL far (len - j) s1.out = repL far len s.out
theorem RrAt.fin {w wr : World} {U : Nat → Prop} {rb : Nat} {a : Option Addr} {c : Nat} {bs : List UInt8} {most : Nat} {s : IS} {far len : Nat} (h : RrAt w wr U rb a c bs most s far len len) : zfp w U rb a c bs most { s with out := repL far len s.out } wr := by
 obtain ⟨U1, s1, h1, h2, h3, h4, h5, h6, h7⟩ := h
 rw [Nat.sub_self] at h7
 have : s1 = { s with out := repL far len s.out } := by
   obtain ⟨a, e, o⟩ := s1
   simp only at h4 h5
   simp only [repL] at h7
   rw [h4, h5, h7]
 rw [← this]
 exact ⟨U1, h1, h2, h3⟩
theorem RrAt.next {w wr w' : World} {U U1 : Nat → Prop} {rb : Nat} {a : Option Addr} {c : Nat} {bs : List UInt8} {most : Nat} {s s1 : IS} {far len j : Nat} (h2 : zaa U w wr) (h3 : ∀ b, U1 b → U b ∨ w.heap.size ≤ b) (h4 : s1.e = s.e) (h5 : s1.at_ = s.at_) (h6 : s1.out.length = s.out.length + j) (h7 : repL far (len - j) s1.out = repL far len s.out) (hj : j < len)
   (hn : zfp wr U1 rb a c bs most { s1 with out := s1.out ++ [s1.out.getD (s1.out.length - far) 0] } w') : RrAt w w' U rb a c bs most s far len (j + 1) := by
 obtain ⟨U2, g1, g2, g3⟩ := zfp.trans h2 h3 hn
 refine ⟨U2, _, g1, g2, g3, h4, h5, by simp; omega, ?_⟩
 rw [← h7, show len - j = (len - (j + 1)) + 1 by omega]
 rfl
structure OfR (w wr : World) (U : Nat → Prop) (rb g : Nat) (a : Option Addr) (c : Nat) (bs : List UInt8) (most : Nat) (V : List Int × IS) : Prop where
 st : IsR wr U rb a c bs most V.2
 k : zaa U w wr
 row : wr.heap[g]? = some (.cells (fl 19 fun i => .int .i64 (V.1.getD i 0)).toArray 3 (0, 0))
 g : ∀ b, U b → b < g
theorem OfR.num {w wr w' : World} {U : Nat → Prop} {rb g : Nat} {a : Option Addr} {c : Nat} {bs : List UInt8} {most : Nat} {V : List Int × IS} {s : IS} (h : OfR w wr U rb g a c bs most V) (h1 : IsR w' U rb a c bs most s) (h2 : zaa U wr w') : OfR w w' U rb g a c bs most (V.1, s) :=
 ⟨h1, h.k.trans h2 (fun _ hb => .inl hb), h2.obj h.row (fun hu => by have := h.g g hu; omega), h.g⟩
theorem OfR.mono {w wr w' : World} {U : Nat → Prop} {rb g : Nat} {a : Option Addr} {c : Nat} {bs : List UInt8} {most : Nat} {V : List Int × IS} (h : OfR w wr U rb g a c bs most V) (hb : Below wr.heap.size wr w') : OfR w w' U rb g a c bs most V :=
 h.num (h.st.mono hb) (zaa.any hb)
theorem OfR.set {w wr : World} {U : Nat → Prop} {rb g : Nat} {a : Option Addr} {c : Nat} {bs : List UInt8} {most : Nat} {V : List Int × IS} (h : OfR w wr U rb g a c bs most V) (hl : V.1.length = 19) (hg : w.heap.size ≤ g) (q : Nat) (x : Int) : OfR w (wr.setCell ⟨g, q, none⟩ (.int .i64 x)) U rb g a c bs most (V.1.set q x, V.2) := by
 have hk : zaa (fun b => b = g) wr (wr.setCell ⟨g, q, none⟩ (.int .i64 x)) := zaa.setCell (S := fun b => b = g) (zaa.refl _ wr) (a := ⟨g, q, none⟩) (.inl rfl) _
 refine ⟨h.st.keeps hk (fun b hb e => ?_), h.k.trans hk (fun b hb => .inr (hb ▸ hg)), ?_, h.g⟩
 · subst e
   rcases hb with hb | hb
   · have := h.g rb h.st.own; omega
   · have := h.g b hb; omega
 · rw [zaG h.row q (.int .i64 x)]
   exact congrArg (fun x => some (Obj.cells (List.toArray x) _ _)) (zam fun i hi => by
     by_cases hiq : i = q
     · subst hiq; simp [List.getD, hl, hi]
     · simp [hiq, List.getD, Ne.symm hiq])
theorem MO.coded {bs : List UInt8} {most : Nat} {l d : List Int} : ∀ g s s', zaN bs most l d g s = some s' → MO s s'
 | 0, _, _, h => by cases h
 | g + 1, s, s', h => by
   unfold zaN at h
   split at h
   · exact ((MO.sym _ _ _).trans (MO.code _ _ _ _ _)).trans (MO.coded g _ _ h)
   · cases h; exact (MO.sym _ _ _).trans (MO.code _ _ _ _ _)
theorem MO.lensC {bs : List UInt8} {l out : List Int} {s : IS} {k : Nat} {v : Int} {s2 : IS} (h : zcj bs l out s = some (k, v, s2)) : MO s s2 := by
 have h0 := MO.sym bs l s
 unfold _root_.Go.Proofs.YtkikhmdpcanidaaGreat.zcj at h
 split at h
 · split at h
   · cases h
   · cases h; exact h0.trans (MO.num _ _ _)
 · split at h
   · cases h; exact h0.trans (MO.num _ _ _)
   · split at h
     · cases h; exact h0.trans (MO.num _ _ _)
     · cases h; exact h0
theorem MO.lens {bs : List UInt8} {l : List Int} {n : Nat} : ∀ g out s V, zbf bs l n g out s = some V → MO s V.2
 | 0, _, _, _, h => by cases h
 | g + 1, out, s, V, h => by
   unfold zbf at h
   split at h
   · cases h; exact MO.refl _
   · split at h
     · exact ((MO.sym _ _ _).trans (MO.fail _ (by decide) _)).trans (MO.lens g _ _ V h)
     · rename_i hc
       split at h
       · exact ((MO.lensC hc).trans (MO.fail _ (by decide) _)).trans (MO.lens g _ _ V h)
       · exact (MO.lensC hc).trans (MO.lens g _ _ V h)
theorem MO.dyn (bs : List UInt8) (s : IS) : MO s (dynS bs s) := by
 have h : MO s (dyn3 bs s).2 := ((MO.num bs 5 s).trans (MO.num bs 5 _)).trans (MO.num bs 4 _)
 unfold dynS
 split
 · exact h.trans (MO.fail _ (by decide) _)
 · exact h
theorem MO.dynL {bs : List UInt8} {g : Nat} {s : IS} {V : List Int × IS} (h : dynL bs g s = some V) : MO s V.2 :=
 (((MO.dyn bs s).trans (MO.of bs _ _)).trans (MO.tab _ _)).trans (MO.lens _ _ _ _ h)
theorem MO.stored (bs : List UInt8) (most : Nat) (s : IS) : MO s (za6 bs most s) := by
 have ma : MO s (alV s) := fun h => ⟨h, by unfold alV; simp only; omega⟩
 unfold za6
 refine MO.trans ?_ (MO.sto _ _ _ _)
 split
 · exact (ma.trans (MO.num _ _ _)).trans (MO.num _ _ _)
 · exact ((ma.trans (MO.num _ _ _)).trans (MO.num _ _ _)).trans (MO.fail _ (by decide) _)
theorem MO.kind {bs : List UInt8} {most g kind : Nat} {s s' : IS} (h : zbB bs most g kind s = some s') : MO s s' := by
 unfold zbB at h
 split at h
 · cases h; exact MO.refl _
 · split at h
   · cases h; exact MO.stored _ _ _
   · split at h
     · exact MO.coded _ _ _ h
     · split at h
       · unfold dynB at h
         split at h
         · cases h
         · rename_i V hV
           exact ((MO.dynL hV).trans (MO.tabs _ _)).trans (MO.coded _ _ _ h)
       · cases h; exact MO.fail _ (by decide) _
end Go.Proofs.YtkikhmdpcanidaaGreat
namespace Go.Proofs.YtkikhmdpcanidaaGreat
open Go.RowKit
theorem byteB_one (x : UInt8) : zbj [x] = putL x.toNat false 8 8 := by simp [zbj]
theorem zeM (b : List UInt8) {i : Nat} (h : i < b.length) : zbj (b.take (i + 1)) = zbj (b.take i) ++ putL (b.getD i 0).toNat false 8 8 := by
 rw [List.take_add_one, zef, List.getElem?_eq_getElem h, List.getD_eq_getElem?_getD, List.getElem?_eq_getElem h, Option.getD_some, ← byteB_one]; rfl
theorem pad_is (n : Nat) : (n + 3 + 7) / 8 * 8 - (n + 3) = (n + 10) / 8 * 8 - (n + 3) := by omega
def boolN : Value → Nat
 | .bool true => 1
 | _ => 0
theorem stored_any {w : World} {S : Nat → Prop} {wb cap : Nat} {a : Option Addr} {B : List Bool} {b : List UInt8} (last : Bool) (h : WrQ w S wb false B) (hr : Row w 1 a b.length cap (b.map fun x => .int .u8 x.toNat)) (ha : ∀ x, a = some x → ¬ S x.block) (hb : b.length ≤ 65535) (hlt : B.length < 137438953472) :
   Calls Tryz.prog 52 #[wrA wb, .slice a b.length cap, .bool last] w fun e w' => e = .returned (.tuple #[]) ∧ zab w S wb false (B ++ stoB B.length last b) w' := by
 have hc : (w.alloc (.cells #[.pointer (some ⟨wb, 0, none⟩)] 48)).cell? ⟨w.heap.size, 0, none⟩ = some (.pointer (some ⟨wb, 0, none⟩)) := by
   rw [cell_of_row _ _ 0 _ _ _ (heap_alloc_new w _)]; rfl
 have hno : ¬ S w.heap.size := h.out
 have HN := Lib.hid (zab.refl (h.alloc (.cells #[.pointer (some ⟨wb, 0, none⟩)] 48)))
 have HE := Lib.hid (fun (B' : List Bool) (w' : World) (hn : zab (w.alloc (.cells #[.pointer (some ⟨wb, 0, none⟩)] 48)) S wb false B' w') => zab.trans (S := S) ((zaa.refl S w).alloc (.cells #[.pointer (some ⟨wb, 0, none⟩)] 48)) (fun b hb => .inl hb) hn)
 have HX := Lib.hid hno
 have HR := Lib.hid (hr.mono (zai w (.cells #[.pointer (some ⟨wb, 0, none⟩)] 48)))
 have HA := Lib.hid ha
 have hcap := hr.2.1
 have hcapm := hr.2.2.1
 unfold maxLen at hcapm
 obtain ⟨n, hn⟩ : ∃ n, n = b.length := ⟨_, rfl⟩
 rw [← hn] at hcap hb ⊢
 have HL := Lib.hid hn
 clear h hno hr ha hn
 unfold wrA
 have hmin : min (n : Int) 65535 = (n : Int) := by omega
 obtain ⟨lb, hlb⟩ : ∃ lb, lb = last := ⟨_, rfl⟩
 have hgoal : stoB B.length last b = stoB B.length lb b := by rw [hlb]
 rw [hgoal]
 have HLB := Lib.hid hlb
 clear hgoal hlb
 have hw0 : w.heap.size + 1 = (w.alloc (.cells #[.pointer (some ⟨wb, 0, none⟩)] 48)).heap.size := (zac _ _).symm
 have H1 := Lib.hid (fun (W : World) (B' : List Bool) (hn : zab (w.alloc (.cells #[.pointer (some ⟨wb, 0, none⟩)] 48)) S wb false B' W) => hn.cell hc HX.out)
 have H2 := Lib.hid (fun (W : World) (B' : List Bool) (hn : zab (w.alloc (.cells #[.pointer (some ⟨wb, 0, none⟩)] 48)) S wb false B' W) => show Row W 1 a n cap (b.map fun x => .int .u8 x.toNat) from by
   obtain ⟨S1, -, k1, -⟩ := hn
   rw [HL.out]
   exact HR.out.keeps k1 HA.out)
 clear hc
 cases last
 case false =>
   go_enter Tryz.func52, Tryz.ntmps52
   go_wp2_with fail
   generalize w.alloc (.cells #[.pointer (some ⟨wb, 0, none⟩)] 48) = w0 at HN HE HR hw0 H1 H2 ⊢
   go_loopw [1, 6] (fun v1 v6 wr => (v6 = .bool true ∧ v1 = .slice a n cap ∧ Hid (zab w0 S wb false B wr)) ∨ (v6 = .bool false ∧ Hid (zab w0 S wb false (B ++ stoB B.length lb b) wr))) (fun _ v6 _ => boolN v6)
   case atStart => exact .inl ⟨rfl, rfl, HN⟩
   case round =>
     rcases hrel with ⟨rfl, rfl, HW⟩ | ⟨rfl, HW⟩
     case inr =>
       go_wp2_with fail
       go_end0
       exact ⟨rfl, HE.out _ _ HW.out⟩
     have c1 := H1.out _ _ HW.out
     have c2 := H2.out _ _ HW.out
     go_upto_region 5 with fail
     go_cut [1] from 11 to 56 (fun v1 wx => (∃ a', v1 = .slice a' 0 (cap - n)) ∧ wr = wx)
     case first =>
       by_cases hcn : cap = n
       · subst hcn
         go_wp2_with fail
         go_meet
         exact ⟨⟨a, by rw [Nat.sub_self]⟩, rfl⟩
       · go_wp2_with fail
         go_meet
         exact ⟨⟨_, rfl⟩, rfl⟩
     case rest =>
     obtain ⟨⟨a', rfl⟩, rfl⟩ := hcut
     go_wp2_with fail
     obtain ⟨S1, q1, k1, s1⟩ := HW.out
     refine (zdb (kind := 0) _ q1 (by omega) (by omega)).mono ?_
     rintro e w1 ⟨rfl, hn1⟩
     have hn1 := zab.trans k1 s1 hn1
     have c3 := H1.out _ _ hn1
     have HN1 := Lib.hid hn1
     clear c1 c2 q1 k1 s1 hn1 HW
     go_wp2_with fail
     obtain ⟨S2, q2, k2, s2⟩ := HN1.out
     refine (zeP q2 (by rw [List.length_append, zak]; omega)).mono ?_
     rintro e w2 ⟨rfl, hn2⟩
     have hn2 := zab.trans k2 s2 hn2
     have c4 := H1.out _ _ hn2
     have HN2 := Lib.hid hn2
     clear c3 q2 k2 s2 hn2 HN1
     go_wp2_with fail
     have hx16 := zd7 n (by omega)
     refine (zaC HN2.out 16 n (by rw [List.length_append, List.length_append, zak, List.length_replicate]; omega) (by omega) (by omega)).mono ?_
     rintro e w3 ⟨rfl, hn3⟩
     have c5 := H1.out _ _ hn3
     have HN3 := Lib.hid hn3
     clear c4 hn3 HN2
     have hx17 : 65535 - n < 65536 := by omega
     go_wp2_with fail
     refine (zaC HN3.out 16 (65535 - n) (by rw [List.length_append, List.length_append, List.length_append, zak, List.length_replicate, zae]; omega) (by omega) (by omega)).mono ?_
     rintro e w4 ⟨rfl, hn4⟩
     have HN4 := Lib.hid hn4
     clear c5 hn4 HN3 hx16
     go_wp2_with fail
     obtain ⟨B4, hB4⟩ : ∃ B4, B4 = B ++ zcd false 0 ++ List.replicate (((B ++ zcd false 0).length + 7) / 8 * 8 - (B ++ zcd false 0).length) false ++ putL n false 16 16 ++ putL (65535 - n) false 16 16 := ⟨_, rfl⟩
     have hB4l : B4.length ≤ B.length + 50 := by
       rw [hB4]
       simp only [List.length_append, zak, List.length_replicate, zae]; omega
     have hfin : B4 ++ zbj b = B ++ stoB B.length lb b := by
       rw [hB4, HLB.out]
       unfold stoB
       simp only [List.length_append, zak, pad_is, List.append_assoc, HL.out]
     rw [← hB4] at HN4
     have HF := Lib.hid hfin
     clear hB4 hfin
     go_loopw [47] (fun v wr => ∃ i : Nat, v = .int .i64 i ∧ i ≤ n ∧ Hid (zab w0 S wb false (B4 ++ zbj (b.take i)) wr)) (fun v _ => n - (intOf v).toNat)
     case atStart => exact ⟨0, rfl, Nat.zero_le _, by rw [List.take_zero, show zbj [] = [] from rfl, List.append_nil]; exact HN4⟩
     case round =>
       clear HN4
       obtain ⟨i, rfl, hi, HNi⟩ := hrel
       by_cases hlt : i < n
       · have hcd : decide ((i : Int) < (n : Int)) = true := decide_eq_true (by omega)
         have hin : (i : Int) < (n : Int) := by omega
         obtain ⟨bb, off, rfl, -, hcc⟩ := (H2.out _ _ HNi.out).at 0 i hlt
         have z1 := hcc i hlt
         have c6 := H1.out _ _ HNi.out
         have HB := Lib.hid (zeM b (i := i) (by rw [← HL.out]; exact hlt))
         generalize b.getD i 0 = x at z1 HB
         have hx := x.toNat_lt
         clear hcc
         go_wp2_with fail
         refine (zaC HNi.out 8 x.toNat (by rw [List.length_append, zbV, List.length_take]; omega) (by omega) hx).mono ?_
         rintro e w5 ⟨rfl, hn5⟩
         rw [List.append_assoc, ← HB.out] at hn5
         have HN5 := Lib.hid hn5
         clear hn5
         go_wp2_with fail
         go_roundw
         case rel => exact ⟨i + 1, by go_num, by omega, HN5⟩
         case measure => simp [intOf]; omega
       · have hie : i = n := by omega
         subst hie
         have HN6 := Lib.hid (show zab w0 S wb false (B ++ stoB B.length lb b) wr from by
           have h := HNi.out
           rw [List.take_of_length_le (by rw [← HL.out]; exact Nat.le_refl _), HF.out] at h
           exact h)
         go_wp2_with fail
         go_roundw
         case rel => exact .inr ⟨rfl, HN6⟩
         case measure => exact Nat.zero_lt_one
 case true =>
   go_enter Tryz.func52, Tryz.ntmps52
   go_wp2_with fail
   generalize w.alloc (.cells #[.pointer (some ⟨wb, 0, none⟩)] 48) = w0 at HN HE HR hw0 H1 H2 ⊢
   go_loopw [1, 6] (fun v1 v6 wr => (v6 = .bool true ∧ v1 = .slice a n cap ∧ Hid (zab w0 S wb false B wr)) ∨ (v6 = .bool false ∧ Hid (zab w0 S wb false (B ++ stoB B.length lb b) wr))) (fun _ v6 _ => boolN v6)
   case atStart => exact .inl ⟨rfl, rfl, HN⟩
   case round =>
     rcases hrel with ⟨rfl, rfl, HW⟩ | ⟨rfl, HW⟩
     case inr =>
       go_wp2_with fail
       go_end0
       exact ⟨rfl, HE.out _ _ HW.out⟩
     have c1 := H1.out _ _ HW.out
     have c2 := H2.out _ _ HW.out
     go_upto_region 5 with fail
     go_cut [1] from 11 to 56 (fun v1 wx => (∃ a', v1 = .slice a' 0 (cap - n)) ∧ wr = wx)
     case first =>
       by_cases hcn : cap = n
       · subst hcn
         go_wp2_with fail
         go_meet
         exact ⟨⟨a, by rw [Nat.sub_self]⟩, rfl⟩
       · go_wp2_with fail
         go_meet
         exact ⟨⟨_, rfl⟩, rfl⟩
     case rest =>
     obtain ⟨⟨a', rfl⟩, rfl⟩ := hcut
     go_wp2_with fail
     obtain ⟨S1, q1, k1, s1⟩ := HW.out
     refine (zdb (kind := 0) _ q1 (by omega) (by omega)).mono ?_
     rintro e w1 ⟨rfl, hn1⟩
     have hn1 := zab.trans k1 s1 hn1
     have c3 := H1.out _ _ hn1
     have HN1 := Lib.hid hn1
     clear c1 c2 q1 k1 s1 hn1 HW
     go_wp2_with fail
     obtain ⟨S2, q2, k2, s2⟩ := HN1.out
     refine (zeP q2 (by rw [List.length_append, zak]; omega)).mono ?_
     rintro e w2 ⟨rfl, hn2⟩
     have hn2 := zab.trans k2 s2 hn2
     have c4 := H1.out _ _ hn2
     have HN2 := Lib.hid hn2
     clear c3 q2 k2 s2 hn2 HN1
     go_wp2_with fail
     have hx16 := zd7 n (by omega)
     refine (zaC HN2.out 16 n (by rw [List.length_append, List.length_append, zak, List.length_replicate]; omega) (by omega) (by omega)).mono ?_
     rintro e w3 ⟨rfl, hn3⟩
     have c5 := H1.out _ _ hn3
     have HN3 := Lib.hid hn3
     clear c4 hn3 HN2
     have hx17 : 65535 - n < 65536 := by omega
     go_wp2_with fail
     refine (zaC HN3.out 16 (65535 - n) (by rw [List.length_append, List.length_append, List.length_append, zak, List.length_replicate, zae]; omega) (by omega) (by omega)).mono ?_
     rintro e w4 ⟨rfl, hn4⟩
     have HN4 := Lib.hid hn4
     clear c5 hn4 HN3 hx16
     go_wp2_with fail
     obtain ⟨B4, hB4⟩ : ∃ B4, B4 = B ++ zcd true 0 ++ List.replicate (((B ++ zcd true 0).length + 7) / 8 * 8 - (B ++ zcd true 0).length) false ++ putL n false 16 16 ++ putL (65535 - n) false 16 16 := ⟨_, rfl⟩
     have hB4l : B4.length ≤ B.length + 50 := by
       rw [hB4]
       simp only [List.length_append, zak, List.length_replicate, zae]; omega
     have hfin : B4 ++ zbj b = B ++ stoB B.length lb b := by
       rw [hB4, HLB.out]
       unfold stoB
       simp only [List.length_append, zak, pad_is, List.append_assoc, HL.out]
     rw [← hB4] at HN4
     have HF := Lib.hid hfin
     clear hB4 hfin
     go_loopw [47] (fun v wr => ∃ i : Nat, v = .int .i64 i ∧ i ≤ n ∧ Hid (zab w0 S wb false (B4 ++ zbj (b.take i)) wr)) (fun v _ => n - (intOf v).toNat)
     case atStart => exact ⟨0, rfl, Nat.zero_le _, by rw [List.take_zero, show zbj [] = [] from rfl, List.append_nil]; exact HN4⟩
     case round =>
       clear HN4
       obtain ⟨i, rfl, hi, HNi⟩ := hrel
       by_cases hlt : i < n
       · have hcd : decide ((i : Int) < (n : Int)) = true := decide_eq_true (by omega)
         have hin : (i : Int) < (n : Int) := by omega
         obtain ⟨bb, off, rfl, -, hcc⟩ := (H2.out _ _ HNi.out).at 0 i hlt
         have z1 := hcc i hlt
         have c6 := H1.out _ _ HNi.out
         have HB := Lib.hid (zeM b (i := i) (by rw [← HL.out]; exact hlt))
         generalize b.getD i 0 = x at z1 HB
         have hx := x.toNat_lt
         clear hcc
         go_wp2_with fail
         refine (zaC HNi.out 8 x.toNat (by rw [List.length_append, zbV, List.length_take]; omega) (by omega) hx).mono ?_
         rintro e w5 ⟨rfl, hn5⟩
         rw [List.append_assoc, ← HB.out] at hn5
         have HN5 := Lib.hid hn5
         clear hn5
         go_wp2_with fail
         go_roundw
         case rel => exact ⟨i + 1, by go_num, by omega, HN5⟩
         case measure => simp [intOf]; omega
       · have hie : i = n := by omega
         subst hie
         have HN6 := Lib.hid (show zab w0 S wb false (B ++ stoB B.length lb b) wr from by
           have h := HNi.out
           rw [List.take_of_length_le (by rw [← HL.out]; exact Nat.le_refl _), HF.out] at h
           exact h)
         go_wp2_with fail
         go_roundw
         case rel => exact .inr ⟨rfl, HN6⟩
         case measure => exact Nat.zero_lt_one
def zez (x : Int) : Int × Int × Int := if 258 < x then (0, 0, 0) else refS x 29
def zev (x : Int) : Int × Int × Int := if 32768 < x then (-1, 0, 0) else refF x 30
def Tri (V : Int × Int × Int) (w : World) (e : Ending) (w' : World) : Prop := e = .returned (.tuple #[.int .i64 V.1, .int .i64 V.2.1, .int .i64 V.2.2]) ∧ w' = w
theorem lenV_bd : ∀ i, i < 29 → 3 ≤ (zax (257 + i : Nat)).1 ∧ (zax (257 + i : Nat)).1 ≤ 258 ∧ 0 ≤ (zax (257 + i : Nat)).2.1 ∧ (zax (257 + i : Nat)).2.1 ≤ 13 := fun i hi => by
 have : ∀ k : Fin 29, 3 ≤ (zax (257 + k.1 : Nat)).1 ∧ (zax (257 + k.1 : Nat)).1 ≤ 258 ∧ 0 ≤ (zax (257 + k.1 : Nat)).2.1 ∧ (zax (257 + k.1 : Nat)).2.1 ≤ 13 := by decide +kernel
 have h := this ⟨i, hi⟩
 dsimp only at h
 exact h
theorem lenV_first {i : Nat} (h : i = 0) : (zax (257 + i : Nat)).1 = 3 := by subst h; simp [zax]
theorem disV7_bd : ∀ i, i < 30 → 1 ≤ (disV (i : Nat)).1 ∧ (disV (i : Nat)).1 ≤ 32768 ∧ 0 ≤ (disV (i : Nat)).2.1 ∧ (disV (i : Nat)).2.1 ≤ 13 := fun i hi => by
 have : ∀ k : Fin 30, 1 ≤ (disV (k.1 : Nat)).1 ∧ (disV (k.1 : Nat)).1 ≤ 32768 ∧ 0 ≤ (disV (k.1 : Nat)).2.1 ∧ (disV (k.1 : Nat)).2.1 ≤ 13 := by decide +kernel
 have h := this ⟨i, hi⟩
 dsimp only at h
 exact h
theorem disV_first {i : Nat} (h : i = 0) : (disV (i : Nat)).1 = 1 := by
 have : ∀ k : Fin 30, k.1 = 0 → (disV (k.1 : Nat)).1 = 1 := by decide +kernel
 exact this ⟨i, by omega⟩ h
theorem dsym_any (x : Int) (w : World) (hx : -9223372036854775808 ≤ x ∧ x ≤ 9223372036854775807) : Calls Tryz.prog 114 #[.int .i64 x] w (Tri (zez x) w) := by
 by_cases h1 : x < 3
 · have HV := Lib.hid (show zez x = (0, 0, 0) by unfold zez; rw [if_neg (by omega), refS_low h1 29 (Nat.le_refl _)])
   go_enter Tryz.func114, Tryz.ntmps114
   go_wp2
   go_ret3
   exact ⟨by rw [HV.out]; rfl, rfl⟩
 by_cases h2 : 258 < x
 · have HV := Lib.hid (show zez x = (0, 0, 0) by unfold zez; rw [if_pos h2])
   go_enter Tryz.func114, Tryz.ntmps114
   go_wp2
   go_ret3
   exact ⟨by rw [HV.out]; rfl, rfl⟩
 have HV := Lib.hid (show zez x = refS x 29 by unfold zez; rw [if_neg h2])
 go_enter Tryz.func114, Tryz.ntmps114
 go_wp2_with fail
 go_loopw [5] (fun v wr => ∃ i : Nat, v = .int .i64 (257 + i : Nat) ∧ i < 29 ∧ Hid (zez x = refS x (i + 1)) ∧ w = wr) (fun v _ => (intOf v - 257).toNat)
 case atStart => exact ⟨28, rfl, by omega, HV, rfl⟩
 case round =>
   obtain ⟨i, rfl, hi, HI, rfl⟩ := hrel
   have hb := lenV_bd i hi
   have HL := Lib.hid (ze3 ((257 + i : Nat) : Int) w (by omega))
   have HR := Lib.hid (show refS x (i + 1) = if (zax (257 + i : Nat)).1 ≤ x then (((257 + i : Nat) : Int), x - (zax (257 + i : Nat)).1, (zax (257 + i : Nat)).2.1) else refS x i from rfl)
   have H0 := Lib.hid (show i = 0 → (zax (257 + i : Nat)).1 ≤ x from fun e => by rw [lenV_first e]; omega)
   generalize zax ((257 + i : Nat) : Int) = V at hb HL HR H0
   obtain ⟨v1, v2, v3⟩ := V
   dsimp only at hb HL HR H0
   by_cases hle : v1 ≤ x
   · have hd : decide (v1 ≤ x) = true := decide_eq_true hle
     go_wp2_with (go_at_call 99; refine HL.out.mono ?_; rintro e w' ⟨rfl, rfl⟩)
     go_ret3
     refine ⟨?_, rfl⟩
     rw [HI.out, HR.out, if_pos hle]; rfl
   · have hd : decide (v1 ≤ x) = false := decide_eq_false hle
     have hi0 : i ≠ 0 := fun e => hle (H0.out e)
     go_wp2_with (go_at_call 99; refine HL.out.mono ?_; rintro e w' ⟨rfl, rfl⟩)
     go_roundw
     case rel =>
       refine ⟨i - 1, ?_, by omega, Lib.hid ?_, by first | rfl | trivial⟩
       · go_num
       · rw [HI.out, HR.out, if_neg (by omega), show i - 1 + 1 = i from by omega]
     case measure => simp [intOf]; omega
theorem dfar_any (x : Int) (w : World) (hx : -9223372036854775808 ≤ x ∧ x ≤ 9223372036854775807) : Calls Tryz.prog 115 #[.int .i64 x] w (Tri (zev x) w) := by
 by_cases h1 : x < 1
 · have HV := Lib.hid (show zev x = (-1, 0, 0) by unfold zev; rw [if_neg (by omega), refF_low h1 30 (Nat.le_refl _)])
   go_enter Tryz.func115, Tryz.ntmps115
   go_wp2
   go_ret3
   exact ⟨by rw [HV.out]; rfl, rfl⟩
 by_cases h2 : 32768 < x
 · have HV := Lib.hid (show zev x = (-1, 0, 0) by unfold zev; rw [if_pos h2])
   go_enter Tryz.func115, Tryz.ntmps115
   go_wp2
   go_ret3
   exact ⟨by rw [HV.out]; rfl, rfl⟩
 have HV := Lib.hid (show zev x = refF x 30 by unfold zev; rw [if_neg h2])
 go_enter Tryz.func115, Tryz.ntmps115
 go_wp2_with fail
 go_loopw [5] (fun v wr => ∃ i : Nat, v = .int .i64 (i : Nat) ∧ i < 30 ∧ Hid (zev x = refF x (i + 1)) ∧ w = wr) (fun v _ => (intOf v).toNat)
 case atStart => exact ⟨29, rfl, by omega, HV, rfl⟩
 case round =>
   obtain ⟨i, rfl, hi, HI, rfl⟩ := hrel
   have hb := disV7_bd i hi
   have HL := Lib.hid (zdy ((i : Nat) : Int) w (by omega))
   have HR := Lib.hid (show refF x (i + 1) = if (disV (i : Nat)).1 ≤ x then (((i : Nat) : Int), x - (disV (i : Nat)).1, (disV (i : Nat)).2.1) else refF x i from rfl)
   have H0 := Lib.hid (show i = 0 → (disV (i : Nat)).1 ≤ x from fun e => by rw [disV_first e]; omega)
   generalize disV ((i : Nat) : Int) = V at hb HL HR H0
   obtain ⟨v1, v2, v3⟩ := V
   dsimp only at hb HL HR H0
   by_cases hle : v1 ≤ x
   · have hd : decide (v1 ≤ x) = true := decide_eq_true hle
     go_wp2_with (go_at_call 100; refine HL.out.mono ?_; rintro e w' ⟨rfl, rfl⟩)
     go_ret3
     refine ⟨?_, rfl⟩
     rw [HI.out, HR.out, if_pos hle]; rfl
   · have hd : decide (v1 ≤ x) = false := decide_eq_false hle
     have hi0 : i ≠ 0 := fun e => hle (H0.out e)
     go_wp2_with (go_at_call 100; refine HL.out.mono ?_; rintro e w' ⟨rfl, rfl⟩)
     go_roundw
     case rel =>
       refine ⟨i - 1, ?_, by omega, Lib.hid ?_, by first | rfl | trivial⟩
       · go_num
       · rw [HI.out, HR.out, if_neg (by omega), show i - 1 + 1 = i from by omega]
     case measure => simp [intOf]; omega
end Go.Proofs.YtkikhmdpcanidaaGreat
