/-
  What XPDeflateBlocks needs beyond the packs E.
-/
import Derived.Test.YtkikhmdpcanidaaGreatPkE1
import Derived.Test.YtkikhmdpcanidaaGreatPkE2
import Derived.Test.YtkikhmdpcanidaaGreatPkE3
import Derived.Test.YtkikhmdpcanidaaGreatPkE4
import Derived.Test.YtkikhmdpcanidaaGreatPkE5
import Derived.Test.YtkikhmdpcanidaaGreatPkE6
import Derived.Test.YtkikhmdpcanidaaGreatPkE7
import Derived.Test.YtkikhmdpcanidaaGreatPkE8
import Derived.Test.YtkikhmdpcanidaaGreatPkE9
import Derived.Test.YtkikhmdpcanidaaGreatPkE10
import Derived.Test.YtkikhmdpcanidaaGreatPkE11
import Derived.Test.YtkikhmdpcanidaaGreatPkE12
import Derived.Test.YtkikhmdpcanidaaGreatPkE13
import Derived.WalkKit
import Derived.WalkSpells
import Derived.WalkLawsBesides
import Derived.Lib.Hide
import Derived.Sort.LotA
import Derived.Sort.Lot0
import Derived.Deep.Draws
import Derived.BigQuiet
import Derived.Deep.QuietTactic
import Derived.Deep.RegionHeld3
import Derived.Deep.AppendLies
import Derived.Deep.RegionLaw
import Derived.ScopeJumps
import Derived.WalkMore
import Derived.Deep.LoopGhost
import Derived.Deep.Cut
import Derived.Deep.CutBlock
import Derived.StillTailTactics
import Derived.Deep.DeepCutAuto
import Derived.Deep.CutRange
import Derived.BigRegion
import Derived.Deep.RegionHeld
import Derived.Maps.OwnSet
import Derived.WideKeyArr
import Derived.Maps.OwnOps
import Derived.Lib.SlBytesConst
import Derived.Lib.SmallJoins
import Derived.Deep.RegionHeldLaw
import Derived.RangeFuncNested
import Derived.RangeFuncBound
import Derived.RangeFuncCalls
import Derived.RangeFuncLeaves
import Derived.Shelf.Abstract
import Derived.Shelf.RegionOpen
import Derived.OwnWalkIn
import Derived.TacticsInMore
import Derived.LoopNIn
import Derived.LoopIn
import Derived.Sort.QuietIn
import Derived.Ground.SlsfProg
import Derived.Shelf.SlSortCmp.Whole1
import Derived.Lib.AppendZeros
import Derived.ChangeSlices
import Derived.ProofKit
import Derived.OpenShut
import Derived.ShutString
import Derived.ChangeOld
import Derived.Below
set_option maxRecDepth 8000
set_option maxHeartbeats 8000000
namespace Go.Proofs.YtkikhmdpcanidaaGreat
open Go.RowKit Go.Sort
def atC (cuts : List Int) (k : Nat) : Int := if k = 0 then 0 else cuts.getD (k - 1) 0
theorem atC_succ (cuts : List Int) (k : Nat) : atC cuts (k + 1) = cuts.getD k 0 := by
 unfold atC
 rw [if_neg (by omega), Nat.add_sub_cancel]
def OkTo (cuts : List Int) (L : Nat) (k : Nat) : Prop := ∀ j, j < k → atC cuts j ≤ cuts.getD j 0 ∧ cuts.getD j 0 ≤ (L : Int)
theorem OkTo.pos {cuts : List Int} {L k : Nat} (h : OkTo cuts L k) : ∀ j, j ≤ k → 0 ≤ atC cuts j ∧ (atC cuts j ≤ (L : Int))
 | 0, _ => ⟨Int.le_refl _, by unfold atC; rw [if_pos rfl]; omega⟩
 | j + 1, hj => by
   have h1 := h.pos j (by omega)
   have h2 := h j (by omega)
   rw [atC_succ]
   exact ⟨by omega, h2.2⟩
def endC (cuts : List Int) (L k : Nat) : Nat := if k < cuts.length then (cuts.getD k 0).toNat else L
def begC (cuts : List Int) (k : Nat) : Nat := (atC cuts k).toNat
def partC (cuts : List Int) (b : List UInt8) (k : Nat) : List UInt8 := (b.drop (begC cuts k)).take (endC cuts b.length k - begC cuts k)
theorem beg_succ (cuts : List Int) (L k : Nat) (h : k < cuts.length) : begC cuts (k + 1) = endC cuts L k := by
 unfold begC endC
 rw [atC_succ, if_pos h]
theorem begEnd {cuts : List Int} {L : Nat} (h : OkTo cuts L cuts.length) {k : Nat} (hk : k ≤ cuts.length) : begC cuts k ≤ endC cuts L k ∧ endC cuts L k ≤ L := by
 have h1 := h.pos k hk
 unfold begC endC
 by_cases h2 : k < cuts.length
 · rw [if_pos h2]
   have := h k h2
   omega
 · rw [if_neg h2]; omega
theorem partC_len {cuts : List Int} {b : List UInt8} (h : OkTo cuts b.length cuts.length) {k : Nat} (hk : k ≤ cuts.length) : (partC cuts b k).length = endC cuts b.length k - begC cuts k := by
 have := begEnd h hk
 unfold partC
 rw [List.length_take, List.length_drop]; omega
theorem take_join {α : Type} (b : List α) {m n : Nat} (h : m ≤ n) : b.take m ++ (b.drop m).take (n - m) = b.take n := by
 rw [← List.take_append_drop m (b.take n), List.take_take, Nat.min_eq_left h, List.drop_take]
inductive PreB : List (Nat × List UInt8) → List Bool → Prop where
 | nil : PreB [] []
 | snoc {kind : Nat} {b : List UInt8} {l : List (Nat × List UInt8)} {Z Y : List Bool} : PreB l Z → zdI Z.length kind false b Y → PreB (l ++ [(kind, b)]) (Z ++ Y)
theorem PreB.on {l : List (Nat × List UInt8)} {Z : List Bool} (h : PreB l Z) : ∀ {m : List (Nat × List UInt8)} {Y : List Bool}, zbw Z.length m Y → zbw 0 (l ++ m) (Z ++ Y) := by
 induction h with
 | nil => intro m Y h; simpa using h
 | @snoc kind b l Z X h1 h2 ih =>
   intro m Y h3
   rw [List.length_append] at h3
   rw [List.append_assoc, List.append_assoc]
   exact ih (.more h2 h3)
theorem PreB.done {l : List (Nat × List UInt8)} {Z Y : List Bool} {kind : Nat} {b : List UInt8} (h : PreB l Z) (h2 : zdI Z.length kind true b Y) : zbw 0 (l ++ [(kind, b)]) (Z ++ Y) := h.on (.one h2)
theorem containsG {P : Int → Bool} (hf : ∀ x W, Calls Tryz.prog 44 #[.int .i64 x] W fun e w' => e = .returned (.bool (P x)) ∧ w' = W) {w : World} {a : Option Addr} {n cap : Nat} {l : List Int} (hr : Row w 1 a n cap (l.map fun x => .int .i64 x)) :
   Calls Tryz.prog 43 #[.slice a n cap, .func (.func 44) #[] #[]] w fun e w' => e = .returned (.bool (l.any P)) ∧ w' = w := by
 have hl := hr.len1
 have hn64 := hr.i64
 have hni : (n : Int) ≤ 9223372036854775807 := hn64
 have HR := Lib.hid hr
 have HF := Lib.hid hf
 have HL := Lib.hid hl
 clear hr hf hl
 have HI : Calls Tryz.prog 75 #[.slice a n cap, .func (.func 44) #[] #[]] w fun e w' => w' = w ∧ ((∃ i : Nat, e = .returned (.int .i64 i) ∧ l.any P = true) ∨ (e = .returned (.int .i64 (-1)) ∧ l.any P = false)) := by
   go_enter Tryz.func75, Tryz.ntmps75
   go_wp2_with fail
   go_loopw [8] (fun v wr => ∃ j : Nat, v = .int .i64 j ∧ j ≤ n ∧ wr = w ∧ Hid ((l.take j).any P = false)) (fun v _ => n - (intOf v).toNat)
   case atStart => exact ⟨0, rfl, Nat.zero_le _, rfl, Lib.hid rfl⟩
   case round =>
     obtain ⟨j, rfl, hj, rfl, HA⟩ := hrel
     by_cases hlt : j < n
     case neg =>
       have hje : j = n := by omega
       subst hje
       have hcd : decide ((j : Int) < (j : Int)) = false := decide_eq_false (by omega)
       have HN := Lib.hid (show l.any P = false from by have h := HA.out; rwa [List.take_of_length_le (Nat.le_of_eq HL.out)] at h)
       go_wp2
       go_ret
       exact ⟨rfl, .inr ⟨rfl, HN.out⟩⟩
     have hcd : decide ((j : Int) < (n : Int)) = true := decide_eq_true (by omega)
     have hjl : (j : Int) < (n : Int) := by omega
     obtain ⟨bb, off, rfl, -, hcc⟩ := HR.out.at (0 : Int) 0 (by omega)
     have z0 := hcc j hlt
     have HX := Lib.hid (show l.getD j 0 ∈ l from by rw [List.getD_eq_getElem?_getD, List.getElem?_eq_getElem (by rw [HL.out]; exact hlt)]; exact List.getElem_mem _)
     have HS := Lib.hid (show l.take (j + 1) = l.take j ++ [l.getD j 0] from by
       rw [List.take_add_one, List.getD_eq_getElem?_getD, List.getElem?_eq_getElem (by rw [HL.out]; exact hlt)]; rfl)
     clear hcc
     generalize l.getD j 0 = x at z0 HX HS
     have HC := Lib.hid (HF.out x wr)
     by_cases hP : P x = true
     · rw [hP] at HC
       have HT := Lib.hid (show l.any P = true from List.any_eq_true.2 ⟨x, HX.out, hP⟩)
       clear hP
       go_wp2_with fail
       refine HC.out.mono ?_
       rintro e w1 ⟨rfl, rfl⟩
       go_wp2
       go_ret
       exact ⟨rfl, .inl ⟨j, rfl, HT.out⟩⟩
     · have hP2 : P x = false := by simpa using hP
       rw [hP2] at HC
       have HT := Lib.hid (show (l.take (j + 1)).any P = false from by rw [HS.out, List.any_append, HA.out]; simp [hP2])
       clear hP hP2
       go_wp2_with fail
       refine HC.out.mono ?_
       rintro e w1 ⟨rfl, rfl⟩
       go_wp2_with fail
       go_roundw
       case rel => exact ⟨j + 1, by go_num, by omega, by trivial, HT⟩
       case measure => simp [intOf]; omega
 have HII := Lib.hid HI
 clear HI
 go_enter Tryz.func43, Tryz.ntmps43
 go_wp2_with fail
 refine HII.out.mono ?_
 rintro e w1 ⟨rfl, ⟨i, rfl, h⟩ | ⟨rfl, h⟩⟩
 · have hi0 : decide ((i : Int) ≥ 0) = true := decide_eq_true (by omega)
   have HH := Lib.hid h
   clear h
   go_wp2
   go_ret
   exact ⟨by rw [HH.out]; exact zfT hi0, rfl⟩
 · have HH := Lib.hid h
   clear h
   go_wp2
   go_ret
   exact ⟨by rw [HH.out]; rfl, rfl⟩
def badK (x : Int) : Bool := decide (x < 0) || decide (x ≥ 3)
theorem badk_any (x : Int) (w : World) : Calls Tryz.prog 44 #[.int .i64 x] w fun e w' => e = .returned (.bool (badK x)) ∧ w' = w := by
 unfold badK
 by_cases h : x < 0
 · have d : decide (x < 0) = true := decide_eq_true h
   go_enter Tryz.func44, Tryz.ntmps44
   go_wp2
   go_ret
   exact ⟨by rw [d]; rfl, rfl⟩
 · have d : decide (x < 0) = false := decide_eq_false h
   go_enter Tryz.func44, Tryz.ntmps44
   go_wp2
   go_ret
   exact ⟨rfl, rfl⟩
def FineB (b : List UInt8) (cuts kinds : List Int) : Prop := kinds.length = cuts.length + 1 ∧ kinds.any badK = false ∧ OkTo cuts b.length cuts.length
def BlkEnd (w : World) (b : List UInt8) (cuts kinds : List Int) (e : Ending) (w' : World) : Prop :=
 Below w.heap.size w w' ∧ ((¬ FineB b cuts kinds ∧ e = .returned (.tuple #[.slice none 0 0, .int .i64 2])) ∨
   (FineB b cuts kinds ∧ ∃ (bs : List UInt8) (v : Value) (Z : List Bool) (l : List (Nat × List UInt8)), e = .returned (.tuple #[v, .int .i64 0]) ∧ w'.ownsRow w.heap.size 5 1 v bs.length (bs.map fun b => .int .u8 b.toNat) ∧ zbw 0 l Z ∧ l.flatMap Prod.snd = b ∧ za5 bs false Z ∧ bs.length ≤ 100000))
def DoneB (b : List UInt8) (cuts : List Int) (k : Nat) (l : List (Nat × List UInt8)) (Z : List Bool) : Prop :=
 (k ≤ cuts.length → PreB l Z ∧ l.flatMap Prod.snd = b.take (begC cuts k)) ∧ (k = cuts.length + 1 → zbw 0 l Z ∧ l.flatMap Prod.snd = b)
theorem DoneB.step {b : List UInt8} {cuts : List Int} {k : Nat} {l : List (Nat × List UInt8)} {Z Y : List Bool} {kind : Nat} (h : DoneB b cuts k l Z) (hk : k ≤ cuts.length) (ho : OkTo cuts b.length cuts.length) (hp : zdI Z.length kind (decide (k = cuts.length)) (partC cuts b k) Y) : DoneB b cuts (k + 1) (l ++ [(kind, partC cuts b k)]) (Z ++ Y) := by
 obtain ⟨h1, h2⟩ := h.1 hk
 have hbe := begEnd ho hk
 have hfl : (l ++ [(kind, partC cuts b k)]).flatMap Prod.snd = b.take (endC cuts b.length k) := by
   rw [List.flatMap_append, h2]
   simp only [List.flatMap_cons, List.flatMap_nil, List.append_nil]
   unfold partC
   exact take_join b hbe.1
 refine ⟨fun hk1 => ?_, fun hk1 => ?_⟩
 · have hd : decide (k = cuts.length) = false := decide_eq_false (by omega)
   rw [hd] at hp
   exact ⟨.snoc h1 hp, by rw [hfl, beg_succ cuts b.length k (by omega)]⟩
 · have hd : decide (k = cuts.length) = true := decide_eq_true (by omega)
   rw [hd] at hp
   refine ⟨h1.done hp, ?_⟩
   rw [hfl]
   unfold endC
   rw [if_neg (by omega), List.take_length]
theorem piece_row {w : World} {bb off n cap j X e : Nat} {b : List UInt8} {cuts : List Int} (h : Row w 1 (some ⟨bb, off, none⟩) n cap (b.map fun x => .int .u8 x.toNat)) (hX : X = begC cuts j) (he : e = endC cuts b.length j) (hl : (partC cuts b j).length = e - X) (h1 : X ≤ e) (h2 : e ≤ n) :
   Row w 1 (some ⟨bb, off + X, none⟩) (e - X) (cap - X) ((partC cuts b j).map fun x => .int .u8 x.toNat) := by
 obtain ⟨q1, q2, q3, q4, q5⟩ := h
 refine ⟨by rw [List.length_map, hl, Nat.mul_one], by omega, by omega, fun h => (by cases h), fun hn => ?_⟩
 obtain ⟨b', o', e', hlt, hc⟩ := q5 (by omega)
 cases e'
 refine ⟨bb, _, rfl, hlt, fun t u ht => ?_⟩
 unfold partC at ht
 rw [← hX, ← he, List.map_take, List.map_drop, List.getElem?_take] at ht
 split at ht
 · rw [List.getElem?_drop] at ht
   have := hc _ u ht
   rwa [show off + (X + t) = off + X + t by omega] at this
 · cases ht
theorem wrote_600 {bs : List UInt8} {Z : List Bool} (h : za5 bs false Z) (hz : Z.length ≤ 500000) : bs.length ≤ 100000 := by
 have := h.1; omega
theorem blocks_any {w : World} {a a1 a2 : Option Addr} {n cap m cap1 q cap2 : Nat} {b : List UInt8} {cuts kinds : List Int} (hr : Row w 1 a n cap (b.map fun x => .int .u8 x.toNat)) (hal : ∀ x, a = some x → x.block < w.heap.size) (hr1 : Row w 1 a1 m cap1 (cuts.map fun x => .int .i64 x)) (hr2 : Row w 1 a2 q cap2 (kinds.map fun x => .int .i64 x)) (hn : n ≤ 1500) (hm : m ≤ 40) (hq : q ≤ 41) :
   Calls Tryz.prog 17 #[.slice a n cap, .slice a1 m cap1, .slice a2 q cap2] w (BlkEnd w b cuts kinds) := by
 have hl := hr.len1
 have hl1 := hr1.len1
 have hl2 := hr2.len1
 have HR := Lib.hid hr
 have HR1 := Lib.hid hr1
 have HR2 := Lib.hid hr2
 have HAL := Lib.hid hal
 have HL := Lib.hid (And.intro hl (And.intro hl1 hl2))
 have d1 : decide ((n : Int) > 16777216) = false := decide_eq_false (by omega)
 have HCT := Lib.hid (containsG (P := badK) badk_any hr2)
 have HBAD := Lib.hid (fun (h : ¬ FineB b cuts kinds) (W : World) (hb : Below w.heap.size w W) => show BlkEnd w b cuts kinds (.returned (.tuple #[.slice none 0 0, .int .i64 2])) W from ⟨hb, .inl ⟨h, rfl⟩⟩)
 have hcapn := hr.2.1
 have hcapm := hr.2.2.1
 unfold maxLen at hcapm
 clear hr hr1 hr2 hal hl hl1 hl2
 go_enter Tryz.func17, Tryz.ntmps17
 by_cases hlen : q = m + 1
 case neg =>
   have hne : ((q : Int) != (m : Int) + 1) = true := by simp; omega
   have hne2 : ((q : Int) == (m : Int) + 1) = false := by simp; omega
   have HN := Lib.hid (show ¬ FineB b cuts kinds from fun h => hlen (by have h1 := h.1; have h2 := HL.out; omega))
   go_wp2_with fail
   go_ret2
   exact HBAD.out HN.out _ (Below.refl _ _)
 subst hlen
 by_cases hbk : kinds.any badK = true
 · rw [hbk] at HCT
   have HN := Lib.hid (show ¬ FineB b cuts kinds from fun h => by rw [h.2.1] at hbk; cases hbk)
   go_wp2_with fail
   refine HCT.out.mono ?_
   rintro e W ⟨rfl, rfl⟩
   go_wp2_with fail
   go_ret2
   exact HBAD.out HN.out _ (Below.refl _ _)
 have hbk : kinds.any badK = false := by simpa using hbk
 rw [hbk] at HCT
 have HBK := Lib.hid hbk
 clear hbk
 go_wp2_with fail
 refine HCT.out.mono ?_
 rintro e W ⟨rfl, rfl⟩
 clear HCT
 go_wp2_with fail
 go_loopw [30, 8] (fun v vt wr => ∃ k : Nat, v = .int .i64 k ∧ k ≤ m ∧ wr = W ∧ vt = .int .i64 (atC cuts k) ∧ Hid (OkTo cuts n k)) (fun v _ _ => m - (intOf v).toNat)
 case atStart => exact ⟨0, rfl, Nat.zero_le _, rfl, by unfold atC; rw [if_pos rfl], Lib.hid (fun j hj => absurd hj (Nat.not_lt_zero _))⟩
 case round =>
   obtain ⟨k, rfl, hk, rfl, rfl, HOK⟩ := hrel
   by_cases hkm : k < m
   case pos =>
     have hd : decide ((k : Int) < (m : Int)) = true := decide_eq_true (by omega)
     have hki : (k : Int) < (m : Int) := by omega
     obtain ⟨bb, off, rfl, -, hcc⟩ := HR1.out.at (0 : Int) 0 (by omega)
     have z0 := hcc k hkm
     have HS := Lib.hid (atC_succ cuts k)
     have HNB := Lib.hid (show ¬ (atC cuts k ≤ cuts.getD k 0 ∧ cuts.getD k 0 ≤ (n : Int)) → ¬ FineB b cuts kinds from fun h h2 => h (by have h3 := h2.2.2 k (by have := HL.out; omega); rw [HL.out.1] at h3; exact h3))
     have HOK2 := Lib.hid (show (atC cuts k ≤ cuts.getD k 0 ∧ cuts.getD k 0 ≤ (n : Int)) → OkTo cuts n (k + 1) from fun h j hj => by
       by_cases e : j = k
       · rw [e]; exact h
       · exact HOK.out j (by omega))
     clear hcc
     generalize cuts.getD k 0 = x at *
     generalize atC cuts k = y at *
     by_cases h1 : x < y
     · have e1 : decide (x < y) = true := decide_eq_true h1
       have HN := Lib.hid (HNB.out (by omega))
       go_wp2_with fail
       go_ret2
       exact HBAD.out HN.out _ (Below.refl _ _)
     have e1 : decide (x < y) = false := decide_eq_false h1
     by_cases h2 : (n : Int) < x
     · have e2 : decide (x > (n : Int)) = true := decide_eq_true h2
       have HN := Lib.hid (HNB.out (by omega))
       go_wp2_with fail
       go_ret2
       exact HBAD.out HN.out _ (Below.refl _ _)
     have e2 : decide (x > (n : Int)) = false := decide_eq_false h2
     have HOK3 := Lib.hid (HOK2.out (by omega))
     go_wp2_with fail
     go_roundw
     case rel => exact ⟨k + 1, by go_num, by omega, by trivial, by rw [HS.out], HOK3⟩
     case measure => simp [intOf]; omega
   have hke : k = m := by omega
   subst hke
   have hd : decide ((k : Int) < (k : Int)) = false := decide_eq_false (by omega)
   have HF := Lib.hid (show FineB b cuts kinds from ⟨by have := HL.out; omega, HBK.out, by rw [HL.out.1, HL.out.2.1]; exact HOK.out⟩)
   have HNW := Lib.hid (new_wr false wr)
   go_wp2_with fail
   refine HNW.out.mono ?_
   rintro e w1 ⟨rfl, hq1, hb1, hs1⟩
   have hbA := zai w1 (.cells #[.pointer (some ⟨wr.heap.size, 0, none⟩)] 48)
   have ht2 : (w1.alloc (.cells #[.pointer (some ⟨wr.heap.size, 0, none⟩)] 48)).cell? ⟨w1.heap.size, 0, none⟩ = some (.pointer (some ⟨wr.heap.size, 0, none⟩)) := by
     rw [cell_of_row _ _ 0 _ _ _ (heap_alloc_new w1 _)]; rfl
   have HB2 := Lib.hid (show Below wr.heap.size wr (w1.alloc (.cells #[.pointer (some ⟨wr.heap.size, 0, none⟩)] 48)) from hb1.alloc hb1.size _)
   have hs2 := zad w1 (.cells #[.pointer (some ⟨wr.heap.size, 0, none⟩)] 48)
   obtain ⟨S, hS, hSt, hq2⟩ : ∃ S : Nat → Prop, (∀ b, S b → wr.heap.size ≤ b) ∧ (¬ S w1.heap.size) ∧ WrQ (w1.alloc (.cells #[.pointer (some ⟨wr.heap.size, 0, none⟩)] 48)) S wr.heap.size false [] := ⟨_, fun b hb => by have := hb; omega, fun h => by have := (hq1.lt _ h).2; omega, hq1.alloc _⟩
   clear hbA hb1 hq1
   obtain ⟨wA, hwA⟩ : ∃ wA, wA = wr := ⟨_, rfl⟩
   subst hwA
   go_upto_region 14 with fail
   rw [hs1] at ht2 hs2 hSt
   obtain ⟨tb, htb⟩ : ∃ tb, tb = wA.heap.size + 1 := ⟨_, rfl⟩
   rw [← htb] at ht2 hs2 hSt ⊢
   generalize w1.alloc (.cells #[.pointer (some ⟨wA.heap.size, 0, none⟩)] 48) = w2 at HB2 hq2 ht2 hs2 ⊢
   obtain ⟨wb, hwb⟩ : ∃ wb, wb = wA.heap.size := ⟨_, rfl⟩
   rw [← hwb] at ht2 hq2 ⊢
   have HN0 := Lib.hid (zac.refl hq2)
   have HWB := Lib.hid (And.intro hwb htb)
   have hw2 : wA.heap.size ≤ w2.heap.size := by omega
   clear hwb htb hq2
   go_wp2_with fail
   go_loopw [49, 8] (fun v vt wq => ∃ (k2 X : Nat) (l : List (Nat × List UInt8)) (Z : List Bool), v = .int .i64 k2 ∧ k2 ≤ k + 1 ∧ vt = .int .i64 X ∧ Hid (k2 ≤ k → X = begC cuts k2) ∧ Hid (DoneB b cuts k2 l Z) ∧ X ≤ n ∧ Hid (Z.length ≤ 60 * X + 8000 * k2) ∧ Hid (zac w2 S wb false Z wq)) (fun v _ _ => (k + 1) - (intOf v).toNat)
   case atStart => exact ⟨0, 0, [], [], rfl, by omega, rfl, Lib.hid (fun _ => by unfold begC atC; rw [if_pos rfl]; rfl), Lib.hid ⟨fun _ => ⟨.nil, by unfold begC atC; rw [if_pos rfl]; rfl⟩, fun h => by omega⟩, by omega, Lib.hid (by simp), HN0⟩
   case round =>
     obtain ⟨j, X, l, Z, rfl, hj, rfl, HX, HD, hXn, HZ, HN⟩ := hrel
     have ct := HN.out.cell ht2 hSt
     by_cases hjk : j ≤ k
     case pos =>
       have hd3 : decide ((j : Int) < (k : Int) + 1) = true := decide_eq_true (by omega)
       have hj3 : (j : Int) < (k : Int) + 1 := by omega
       obtain ⟨S3, q3, k3, s3⟩ := HN.out
       have hbq : Below wA.heap.size wA wr := HB2.out.trans (k3.below hw2 hS)
       have hS3 : ∀ b, S3 b → wA.heap.size ≤ b := fun b hb => (s3 b hb).elim (hS b) (fun h => by omega)
       have hX := HX.out hjk
       have hmc : k = cuts.length := HL.out.2.1.symm
       have hfo := HF.out.2.2
       rw [HL.out.1, ← hmc] at hfo
       have hbe := begEnd (k := j) (by rw [← hmc]; exact hfo) (by omega)
       have hpl := partC_len (cuts := cuts) (b := b) (k := j) (by rw [HL.out.1, ← hmc]; exact hfo) (by omega)
       rw [HL.out.1, ← hX] at hpl
       rw [← hX] at hbe
       obtain ⟨e, he⟩ : ∃ e, e = endC cuts n j := ⟨_, rfl⟩
       rw [← he] at hbe hpl
       obtain ⟨b2, o2, ha2, -, hcc2⟩ := (HR2.out.mono hbq).at (0 : Int) 0 (by omega)
       subst ha2
       have z0 := hcc2 j (by omega)
       have hmem : kinds.getD j 0 ∈ kinds := by rw [List.getD_eq_getElem?_getD, List.getElem?_eq_getElem (by have := HL.out; omega)]; exact List.getElem_mem _
       have hkb : badK (kinds.getD j 0) = false := by
         have h := HBK.out
         rw [List.any_eq_false] at h
         simpa using h _ hmem
       obtain ⟨x, hx⟩ : ∃ x, x = kinds.getD j 0 := ⟨_, rfl⟩
       rw [← hx] at z0 hkb
       unfold badK at hkb
       rw [Bool.or_eq_false_iff, decide_eq_false_iff_not, decide_eq_false_iff_not] at hkb
       obtain ⟨K, rfl⟩ : ∃ K : Nat, x = (K : Int) := ⟨x.toNat, by omega⟩
       have hK2 : K ≤ 2 := by omega
       have hza := HZ.out
       have HPART := Lib.hid (fun (aX : Option Addr) (nX cX : Nat) (last : Bool) (W : World) (hW : Below wr.heap.size wr W) (hrow : Row W 1 aX nX cX ((partC cuts b j).map fun x => .int .u8 x.toNat)) (hax : ∀ x, aX = some x → x.block < wA.heap.size) (hnX : nX ≤ 1500) =>
         (part_any (wb := wb) (w := W) (S := S3) (B := Z) (kind := K) last hK2 (fun _ => dyn_any) (q3.blw hW) hrow (fun x hx h => by have a1 := hax x hx; have a2 := hS3 _ h; omega) (fun x hx => by have a1 := hax x hx; have a2 := hbq.size; have a3 := hW.size; omega) (by omega) (by
           omega)).mono (R' := fun e' w' => e' = .returned (.tuple #[]) ∧ ∃ Y, zdI Z.length K last (partC cuts b j) Y ∧ Y.length ≤ 60 * (partC cuts b j).length + 8000 ∧ zac w2 S wb false (Z ++ Y) w') fun e' w' ⟨he, Y, h1, h2, h3⟩ => ⟨he, Y, h1, h2, zac.trans (k3.trans (zaa.of_below2 hW : zaa S wr W) (fun _ h => .inl h)) s3 h3⟩)
       have hcapE : e ≤ cap := by omega
       have HSTEP := Lib.hid (fun (last : Bool) (Y : List Bool) (hlast : last = decide (j = cuts.length)) (hp : zdI Z.length K last (partC cuts b j) Y) => HD.out.step (by rw [← hmc]; exact hjk) (by rw [HL.out.1, ← hmc]; exact hfo) (by rw [← hlast]; exact hp))
       have HBX := Lib.hid (show j + 1 ≤ k → e = begC cuts (j + 1) from fun h => by rw [he, beg_succ cuts n j (by omega)])
       have HPL := Lib.hid hpl
       have HXB := Lib.hid hX
       have HEB := Lib.hid (show e = endC cuts b.length j from by rw [HL.out.1]; exact he)
       have HRW := Lib.hid (HR.out.mono hbq)
       have HEI := Lib.hid (show j < k → cuts.getD j 0 = (e : Int) from fun h => by
         rw [he]; unfold endC; rw [if_pos (by omega)]
         have h1 := hfo j (by omega)
         have h2 := hfo.pos j (by omega)
         omega)
       have HEN := Lib.hid (show j = k → e = n from fun h => by rw [he]; unfold endC; rw [if_neg (by omega)])
       have HMC := Lib.hid hmc
       have hR1 := (HR1.out.mono hbq)
       clear hX hfo he hpl hbq hkb hx hmem hcc2 hmc
       have hjc : j < k ∨ j = k := by omega
       by_cases h0 : n = 0
       · have hp0 : partC cuts b j = [] := List.eq_nil_of_length_eq_zero (by rw [HPL.out]; omega)
         obtain rfl : X = 0 := by omega
         obtain rfl : e = 0 := by omega
         subst h0
         have HBX5 := HBX
         cases a with
         | none =>
           obtain rfl : cap = 0 := HRW.out.2.2.2.1 rfl
           have hrow0 : Row wr 1 none 0 0 ((partC cuts b j).map fun x => .int .u8 x.toNat) := by rw [hp0]; exact Row.nil wr 1
           rcases hjc with hjlt | hjeq
           · have hlt : decide ((j : Int) < (k : Int)) = true := decide_eq_true (by omega)
             have hji : (j : Int) < (k : Int) := by omega
             have hqe : ((j : Int) == (k : Int)) = false := by simp; omega
             obtain ⟨b1, o1, ha1, -, hcc1⟩ := hR1.at (0 : Int) 0 (by omega)
             subst ha1
             have z1 := hcc1 j hjlt
             rw [HEI.out hjlt] at z1
             clear hcc1
             have HPT := Lib.hid (HPART.out none 0 0 false wr.drew ((Below.refl _ _).drew) (hrow0.mono ((Below.refl _ _).drew)) (fun x hx => by cases hx) (by omega))
             have e0 : wr.drew.cell? ⟨tb, 0, none⟩ = some (.pointer (some ⟨wb, 0, none⟩)) := ct
             clear hR1
             go_upto_region 21 with fail
             go_region_held3 (fun w' => w'.cell? ⟨tb, 0, none⟩ = some (.pointer (some ⟨wb, 0, none⟩))) (first | assumption | exact e0 | exact hn5.cell ht2 hSt)
               (first
                 | (go_at_call 29; refine HPT.out.mono ?_; rintro e2 w5 ⟨rfl, Y, hY, hYl, hn5⟩))
             have HN5 := Lib.hid hn5
             have HY := Lib.hid (And.intro hY hYl)
             clear hn5 hY hYl HPT e0
             go_wp2_with fail
             go_roundw
             case rel => (repeat apply Exists.intro); exact ⟨⟨j + 1, 0, _, _, by go_num, by omega, by rfl, HBX5, Lib.hid (HSTEP.out _ Y (by rw [decide_eq_false (by have := HMC.out; omega)]) HY.out.1), by omega, Lib.hid (by rw [List.length_append]; have h1 := HZ.out; have h2 := HY.out.2; have h3 := HPL.out; omega), HN5⟩, rfl⟩
             case measure => simp [intOf] <;> omega
           · subst hjeq
             have hlt : decide ((j : Int) < (j : Int)) = false := decide_eq_false (by omega)
             have hji : ¬ ((j : Int) < (j : Int)) := by omega
             have hqe : ((j : Int) == (j : Int)) = true := by simp
             have HPT := Lib.hid (HPART.out none 0 0 true wr.drew ((Below.refl _ _).drew) (hrow0.mono ((Below.refl _ _).drew)) (fun x hx => by cases hx) (by omega))
             have e0 : wr.drew.cell? ⟨tb, 0, none⟩ = some (.pointer (some ⟨wb, 0, none⟩)) := ct
             clear hR1
             go_upto_region 21 with fail
             go_region_held3 (fun w' => w'.cell? ⟨tb, 0, none⟩ = some (.pointer (some ⟨wb, 0, none⟩))) (first | assumption | exact e0 | exact hn5.cell ht2 hSt)
               (first
                 | (go_at_call 29; refine HPT.out.mono ?_; rintro e2 w5 ⟨rfl, Y, hY, hYl, hn5⟩))
             have HN5 := Lib.hid hn5
             have HY := Lib.hid (And.intro hY hYl)
             clear hn5 hY hYl HPT e0
             go_wp2_with fail
             go_roundw
             case rel => (repeat apply Exists.intro); exact ⟨⟨j + 1, 0, _, _, by go_num, by omega, by rfl, HBX5, Lib.hid (HSTEP.out _ Y (by rw [decide_eq_true (by have := HMC.out; omega)]) HY.out.1), by omega, Lib.hid (by rw [List.length_append]; have h1 := HZ.out; have h2 := HY.out.2; have h3 := HPL.out; omega), HN5⟩, rfl⟩
             case measure => simp [intOf] <;> omega
         | some xa =>
           have hrow0 : Row wr 1 (some xa) 0 cap ((partC cuts b j).map fun x => .int .u8 x.toNat) := by rw [hp0]; exact ⟨rfl, Nat.zero_le _, HRW.out.2.2.1, fun h => (by cases h), fun h => absurd h (Nat.lt_irrefl _)⟩
           rcases hjc with hjlt | hjeq
           · have hlt : decide ((j : Int) < (k : Int)) = true := decide_eq_true (by omega)
             have hji : (j : Int) < (k : Int) := by omega
             have hqe : ((j : Int) == (k : Int)) = false := by simp; omega
             obtain ⟨b1, o1, ha1, -, hcc1⟩ := hR1.at (0 : Int) 0 (by omega)
             subst ha1
             have z1 := hcc1 j hjlt
             rw [HEI.out hjlt] at z1
             clear hcc1
             have HPT := Lib.hid (HPART.out (some xa) 0 cap false wr.drew ((Below.refl _ _).drew) (hrow0.mono ((Below.refl _ _).drew)) (fun x hx => HAL.out x hx) (by omega))
             have e0 : wr.drew.cell? ⟨tb, 0, none⟩ = some (.pointer (some ⟨wb, 0, none⟩)) := ct
             clear hR1
             go_upto_region 21 with fail
             go_region_held3 (fun w' => w'.cell? ⟨tb, 0, none⟩ = some (.pointer (some ⟨wb, 0, none⟩))) (first | assumption | exact e0 | exact hn5.cell ht2 hSt)
               (first
                 | (go_at_call 29; refine HPT.out.mono ?_; rintro e2 w5 ⟨rfl, Y, hY, hYl, hn5⟩))
             have HN5 := Lib.hid hn5
             have HY := Lib.hid (And.intro hY hYl)
             clear hn5 hY hYl HPT e0
             go_wp2_with fail
             go_roundw
             case rel => (repeat apply Exists.intro); exact ⟨⟨j + 1, 0, _, _, by go_num, by omega, by rfl, HBX5, Lib.hid (HSTEP.out _ Y (by rw [decide_eq_false (by have := HMC.out; omega)]) HY.out.1), by omega, Lib.hid (by rw [List.length_append]; have h1 := HZ.out; have h2 := HY.out.2; have h3 := HPL.out; omega), HN5⟩, rfl⟩
             case measure => simp [intOf] <;> omega
           · subst hjeq
             have hlt : decide ((j : Int) < (j : Int)) = false := decide_eq_false (by omega)
             have hji : ¬ ((j : Int) < (j : Int)) := by omega
             have hqe : ((j : Int) == (j : Int)) = true := by simp
             have HPT := Lib.hid (HPART.out (some xa) 0 cap true wr.drew ((Below.refl _ _).drew) (hrow0.mono ((Below.refl _ _).drew)) (fun x hx => HAL.out x hx) (by omega))
             have e0 : wr.drew.cell? ⟨tb, 0, none⟩ = some (.pointer (some ⟨wb, 0, none⟩)) := ct
             clear hR1
             go_upto_region 21 with fail
             go_region_held3 (fun w' => w'.cell? ⟨tb, 0, none⟩ = some (.pointer (some ⟨wb, 0, none⟩))) (first | assumption | exact e0 | exact hn5.cell ht2 hSt)
               (first
                 | (go_at_call 29; refine HPT.out.mono ?_; rintro e2 w5 ⟨rfl, Y, hY, hYl, hn5⟩))
             have HN5 := Lib.hid hn5
             have HY := Lib.hid (And.intro hY hYl)
             clear hn5 hY hYl HPT e0
             go_wp2_with fail
             go_roundw
             case rel => (repeat apply Exists.intro); exact ⟨⟨j + 1, 0, _, _, by go_num, by omega, by rfl, HBX5, Lib.hid (HSTEP.out _ Y (by rw [decide_eq_true (by have := HMC.out; omega)]) HY.out.1), by omega, Lib.hid (by rw [List.length_append]; have h1 := HZ.out; have h2 := HY.out.2; have h3 := HPL.out; omega), HN5⟩, rfl⟩
             case measure => simp [intOf] <;> omega
       obtain ⟨bb, off, rfl, -, -⟩ := HRW.out.at 0 0 (by omega)
       by_cases hcx : cap = X
       · have heX : X = e := by omega
         subst heX
         subst hcx
         have HBX5 := HBX
         have hp0 : partC cuts b j = [] := List.eq_nil_of_length_eq_zero (by rw [HPL.out]; omega)
         have hrow0 : Row wr 1 (some ⟨bb, off, none⟩) 0 0 ((partC cuts b j).map fun x => .int .u8 x.toNat) := by rw [hp0]; exact ⟨rfl, Nat.le_refl _, by unfold maxLen; omega, fun h => (by cases h), fun h => absurd h (Nat.lt_irrefl _)⟩
         rcases hjc with hjlt | hjeq
         · have hlt : decide ((j : Int) < (k : Int)) = true := decide_eq_true (by omega)
           have hji : (j : Int) < (k : Int) := by omega
           have hqe : ((j : Int) == (k : Int)) = false := by simp; omega
           obtain ⟨b1, o1, ha1, -, hcc1⟩ := hR1.at (0 : Int) 0 (by omega)
           subst ha1
           have z1 := hcc1 j hjlt
           rw [HEI.out hjlt] at z1
           clear hcc1
           have HPT := Lib.hid (HPART.out (some ⟨bb, off, none⟩) 0 0 false wr.drew ((Below.refl _ _).drew) (hrow0.mono ((Below.refl _ _).drew)) (fun x hx => HAL.out x hx) (by omega))
           have e0 : wr.drew.cell? ⟨tb, 0, none⟩ = some (.pointer (some ⟨wb, 0, none⟩)) := ct
           clear hR1
           go_upto_region 21 with fail
           go_region_held3 (fun w' => w'.cell? ⟨tb, 0, none⟩ = some (.pointer (some ⟨wb, 0, none⟩))) (first | assumption | exact e0 | exact hn5.cell ht2 hSt)
             (first
               | (go_at_call 29; refine HPT.out.mono ?_; rintro e2 w5 ⟨rfl, Y, hY, hYl, hn5⟩))
           have HN5 := Lib.hid hn5
           have HY := Lib.hid (And.intro hY hYl)
           clear hn5 hY hYl HPT e0
           go_wp2_with fail
           go_roundw
           case rel => exact ⟨j + 1, cap, _, _, by go_num, by omega, by rfl, HBX5, Lib.hid (HSTEP.out _ Y (by rw [decide_eq_false (by have := HMC.out; omega)]) HY.out.1), by omega, Lib.hid (by rw [List.length_append]; have h1 := HZ.out; have h2 := HY.out.2; have h3 := HPL.out; omega), HN5⟩
           case measure => simp [intOf] <;> omega
         · subst hjeq
           have hen := HEN.out rfl
           subst hen
           have hlt : decide ((j : Int) < (j : Int)) = false := decide_eq_false (by omega)
           have hji : ¬ ((j : Int) < (j : Int)) := by omega
           have hqe : ((j : Int) == (j : Int)) = true := by simp
           have HPT := Lib.hid (HPART.out (some ⟨bb, off, none⟩) 0 0 true wr.drew ((Below.refl _ _).drew) (hrow0.mono ((Below.refl _ _).drew)) (fun x hx => HAL.out x hx) (by omega))
           have e0 : wr.drew.cell? ⟨tb, 0, none⟩ = some (.pointer (some ⟨wb, 0, none⟩)) := ct
           clear hR1
           go_upto_region 21 with fail
           go_region_held3 (fun w' => w'.cell? ⟨tb, 0, none⟩ = some (.pointer (some ⟨wb, 0, none⟩))) (first | assumption | exact e0 | exact hn5.cell ht2 hSt)
             (first
               | (go_at_call 29; refine HPT.out.mono ?_; rintro e2 w5 ⟨rfl, Y, hY, hYl, hn5⟩))
           have HN5 := Lib.hid hn5
           have HY := Lib.hid (And.intro hY hYl)
           clear hn5 hY hYl HPT e0
           go_wp2_with fail
           go_roundw
           case rel => exact ⟨j + 1, cap, _, _, by go_num, by omega, by rfl, HBX5, Lib.hid (HSTEP.out _ Y (by rw [decide_eq_true (by have := HMC.out; omega)]) HY.out.1), by omega, Lib.hid (by rw [List.length_append]; have h1 := HZ.out; have h2 := HY.out.2; have h3 := HPL.out; omega), HN5⟩
           case measure => simp [intOf] <;> omega
       · have hcx2 : ¬ ((cap : Int) = (X : Int)) := by omega
         have hi1 : (X : Int) ≤ (e : Int) := by omega
         have hi2 : (e : Int) ≤ (cap : Int) := by omega
         have HBX5 := HBX
         have hrow0 : Row wr 1 (some ⟨bb, off + X, none⟩) (e - X) (cap - X) ((partC cuts b j).map fun x => .int .u8 x.toNat) := piece_row HRW.out HXB.out HEB.out HPL.out (by omega) (by omega)
         rcases hjc with hjlt | hjeq
         · have hlt : decide ((j : Int) < (k : Int)) = true := decide_eq_true (by omega)
           have hji : (j : Int) < (k : Int) := by omega
           have hqe : ((j : Int) == (k : Int)) = false := by simp; omega
           obtain ⟨b1, o1, ha1, -, hcc1⟩ := hR1.at (0 : Int) 0 (by omega)
           subst ha1
           have z1 := hcc1 j hjlt
           rw [HEI.out hjlt] at z1
           clear hcc1
           have HPT := Lib.hid (HPART.out (some ⟨bb, off + X, none⟩) (e - X) (cap - X) false wr.drew ((Below.refl _ _).drew) (hrow0.mono ((Below.refl _ _).drew)) (fun x hx => by cases hx; exact HAL.out ⟨bb, off, none⟩ rfl) (by omega))
           have e0 : wr.drew.cell? ⟨tb, 0, none⟩ = some (.pointer (some ⟨wb, 0, none⟩)) := ct
           clear hR1
           go_upto_region 21 with fail
           go_region_held3 (fun w' => w'.cell? ⟨tb, 0, none⟩ = some (.pointer (some ⟨wb, 0, none⟩))) (first | assumption | exact e0 | exact hn5.cell ht2 hSt)
             (first
               | (go_at_call 29; refine HPT.out.mono ?_; rintro e2 w5 ⟨rfl, Y, hY, hYl, hn5⟩))
           have HN5 := Lib.hid hn5
           have HY := Lib.hid (And.intro hY hYl)
           clear hn5 hY hYl HPT e0
           go_wp2_with fail
           go_roundw
           case rel => exact ⟨j + 1, e, _, _, by go_num, by omega, by rfl, HBX5, Lib.hid (HSTEP.out _ Y (by rw [decide_eq_false (by have := HMC.out; omega)]) HY.out.1), by omega, Lib.hid (by rw [List.length_append]; have h1 := HZ.out; have h2 := HY.out.2; have h3 := HPL.out; omega), HN5⟩
           case measure => simp [intOf] <;> omega
         · subst hjeq
           have hen := HEN.out rfl
           subst hen
           have hlt : decide ((j : Int) < (j : Int)) = false := decide_eq_false (by omega)
           have hji : ¬ ((j : Int) < (j : Int)) := by omega
           have hqe : ((j : Int) == (j : Int)) = true := by simp
           have HPT := Lib.hid (HPART.out (some ⟨bb, off + X, none⟩) (e - X) (cap - X) true wr.drew ((Below.refl _ _).drew) (hrow0.mono ((Below.refl _ _).drew)) (fun x hx => by cases hx; exact HAL.out ⟨bb, off, none⟩ rfl) (by omega))
           have e0 : wr.drew.cell? ⟨tb, 0, none⟩ = some (.pointer (some ⟨wb, 0, none⟩)) := ct
           clear hR1
           go_upto_region 21 with fail
           go_region_held3 (fun w' => w'.cell? ⟨tb, 0, none⟩ = some (.pointer (some ⟨wb, 0, none⟩))) (first | assumption | exact e0 | exact hn5.cell ht2 hSt)
             (first
               | (go_at_call 29; refine HPT.out.mono ?_; rintro e2 w5 ⟨rfl, Y, hY, hYl, hn5⟩))
           have HN5 := Lib.hid hn5
           have HY := Lib.hid (And.intro hY hYl)
           clear hn5 hY hYl HPT e0
           go_wp2_with fail
           go_roundw
           case rel => exact ⟨j + 1, e, _, _, by go_num, by omega, by rfl, HBX5, Lib.hid (HSTEP.out _ Y (by rw [decide_eq_true (by have := HMC.out; omega)]) HY.out.1), by omega, Lib.hid (by rw [List.length_append]; have h1 := HZ.out; have h2 := HY.out.2; have h3 := HPL.out; omega), HN5⟩
           case measure => simp [intOf] <;> omega
     have hd3 : decide ((j : Int) < (k : Int) + 1) = false := decide_eq_false (by omega)
     have hj3 : ¬ ((j : Int) < (k : Int) + 1) := by omega
     obtain ⟨S3, q3, k3, s3⟩ := HN.out
     have hbq : Below wA.heap.size wA wr := HB2.out.trans (k3.below hw2 hS)
     have hzz : Z.length ≤ 500000 := by have h1 := HZ.out; omega
     have HBY := Lib.hid (wbytes_any wb false Z S3 wr q3 (by omega))
     have HDP := Lib.hid (HD.out.2 (by have h1 := HL.out.2.1; omega))
     have HZZ := Lib.hid hzz
     have HB3 := Lib.hid hbq
     have hsz := hbq.size
     clear q3 k3 s3 hbq hzz
     go_wp2_with fail
     refine HBY.out.mono ?_
     rintro e w4 ⟨bs, v, hw, rfl, hO, hb4⟩
     have HEND := Lib.hid (show BlkEnd wA b cuts kinds (.returned (.tuple #[v, .int .i64 0])) w4 from ⟨HB3.out.trans (hb4.mono hsz), .inr ⟨HF.out, bs, v, Z, l, rfl, zaI hO hsz, HDP.out.1, HDP.out.2, hw, wrote_600 hw HZZ.out⟩⟩)
     clear hw hO hb4 HBY
     go_wp2_with fail
     go_ret2
     exact HEND.out
theorem badK_iff {x : Int} : badK x = false ↔ (0 ≤ x ∧ x ≤ 2) := by
 unfold badK
 rw [Bool.or_eq_false_iff, decide_eq_false_iff_not, decide_eq_false_iff_not]
 omega
theorem anyBad_succ {l : List Int} {k : Nat} (h : k < l.length) : (l.take (k + 1)).any badK = ((l.take k).any badK || badK (l.getD k 0)) := by
 rw [List.take_succ_eq_append_getElem h, List.any_append, List.getD_eq_getElem?_getD, List.getElem?_eq_getElem h]
 simp
theorem okTo_succ {cuts : List Int} {L k : Nat} : OkTo cuts L (k + 1) ↔ (OkTo cuts L k ∧ atC cuts k ≤ cuts.getD k 0 ∧ cuts.getD k 0 ≤ (L : Int)) := by
 constructor
 · intro h
   exact ⟨fun j hj => h j (by omega), h k (by omega)⟩
 · intro ⟨h1, h2⟩ j hj
   by_cases e : j = k
   · rw [e]; exact h2
   · exact h1 j (by omega)
set_option maxRecDepth 20000 in
theorem law_dblocks (a a1 a2 : Option Addr) (cap cap1 cap2 : Nat) (b : List UInt8) (cuts kinds : List Int) (w : World) (hr : Row w 1 a b.length cap (b.map u8C)) (hal : ∀ x, a = some x → x.block < w.heap.size) (hr1 : Row w 1 a1 cuts.length cap1 (cuts.map fun x => .int .i64 x)) (hr2 : Row w 1 a2 kinds.length cap2 (kinds.map fun x => .int .i64 x)) :
   Calls Tryz.prog 5 #[.slice a b.length cap, .slice a1 cuts.length cap1, .slice a2 kinds.length cap2] w fun e w' => e = .returned (.bool true) ∧ Below w.heap.size w w' := by
 have HW := Lib.hid (fun W => works7_any W)
 have hni : (b.length : Int) ≤ 9223372036854775807 := hr.i64
 have hmi : (cuts.length : Int) ≤ 9223372036854775807 := hr1.i64
 have hqi : (kinds.length : Int) ≤ 9223372036854775807 := hr2.i64
 obtain ⟨n, hn⟩ : ∃ n, n = b.length := ⟨_, rfl⟩
 obtain ⟨m, hm⟩ : ∃ n, n = cuts.length := ⟨_, rfl⟩
 obtain ⟨q, hq⟩ : ∃ n, n = kinds.length := ⟨_, rfl⟩
 rw [← hn] at hr hni ⊢
 rw [← hm] at hr1 hmi ⊢
 rw [← hq] at hr2 hqi ⊢
 have HL := Lib.hid (And.intro hn (And.intro hm hq))
 by_cases h1 : 1500 < n ∨ 40 < m ∨ 41 < q
 · have d1 : decide ((n : Int) > 1500) = true ∨ (decide ((n : Int) > 1500) = false ∧ decide ((m : Int) > 40) = true) ∨ (decide ((n : Int) > 1500) = false ∧ decide ((m : Int) > 40) = false ∧ decide ((q : Int) > 41) = true) := by
     by_cases e1 : 1500 < n
     · exact .inl (decide_eq_true (by omega))
     by_cases e2 : 40 < m
     · exact .inr (.inl ⟨decide_eq_false (by omega), decide_eq_true (by omega)⟩)
     · exact .inr (.inr ⟨decide_eq_false (by omega), decide_eq_false (by omega), decide_eq_true (by omega)⟩)
   clear hr hr1 hr2 hal hn hm hq h1
   rcases d1 with d1 | ⟨d1, d2⟩ | ⟨d1, d2, d3⟩ <;> (
     go_enter Tryz.func5, Tryz.ntmps5
     go_wp2_with fail
     refine (HW.out w).mono ?_
     rintro e w1 ⟨rfl, hb⟩
     have HB := Lib.hid hb
     clear hb
     go_wp2_with fail
     go_ret
     exact ⟨rfl, HB.out⟩)
 have d1 : decide ((n : Int) > 1500) = false := decide_eq_false (by omega)
 have d2 : decide ((m : Int) > 40) = false := decide_eq_false (by omega)
 have d3 : decide ((q : Int) > 41) = false := decide_eq_false (by omega)
 have hn15 : n ≤ 1500 := by omega
 have hm40 : m ≤ 40 := by omega
 have hq41 : q ≤ 41 := by omega
 have HBL := Lib.hid (blocks_any hr hal hr1 hr2 hn15 hm40 hq41)
 have HR := Lib.hid hr
 have HR1 := Lib.hid hr1
 have HR2 := Lib.hid hr2
 clear hr hr1 hr2 hal hn hm hq h1
 obtain ⟨f0, hf0⟩ : ∃ f0 : Bool, f0 = ((q : Int) == (m : Int) + 1) := ⟨_, rfl⟩
 have hf1 : f0 = true ↔ q = m + 1 := by rw [hf0]; simp; omega
 have HF0 := Lib.hid hf1
 replace hf0 := hf0.symm
 clear hf1
 go_enter Tryz.func5, Tryz.ntmps5
 go_wp2_with fail
 go_loopw [7, 8] (fun vf v wr => ∃ (k : Nat) (f : Bool), vf = .bool f ∧ v = .int .i64 k ∧ k ≤ q ∧ wr = w ∧ Hid (f = true ↔ (q = m + 1 ∧ (kinds.take k).any badK = false))) (fun _ v _ => q - (intOf v).toNat)
 case atStart => exact ⟨0, f0, rfl, rfl, Nat.zero_le _, rfl, Lib.hid (by rw [HF0.out]; simp)⟩
 case round =>
   obtain ⟨k, f, rfl, rfl, hk, rfl, HF⟩ := hrel
   by_cases hkq : k < q
   case pos =>
     have hd : decide ((k : Int) < (q : Int)) = true := decide_eq_true (by omega)
     have hki : (k : Int) < (q : Int) := by omega
     obtain ⟨bb, off, rfl, -, hcc⟩ := HR2.out.at (0 : Int) 0 (by omega)
     have z0 := hcc k hkq
     have HT := Lib.hid (anyBad_succ (l := kinds) (k := k) (by have := HL.out.2.2; omega))
     clear hcc
     generalize kinds.getD k 0 = x at *
     cases f with
     | false =>
       have HN := Lib.hid (show (false = true ↔ (q = m + 1 ∧ (kinds.take (k + 1)).any badK = false)) from ⟨(fun h => (by cases h)), (fun ⟨h1, h2⟩ => HF.out.2 ⟨h1, by
         have h3 := HT.out
         rw [h2] at h3
         exact (Bool.or_eq_false_iff.mp h3.symm).1⟩)⟩)
       clear z0
       go_wp2_with fail
       go_roundw
       case rel => exact ⟨k + 1, false, rfl, by go_num, by omega, by trivial, HN⟩
       case measure => simp [intOf]; omega
     | true =>
       have HN := Lib.hid (show (decide (x ≥ 0) && decide (x ≤ 2)) = true ↔ (q = m + 1 ∧ (kinds.take (k + 1)).any badK = false) from by
         rw [HT.out, Bool.or_eq_false_iff, (HF.out.1 rfl).2, badK_iff, Bool.and_eq_true, decide_eq_true_iff, decide_eq_true_iff]
         exact ⟨fun h => ⟨(HF.out.1 rfl).1, rfl, h.1, h.2⟩, fun h => ⟨h.2.2.1, h.2.2.2⟩⟩)
       obtain ⟨e1, he1⟩ : ∃ e, e = decide (x ≥ 0) := ⟨_, rfl⟩
       obtain ⟨e2, he2⟩ : ∃ e, e = decide (x ≤ 2) := ⟨_, rfl⟩
       rw [← he1, ← he2] at HN
       replace he1 := he1.symm
       replace he2 := he2.symm
       cases e1 with
       | false =>
         clear he2
         go_wp2_with fail
         go_roundw
         case rel => exact ⟨k + 1, false, rfl, by go_num, by omega, by trivial, HN⟩
         case measure => simp [intOf]; omega
       | true =>
         go_wp2_with fail
         go_roundw
         case rel => exact ⟨k + 1, e2, rfl, by go_num, by omega, by trivial, HN⟩
         case measure => simp [intOf]; omega
   have hkk : k = q := by omega
   subst hkk
   have hd : decide ((k : Int) < (k : Int)) = false := decide_eq_false (by omega)
   have HF1 := Lib.hid (show f = true ↔ (k = m + 1 ∧ kinds.any badK = false) from by
     have h := HF.out
     rwa [HL.out.2.2, List.take_length, ← HL.out.2.2] at h)
   clear HF
   obtain ⟨wA, hwA⟩ : ∃ wA, wA = wr := ⟨_, rfl⟩
   subst hwA
   go_wp2_with fail
   go_loopw [7, 9, 10] (fun vf vt v wr => ∃ (j : Nat) (g : Bool), vf = .bool g ∧ vt = .int .i64 (atC cuts j) ∧ v = .int .i64 j ∧ j ≤ m ∧ wr = wA ∧ Hid (g = true ↔ (f = true ∧ OkTo cuts n j))) (fun _ _ v _ => m - (intOf v).toNat)
   case atStart => exact ⟨0, f, rfl, by unfold atC; rw [if_pos rfl], rfl, Nat.zero_le _, rfl, Lib.hid ⟨fun h => ⟨h, fun j hj => absurd hj (Nat.not_lt_zero _)⟩, fun h => h.1⟩⟩
   case round =>
     obtain ⟨j, g, rfl, rfl, rfl, hj, rfl, HG⟩ := hrel
     by_cases hjm : j < m
     case pos =>
       have hdj : decide ((j : Int) < (m : Int)) = true := decide_eq_true (by omega)
       have hji : (j : Int) < (m : Int) := by omega
       obtain ⟨bb, off, rfl, -, hcc⟩ := HR1.out.at (0 : Int) 0 (by omega)
       have z0 := hcc j hjm
       have HS := Lib.hid (atC_succ cuts j)
       have HK := Lib.hid (okTo_succ (cuts := cuts) (L := n) (k := j))
       clear hcc
       generalize cuts.getD j 0 = x at *
       generalize atC cuts j = y at *
       cases g with
       | false =>
         have HN := Lib.hid (show (false = true ↔ (f = true ∧ OkTo cuts n (j + 1))) from ⟨(fun h => (by cases h)), (fun ⟨h1, h2⟩ => HG.out.2 ⟨h1, (HK.out.1 h2).1⟩)⟩)
         go_wp2_with fail
         go_roundw
         case rel => exact ⟨j + 1, false, rfl, by rw [HS.out], by go_num, by omega, by trivial, HN⟩
         case measure => simp [intOf]; omega
       | true =>
         have HN := Lib.hid (show (decide (x ≥ y) && decide (x ≤ (n : Int))) = true ↔ (f = true ∧ OkTo cuts n (j + 1)) from by
           rw [HK.out, Bool.and_eq_true, decide_eq_true_iff, decide_eq_true_iff]
           have h := HG.out.1 rfl
           exact ⟨fun k => ⟨h.1, h.2, k.1, k.2⟩, fun k => ⟨k.2.2.1, k.2.2.2⟩⟩)
         obtain ⟨e1, he1⟩ : ∃ e, e = decide (x ≥ y) := ⟨_, rfl⟩
         obtain ⟨e2, he2⟩ : ∃ e, e = decide (x ≤ (n : Int)) := ⟨_, rfl⟩
         rw [← he1, ← he2] at HN
         replace he1 := he1.symm
         replace he2 := he2.symm
         cases e1 with
         | false =>
           clear he2
           go_wp2_with fail
           go_roundw
           case rel => exact ⟨j + 1, false, rfl, by rw [HS.out], by go_num, by omega, by trivial, HN⟩
           case measure => simp [intOf]; omega
         | true =>
           go_wp2_with fail
           go_roundw
           case rel => exact ⟨j + 1, e2, rfl, by rw [HS.out], by go_num, by omega, by trivial, HN⟩
           case measure => simp [intOf]; omega
     have hjj : j = m := by omega
     subst hjj
     have hdj : decide ((j : Int) < (j : Int)) = false := decide_eq_false (by omega)
     have HFF := Lib.hid (show g = true ↔ FineB b cuts kinds from by
       rw [HG.out, HF1.out]
       unfold FineB
       rw [← HL.out.1, ← HL.out.2.1, ← HL.out.2.2]
       exact ⟨fun h => ⟨h.1.1, h.1.2, h.2⟩, fun h => ⟨⟨h.1, h.2.1⟩, h.2.2⟩⟩)
     clear HG HF1 HR1 HR2
     generalize atC cuts j = y
     go_wp2_with fail
     refine HBL.out.mono ?_
     rintro e w1 ⟨hb1, ⟨hnf, rfl⟩ | ⟨hfi, p, v, Z, l, rfl, hO, hP, hfl, hw, hpl⟩⟩
     · have hg : g = false := by
         cases g with
         | false => rfl
         | true => exact absurd (HFF.out.1 rfl) hnf
       subst hg
       have HB1 := Lib.hid hb1
       clear hb1 hnf HBL
       go_wp2_with fail
       refine (HW.out _).mono ?_
       rintro e w2 ⟨rfl, hb⟩
       have HB := Lib.hid (HB1.out.trans (hb.mono HB1.out.size))
       clear hb
       go_wp2_with fail
       go_ret
       exact ⟨rfl, HB.out⟩
     have hg : g = true := HFF.out.2 hfi
     subst hg
     obtain ⟨a3, c3, rfl, hR, -⟩ := Row.of_owns hO
     obtain ⟨he, hres, hrn⟩ := hP.res hw (most := n) (by rw [hfl]; have := HL.out; omega)
     rw [hfl] at hres
     have HE := Lib.hid (And.intro he (And.intro hres hrn))
     have HB1 := Lib.hid hb1
     have HI := Lib.hid (zdP w1 a3 c3 n p hR (by omega) (by omega))
     generalize endI p n = s at HI HE
     obtain ⟨P, hPe⟩ : ∃ P, P = p.length := ⟨_, rfl⟩
     rw [← hPe] at hpl HI HE ⊢
     clear hb1 hO hP hw hR hfl he hres hrn hfi HBL HFF hPe
     go_wp2_with fail
     refine HI.out.mono ?_
     rintro e w2 ⟨v2, B2, rfl, hO2, hb2⟩
     rw [HE.out.1, HE.out.2.2]
     rw [HE.out.2.1] at hO2
     obtain ⟨a4, c4, rfl, -, -⟩ := Row.of_owns hO2
     have HB2 := Lib.hid (HB1.out.trans (hb2.mono HB1.out.size))
     have hcx : (convert 22 9 (.slice a4 b.length c4)).run Tryz.prog w2 = .ok (.string (mkB7 b)) w2 := zaW (o := b) hO2
     have hcb : (convert 22 9 (.slice a n cap)).run Tryz.prog w2 = .ok (.string (mkB7 b)) w2 := by
       have h2 := zfa (bs := b) (a := a) (cap := cap) (by rw [← HL.out.1]; exact HR.out.mono HB2.out)
       rw [← HL.out.1] at h2
       exact h2
     rw [← HL.out.1] at hcx ⊢
     clear hO2 hb2 HB1 HI
     generalize mkB7 b = x at *
     go_wp2_with fail
     refine (HW.out _).mono ?_
     rintro e w3 ⟨rfl, hb⟩
     have HB := Lib.hid (HB2.out.trans (hb.mono HB2.out.size))
     clear hb
     go_wp2_with fail
     go_ret
     exact ⟨rfl, HB.out⟩
end Go.Proofs.YtkikhmdpcanidaaGreat
namespace Go.Proofs.YtkikhmdpcanidaaGreat
open Go.RowKit Go.ChangeShapes Go.WideShapes
theorem ints_z {H : Type} {enc : TypeId × Value → H} {w : World} {a : Option Addr} {n cap : Nat} {d : DataW H} {p : List MemPlace} (h : DataW.Trod enc Tryz.prog w 0 (fun _ => true) true 34 (.slice a n cap) d p) :
   ∃ l : List Int, l.length = n ∧ Row w 1 a l.length cap (l.map fun x => .int .i64 x) ∧ ∀ x ∈ l, -9223372036854775808 ≤ x ∧ x ≤ 9223372036854775807 := by
 obtain ⟨fuel, hf⟩ := h
 rcases open_ints Tryz.underlying34 Tryz.underlying3 (by kernel_rfl) hf with ⟨hcs, _⟩ | ⟨x, l, c, zs, hcs, _, hl, hm, hz, _, hcell, hwz⟩
 · simp [Value.cells] at hcs
   obtain ⟨rfl, rfl, rfl⟩ := hcs
   exact ⟨[], rfl, Row.nil w 1, fun x hx => by cases hx⟩
 · simp [Value.cells] at hcs
   obtain ⟨rfl, rfl, rfl⟩ := hcs
   obtain ⟨h1, h2, h3⟩ := row_arg (k := .i64) (w := w) (a := some x) (len := n) (cap := cap) (zs := zs) (.inr ⟨x, rfl, hl, hm, by simpa using hz, hcell, hwz⟩)
   exact ⟨zs.take n, h3, by rw [h3]; exact h1, fun y hy => wf_i64_bd (h2 y hy)⟩
end Go.Proofs.YtkikhmdpcanidaaGreat
