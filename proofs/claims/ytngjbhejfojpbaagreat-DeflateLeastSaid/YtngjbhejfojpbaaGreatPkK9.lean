/-
  Our texts Dw7 to Cat, in one.
-/
import Derived.Test.YtngjbhejfojpbaaGreatPkK8
import Derived.Lib.SlBytesConst
import Derived.Lib.SmallJoins
import Derived.Deep.OwnRows
import Derived.RangeFuncNested
import Derived.RangeFuncBound
import Derived.RangeFuncCalls
import Derived.RangeFuncLeaves
import Derived.Shelf.Abstract
import Derived.Shelf.RegionOpen
import Derived.WalkKit
import Derived.OwnWalkIn
import Derived.TacticsInMore
import Derived.LoopNIn
import Derived.LoopIn
import Derived.Sort.QuietIn
import Derived.BigRegion
import Derived.Ground.SlsfProg
import Derived.Shelf.SlSortCmp.Whole1
import Derived.Test.YtngjbhejfojpbaaGreatProg
import Derived.Lib.AppendZeros
set_option maxRecDepth 8000
set_option maxHeartbeats 8000000
namespace Go.Proofs.YtngjbhejfojpbaaGreat
open Go.RowKit Go.Sort
def DefEnd (w : World) (b : List UInt8) (kind : Nat) (e : Ending) (w' : World) : Prop :=
 Below w.heap.size w w' ∧ ∃ (bs : List UInt8) (v : Value) (Z : List Bool) (k : Nat), e = .returned (.tuple #[v, .int .i64 0]) ∧ w'.ownsRow w.heap.size 5 1 v bs.length (bs.map fun b => .int .u8 b.toNat) ∧ k ≤ 2 ∧ (kind ≤ 2 → k = kind) ∧ (zdj 0 k true b Z ∧ PartX k true b Z) ∧ zbi bs false Z ∧ Z.length ≤ 60 * b.length + 8000
theorem zcz {w : World} {n cap kind : Nat} {a : Option Addr} {b : List UInt8} (hk : kind ≤ 2) (hd : kind = 2 → zfm) (hr : Row w 1 a n cap (b.map fun x => .int .u8 x.toNat)) (hal : ∀ x, a = some x → x.block < w.heap.size) (hb : n ≤ 65535) :
   Calls Tryz.prog 7 #[.slice a n cap, .int .i64 kind] w (DefEnd w b kind) := by
 have hbA := zam w (.cells #[.slice a n cap] 22)
 have hsA := zae w (.cells #[.slice a n cap] 22)
 have hc : (w.alloc (.cells #[.slice a n cap] 22)).cell? ⟨w.heap.size, 0, none⟩ = some (.slice a n cap) := by
   rw [cell_of_row _ _ 0 _ _ _ (heap_alloc_new w _)]; rfl
 have HP := Lib.hid (pack_any hk hd (hr.mono hbA) (fun x hx => by have := hal x hx; omega) hc hb)
 have HB := Lib.hid hbA
 have d1 : decide ((kind : Int) < 0) = false := decide_eq_false (by omega)
 have d2 : decide ((kind : Int) > 3) = false := decide_eq_false (by omega)
 have d3 : decide ((n : Int) > 16777216) = false := decide_eq_false (by omega)
 have d4 : ((kind : Int) != 3) = true := by simp; omega
 have d4b : ((kind : Int) == 3) = false := by simp; omega
 have d4c : decide ((kind : Int) = 3) = false := decide_eq_false (by omega)
 clear hr hal hbA hsA
 go_enter Tryz.func7, Tryz.ntmps7
 go_upto_region 1 with fail
 generalize w.alloc (.cells #[.slice a n cap] 22) = w0 at HP HB hc ⊢
 go_wp2_with fail
 refine HP.out.mono ?_
 rintro e w1 ⟨hb1, bs, v, Z, rfl, hO, hZ, hw, hl⟩
 have HEND := Lib.hid (show DefEnd w b kind (.returned (.tuple #[v, .int .i64 0])) w1 from ⟨HB.out.trans (hb1.mono HB.out.size), bs, v, Z, kind, rfl, zaD hO HB.out.size, hk, fun _ => rfl, hZ, hw, hl⟩)
 clear hb1 hO hZ hw hl HP
 go_wp2_with fail
 go_ret2
 exact HEND.out
def mkB7 (l : List UInt8) : ByteArray := ⟨l.toArray⟩
theorem conv_own7 {w : World} {base : Nat} {v : Value} {o : List UInt8} (hr : w.ownsRow base 5 1 v o.length (o.map fun b => .int .u8 b.toNat)) : (convert 22 9 v).run Tryz.prog w = .ok (.string (mkB7 o)) w := by
 rcases hr.2 with ⟨rfl, h0⟩ | ⟨g, cap, cur, rfl, _⟩
 · have ho : o = [] := List.eq_nil_of_length_eq_zero h0
   subst ho
   rw [run_convert_bytes_string w 22 9 5 none 0 0 Tryz.underlying22 Tryz.underlying5 Tryz.underlying9]
   rfl
 · refine run_convert_bytes_back (P := Tryz.prog) w 22 9 5 ⟨g, 0, none⟩ cap o Tryz.underlying22 Tryz.underlying5 Tryz.underlying9 (fun j hj => ?_)
   exact hr.cells (g := g) rfl j (.int .u8 o[j].toNat) (by simp [hj])
theorem bound_zero (w : World) : Calls Tryz.prog 4 #[.int .i64 0] w fun e w' => e = .returned (.int .i64 5) ∧ w = w' := by
 go_enter Tryz.func4, Tryz.ntmps4
 go_wp2
 go_ret
 exact ⟨rfl, rfl⟩
theorem wrote_len {bs : List UInt8} {Z : List Bool} (h : zbi bs false Z) : bs.length ≤ (Z.length + 7) / 8 := Nat.le_of_eq h.1
theorem works07_one {bs : List UInt8} {Z : List Bool} {k : Nat} {b : List UInt8} (hP : zdj 0 k true b Z) (hw : zbi bs false Z) {most : Nat} (hm : b.length ≤ most) :
   (endI bs most).e = 0 ∧ resO (endI bs most) = b ∧ resN (endI bs most) = bs.length := by
 have h := (zb2.one (p := 0) hP).res (most := most) hw (by simpa using hm)
 simpa using h
set_option maxRecDepth 20000 in
theorem works7_any (w : World) : Calls Tryz.prog 6 #[] w fun e w' => e = .returned (.bool true) ∧ Below w.heap.size w w' := by
 have HA := Lib.hid (zcz (w := w) (n := 0) (cap := 0) (kind := 0) (a := none) (b := []) (by omega) (fun h => by omega) (Row.nil w 1) (fun x hx => by cases hx) (by omega))
 have kc := fun (W : World) (C : Array Value) (n c : Nat) => Lib.run_convert_bytes_const (P := Tryz.prog) W 22 5 C n c Tryz.underlying22 Tryz.underlying5
 go_enter Tryz.func6, Tryz.ntmps6
 go_wp2_with fail
 refine HA.out.mono ?_
 rintro e w1 ⟨hb1, bsA, vA, ZA, kA, rfl, hOA, -, hkA, hZA, hwA, -⟩
 obtain rfl := hkA (by omega)
 have hA : bsA = [1, 0, 0, 255, 255] := by
   rcases hZA.1 with ⟨-, -, rfl⟩ | ⟨h, -⟩ | ⟨h, -⟩
   · exact (sto_bytes hwA (by simp)).trans (by decide)
   · cases h
   · cases h
 subst hA
 obtain ⟨a1, c1, rfl, -, -⟩ := Row.of_owns hOA
 have HOA := Lib.hid hOA
 have HB1 := Lib.hid hb1
 clear hOA hZA hwA hkA hb1
 have hbC := zam w1 (.cells #[.int .u8 97] 5 (1, 2))
 have HBB := Lib.hid (zcz (w := w1.alloc (.cells #[.int .u8 97] 5 (1, 2))) (n := 1) (cap := 1) (kind := 1) (a := some ⟨w1.heap.size, 0, none⟩) (b := [97]) (by omega) (fun h => by omega)
   ⟨rfl, Nat.le_refl _, by simp [maxLen], fun h => (by cases h), fun _ => ⟨_, _, rfl, by rw [zae]; omega, fun j u hj => by
     rw [Nat.zero_add, World.cell?_alloc_mark]; simpa using hj⟩⟩ (fun x hx => by cases hx; rw [zae]; exact Nat.lt_succ_self _) (by omega))
 have HB2 := Lib.hid (HB1.out.trans (hbC.mono HB1.out.size))
 have HOA2 := Lib.hid (zaf HOA.out hbC)
 clear hbC HOA
 go_wp2_with fail
 refine HBB.out.mono ?_
 rintro e w3 ⟨hb3, bsB, vB, ZB, kB, rfl, hOB, -, hkB, hZB, hwB, -⟩
 obtain rfl := hkB (by omega)
 have hbl : bsB.length ≤ 100 := by
   rcases hZB.1 with ⟨h, -⟩ | ⟨-, ts, hts, rfl⟩ | ⟨h, -⟩
   · cases h
   · have h1 := fixB_le true (zbS hts)
     have h2 := zdV ts hts
     have h3 := wrote_len hwB
     simp at h2
     omega
   · cases h
 obtain ⟨he, hres, hrn⟩ := works07_one hZB.1 hwB (most := 9) (by decide)
 obtain ⟨a2, c2, rfl, hrB, -⟩ := Row.of_owns hOB
 have HI := Lib.hid (inflate_res w3 a2 c2 9 bsB hrB (by omega) (by omega))
 have HB3 := Lib.hid (HB2.out.trans (hb3.mono HB2.out.size))
 have HOA3 := Lib.hid (zaf HOA2.out hb3)
 have HR := Lib.hid (And.intro he (And.intro hres hrn))
 clear hb3 hOB hkB hZB hwB hrB he hres hrn HOA2 HBB
 go_wp2_with fail
 refine HI.out.mono ?_
 rintro e w4 ⟨v4, B4, rfl, hO4, hb4⟩
 rw [HR.out.1, HR.out.2.1, HR.out.2.2] at *
 obtain ⟨a4, c4, rfl, -, -⟩ := Row.of_owns hO4
 have hcx : (convert 22 9 (.slice a4 ([97] : List UInt8).length c4)).run Tryz.prog w4 = .ok (.string (mkB7 [97])) w4 := conv_own7 hO4
 have hcy : (convert 22 9 (.slice a1 ([1, 0, 0, 255, 255] : List UInt8).length c1)).run Tryz.prog w4 = .ok (.string (mkB7 [1, 0, 0, 255, 255])) w4 := conv_own7 (zaf HOA3.out hb4)
 have HE := Lib.hid (HB3.out.trans (hb4.mono HB3.out.size))
 have HBD := Lib.hid (bound_zero w4)
 clear hO4 hb4 HI
 dsimp only [List.length_cons, List.length_nil] at hcx hcy ⊢
 have ht : ((mkB7 [97]).toList == [97]) = true := by kernel_rfl
 have ht2 : ((mkB7 [1, 0, 0, 255, 255]).toList == [1, 0, 0, 255, 255]) = true := by kernel_rfl
 go_wp2_with fail
 refine HBD.out.mono ?_
 rintro e w5 ⟨rfl, rfl⟩
 go_wp2_with fail
 go_ret
 exact ⟨rfl, HE.out⟩
theorem zfb (a a2 : Option Addr) (n c n2 c2 : Nat) (w : World) (hn : n ≤ 1000000000) (hn2 : n2 ≤ 1000000000) :
   Calls Tryz.prog 14 #[.slice a n c, .slice a2 n2 c2] w fun e w' => e = .returned (.int .i64 ((n : Int) - n2)) ∧ w = w' := by
 go_enter Tryz.func14, Tryz.ntmps14
 go_wp2
 go_ret
 exact ⟨rfl, rfl⟩
theorem min3_any {w : World} {g : Nat} {a0 a1 a2 : Option Addr} {n0 n1 n2 c0 c1 c2 : Nat} (z0 : w.cell? ⟨g, 0, none⟩ = some (.slice a0 n0 c0)) (z1 : w.cell? ⟨g, 1, none⟩ = some (.slice a1 n1 c1)) (z2 : w.cell? ⟨g, 2, none⟩ = some (.slice a2 n2 c2))
   (h0 : n0 ≤ 1000000000) (h1 : n1 ≤ 1000000000) (h2 : n2 ≤ 1000000000) :
   Calls Tryz.prog 13 #[.slice (some ⟨g, 0, none⟩) 3 3, .func (.func 14) #[] #[]] w fun e w' => w' = w ∧ ((e = .returned (.slice a0 n0 c0) ∧ n0 ≤ n1 ∧ n0 ≤ n2) ∨ (e = .returned (.slice a1 n1 c1) ∧ n1 ≤ n0 ∧ n1 ≤ n2) ∨ (e = .returned (.slice a2 n2 c2) ∧ n2 ≤ n0 ∧ n2 ≤ n1)) := by
 go_enter Tryz.func13, Tryz.ntmps13
 go_wp2_with fail
 go_loopw [5, 6] (fun v vi wr => wr = w ∧ ((v = .slice a0 n0 c0 ∧ vi = .int .i64 1) ∨ (v = .slice a0 n0 c0 ∧ vi = .int .i64 2 ∧ n0 ≤ n1) ∨ (v = .slice a1 n1 c1 ∧ vi = .int .i64 2 ∧ n1 < n0) ∨ (v = .slice a0 n0 c0 ∧ vi = .int .i64 3 ∧ n0 ≤ n1 ∧ n0 ≤ n2) ∨ (v = .slice a1 n1 c1 ∧ vi = .int .i64 3 ∧ n1 ≤ n0 ∧ n1 ≤ n2) ∨ (v = .slice a2 n2 c2 ∧ vi = .int .i64 3 ∧ n2 ≤ n0 ∧ n2 ≤ n1))) (fun _ vi _ => 3 - (intOf vi).toNat)
 case atStart => exact ⟨rfl, .inl ⟨rfl, rfl⟩⟩
 case round =>
   obtain ⟨rfl, ⟨rfl, rfl⟩ | ⟨rfl, rfl, q1⟩ | ⟨rfl, rfl, q1⟩ | ⟨rfl, rfl, q1, q2⟩ | ⟨rfl, rfl, q1, q2⟩ | ⟨rfl, rfl, q1, q2⟩⟩ := hrel
   · go_wp2_with fail
     refine (zfb _ _ _ _ _ _ _ h1 h0).mono ?_
     rintro e W ⟨rfl, rfl⟩
     by_cases hc : n1 < n0
     · have hd : decide ((n1 : Int) - (n0 : Int) < 0) = true := decide_eq_true (by omega)
       go_wp2_with fail
       go_roundw
       case rel => exact ⟨by trivial, .inr (.inr (.inl ⟨rfl, rfl, hc⟩))⟩
       case measure => simp [intOf]
     · have hd : decide ((n1 : Int) - (n0 : Int) < 0) = false := decide_eq_false (by omega)
       go_wp2_with fail
       go_roundw
       case rel => exact ⟨by trivial, .inr (.inl ⟨rfl, rfl, by omega⟩)⟩
       case measure => simp [intOf]
   · go_wp2_with fail
     refine (zfb _ _ _ _ _ _ _ h2 h0).mono ?_
     rintro e W ⟨rfl, rfl⟩
     by_cases hc : n2 < n0
     · have hd : decide ((n2 : Int) - (n0 : Int) < 0) = true := decide_eq_true (by omega)
       go_wp2_with fail
       go_roundw
       case rel => exact ⟨by trivial, .inr (.inr (.inr (.inr (.inr ⟨rfl, rfl, by omega, by omega⟩))))⟩
       case measure => simp [intOf]
     · have hd : decide ((n2 : Int) - (n0 : Int) < 0) = false := decide_eq_false (by omega)
       go_wp2_with fail
       go_roundw
       case rel => exact ⟨by trivial, .inr (.inr (.inr (.inl ⟨rfl, rfl, by omega, by omega⟩)))⟩
       case measure => simp [intOf]
   · go_wp2_with fail
     refine (zfb _ _ _ _ _ _ _ h2 h1).mono ?_
     rintro e W ⟨rfl, rfl⟩
     by_cases hc : n2 < n1
     · have hd : decide ((n2 : Int) - (n1 : Int) < 0) = true := decide_eq_true (by omega)
       go_wp2_with fail
       go_roundw
       case rel => exact ⟨by trivial, .inr (.inr (.inr (.inr (.inr ⟨rfl, rfl, by omega, by omega⟩))))⟩
       case measure => simp [intOf]
     · have hd : decide ((n2 : Int) - (n1 : Int) < 0) = false := decide_eq_false (by omega)
       go_wp2_with fail
       go_roundw
       case rel => exact ⟨by trivial, .inr (.inr (.inr (.inr (.inl ⟨rfl, rfl, by omega, by omega⟩))))⟩
       case measure => simp [intOf]
   · go_wp2_with fail
     go_ret
     exact ⟨rfl, .inl ⟨rfl, q1, q2⟩⟩
   · go_wp2_with fail
     go_ret
     exact ⟨rfl, .inr (.inl ⟨rfl, q1, q2⟩)⟩
   · go_wp2_with fail
     go_ret
     exact ⟨rfl, .inr (.inr ⟨rfl, q1, q2⟩)⟩
theorem zdk (l : List Nat) (least k : Nat) : zcn l least (k + 1) = if least < k + 1 ∧ l.getD k 0 = 0 then zcn l least k else k + 1 := rfl
theorem trimV_k (l : List Nat) (least : Nat) (h : least ≤ l.length) : (zaB l least).length = zcn l least l.length := by
 unfold zaB
 rw [List.length_take]
 have := (zc1 l least l.length h).2.1
 omega
theorem natV_take (l : List Nat) (k : Nat) : natV (l.take k) = (natV l).take k := by unfold natV; rw [List.map_take]
theorem Row.takeZ {w : World} {a : Option Addr} {n cap : Nat} {xs : List Value} (h : Row w 1 a n cap xs) (q : Nat) (hq : q ≤ n) : Row w 1 a q cap (xs.take q) := by
 obtain ⟨h1, h2, h3, h4, h5⟩ := h
 refine ⟨by rw [List.length_take]; omega, by omega, h3, h4, fun hn => ?_⟩
 obtain ⟨b, off, rfl, hb, hc⟩ := h5 (by omega)
 refine ⟨b, off, rfl, hb, fun j u hj => hc j u ?_⟩
 rw [List.getElem?_take] at hj
 split at hj
 · exact hj
 · cases hj
theorem zcS {w : World} {a : Option Addr} {n cap least : Nat} {l : List Nat} (hr : Row w 1 a n cap (natV l)) (h : least ≤ n) : Row w 1 a (zaB l least).length cap (natV (zaB l least)) := by
 have hl : l.length = n := hr.len1
 rw [trimV_k l least (by omega)]
 unfold zaB
 rw [natV_take]
 exact hr.takeZ _ (by rw [hl]; exact (zc1 l least n h).2.1)
theorem zfa {w : World} {a : Option Addr} {n cap least : Nat} {l : List Nat} (hr : Row w 1 a n cap (natV l)) (h : least ≤ n) :
   Calls Tryz.prog 41 #[.slice a n cap, .int .i64 least] w fun e w' => e = .returned (.slice a (zaB l least).length cap) ∧ w = w' := by
 have hl : l.length = n := hr.len1
 have HR := Lib.hid hr
 have hcapn := hr.2.1
 have hcapm := hr.2.2.1
 unfold maxLen at hcapm
 have HK := Lib.hid (trimV_k l least (by omega))
 have HL := Lib.hid hl
 clear hr hl
 go_enter Tryz.func41, Tryz.ntmps41
 go_wp2
 go_loop [0] (fun v => ∃ m : Nat, v = .slice a m cap ∧ least ≤ m ∧ m ≤ n ∧ Hid (zcn l least m = zcn l least n)) (fun v => match v with | .slice _ m _ => m | _ => 0)
 case atStart => exact ⟨n, rfl, h, Nat.le_refl _, Lib.hid rfl⟩
 case round =>
   obtain ⟨m, rfl, hm1, hm2, HT⟩ := hrel
   by_cases hml : least < m
   · have hd : decide ((m : Int) > (least : Int)) = true := decide_eq_true (by omega)
     obtain ⟨k, hk⟩ : ∃ k, m = k + 1 := ⟨m - 1, by omega⟩
     have hki : (m : Int) - 1 = (k : Int) := by omega
     obtain ⟨b, off, rfl, hb, hc⟩ := HR.out.at 0 0 (by omega)
     have z0 := hc k (by omega)
     have hkm : (k : Int) < (m : Int) := by omega
     have hkc : (k : Int) ≤ (cap : Int) := by omega
     have HKK := Lib.hid hk
     have HU := Lib.hid (show zcn l least m = if l.getD k 0 = 0 then zcn l least k else m from by
       rw [hk]
       by_cases h0 : l.getD k 0 = 0
       · rw [if_pos h0, zdk, if_pos ⟨by omega, h0⟩]
       · rw [if_neg h0, zdk, if_neg (fun q => h0 q.2)])
     clear hc hk
     generalize l.getD k 0 = x at z0 HU
     by_cases hx : x = 0
     · subst hx
       go_wp2
       go_round
       case rel => exact ⟨k, rfl, by have := HKK.out; omega, by omega, Lib.hid (by rw [← HT.out, HU.out, if_pos rfl])⟩
       case measure => simp; have := HKK.out; omega
     · have hxd : ((x : Int) == 0) = false := by simp; omega
       have hxd2 : decide ((x : Int) = 0) = false := decide_eq_false (by omega)
       have HF := Lib.hid (show m = zcn l least n from by rw [← HT.out, HU.out, if_neg hx])
       go_wp2
       go_ret
       exact ⟨by rw [HK.out, HL.out, ← HF.out]; rfl, rfl⟩
   · have hme : m = least := by omega
     subst hme
     have HF := Lib.hid (show m = zcn l m n from by
       rw [← HT.out]
       cases m with
       | zero => rfl
       | succ k => rw [zdk, if_neg (fun q => by omega)])
     have hd : decide ((m : Int) > (m : Int)) = false := decide_eq_false (by omega)
     clear HT
     go_wp2
     go_ret
     exact ⟨by rw [HK.out, HL.out, ← HF.out]; rfl, rfl⟩
theorem extra_any (s : Nat) (w : World) : Calls Tryz.prog 47 #[.int .i64 s] w fun e w' => e = .returned (.int .i64 (exB s : Nat)) ∧ w = w' := by
 by_cases h1 : s = 16
 · subst h1
   go_enter Tryz.func47, Tryz.ntmps47
   go_wp2
   go_ret
   exact ⟨rfl, rfl⟩
 by_cases h2 : s = 17
 · subst h2
   go_enter Tryz.func47, Tryz.ntmps47
   go_wp2
   go_ret
   exact ⟨rfl, rfl⟩
 by_cases h3 : s = 18
 · subst h3
   go_enter Tryz.func47, Tryz.ntmps47
   go_wp2
   go_ret
   exact ⟨rfl, rfl⟩
 have HV := Lib.hid (show exB s = 0 from by unfold exB; rw [if_neg h1, if_neg h2, if_neg h3])
 have i1 : ((s : Int) == 16) = false := by simp; omega
 have i2 : ((s : Int) == 17) = false := by simp; omega
 have i3 : ((s : Int) == 18) = false := by simp; omega
 go_enter Tryz.func47, Tryz.ntmps47
 go_wp2
 go_ret
 exact ⟨by rw [HV.out]; rfl, rfl⟩
theorem mk286 (w : World) : (Instr.makeSlice 59 (.int .i64 286) (.int .i64 286)).run Tryz.prog w = .ok (.slice (some ⟨w.heap.size, 0, none⟩) 286 286) (w.alloc (.cells (fl 286 fun _ => .int .i64 0).toArray 3)) := by
 rw [← zdt]
 exact run_make_row' (P := Tryz.prog) 59 3 (.int .i64 0) 8 Tryz.underlying59 zfy rfl .i64 .i64 286 (by omega) (by omega) w
theorem zb7 (n : Nat) : natV (List.replicate n 0) = fl n fun _ => .int .i64 0 := by
 unfold natV
 rw [List.map_replicate]
 unfold fl
 apply List.ext_getElem (by simp)
 intro i h1 h2
 simp
structure CntM (w wr : World) (g1 g2 : Nat) (p : List Nat × List Nat) : Prop where
 below : Below w.heap.size w wr
 r1 : OutR wr g1 p.1
 r2 : OutR wr g2 p.2
 l1 : w.heap.size ≤ g1
 l2 : w.heap.size ≤ g2
 ne : g1 ≠ g2
theorem CntM.alloc {w wr : World} {g1 g2 : Nat} {p : List Nat × List Nat} (h : CntM w wr g1 g2 p) (o : Obj) : CntM w (wr.alloc o) g1 g2 p :=
 ⟨h.below.alloc h.below.size o, zaL o h.r1, zaL o h.r2, h.l1, h.l2, h.ne⟩
theorem CntM.inc1 {w wr : World} {g1 g2 : Nat} {p : List Nat × List Nat} (h : CntM w wr g1 g2 p) (k : Nat) : CntM w (wr.setCell ⟨g1, k, none⟩ (.int .i64 (p.1.getD k 0 + 1 : Nat))) g1 g2 (incN p.1 k, p.2) :=
 ⟨h.below.setCell h.l1 _, h.r1.set k _, za3 h.r2 (a := ⟨g1, k, none⟩) h.ne _, h.l1, h.l2, h.ne⟩
theorem CntM.inc2 {w wr : World} {g1 g2 : Nat} {p : List Nat × List Nat} (h : CntM w wr g1 g2 p) (k : Nat) : CntM w (wr.setCell ⟨g2, k, none⟩ (.int .i64 (p.2.getD k 0 + 1 : Nat))) g1 g2 (p.1, incN p.2 k) :=
 ⟨h.below.setCell h.l2 _, za3 h.r1 (a := ⟨g2, k, none⟩) h.ne.symm _, h.r2.set k _, h.l1, h.l2, h.ne⟩
theorem CntM.first {w wr : World} {g1 g2 : Nat} (h : CntM w wr g1 g2 (List.replicate 286 0, List.replicate 30 0)) : CntM w (wr.setCell ⟨g1, 256, none⟩ (.int .i64 1)) g1 g2 (cntV []) :=
 ⟨h.below.setCell h.l1 _, h.r1.set 256 1, za3 h.r2 (a := ⟨g1, 256, none⟩) h.ne _, h.l1, h.l2, h.ne⟩
def CntEnd (w : World) (ts : List LT) (e : Ending) (w' : World) : Prop := ∃ g1 g2, e = .returned (.tuple #[.slice (some ⟨g1, 0, none⟩) 286 286, .slice (some ⟨g2, 0, none⟩) 30 30]) ∧ CntM w w' g1 g2 (cntV ts)
theorem count_any {w : World} {cap : Nat} {a : Option Addr} {ts : List LT} (hr : Row w 3 a ts.length cap (tokV ts)) (hts : ∀ t ∈ ts, t.may) (hlen : ts.length ≤ 100000) :
   Calls Tryz.prog 40 #[.slice a ts.length cap] w (CntEnd w ts) := by
 have hm1 := mk286
 have hm2 := mk30
 have HR := Lib.hid hr
 have HTS := Lib.hid hts
 have HALL := Lib.hid (cnt_all ts hts)
 have hcapm := hr.2.2.1
 have hcapn := hr.2.1
 unfold maxLen at hcapm
 obtain ⟨n, hn⟩ : ∃ n, n = ts.length := ⟨_, rfl⟩
 rw [← hn] at HR hlen hcapn HALL ⊢
 have HLN := Lib.hid hn
 clear hr hts hn
 go_enter Tryz.func40, Tryz.ntmps40
 go_wp2_with fail
 go_cut [4, 5] from 11 (fun v4 v5 wc => ∃ g1 g2, v4 = .slice (some ⟨g1, 0, none⟩) 286 286 ∧ v5 = .slice (some ⟨g2, 0, none⟩) 30 30 ∧ Hid (CntM w wc g1 g2 (List.replicate 286 0, List.replicate 30 0)))
 case first =>
   go_region
   all_goals (try go_wp2_with fail)
   all_goals go_meet
   · exact ⟨_, _, rfl, rfl, Lib.hid ⟨(zdU w _ _).drew, (zaL _ (zah _ rfl)).trans (by rw [zb7]), (zah _ (by rw [zae])).trans (by rw [zb7]), Nat.le_refl _, Nat.le_succ _, by omega⟩⟩
   · exact ⟨_, _, rfl, rfl, Lib.hid ⟨(zdU w _ _).drew, (zah _ (by rw [zae])).trans (by rw [zb7]), (zaL _ (zah _ rfl)).trans (by rw [zb7]), Nat.le_succ _, Nat.le_refl _, by omega⟩⟩
 case rest =>
   obtain ⟨g1, g2, rfl, rfl, HX⟩ := hcut
   have z256 := HX.out.r1.cell (k := 256) (by rw [List.length_replicate]; omega)
   have f256 := HX.out.r1.free 256
   rw [rep_at] at z256
   have HX1 := Lib.hid HX.out.first
   clear hm1 hm2 HX
   go_wp2
   go_loopw [17] (fun v wr => ∃ i : Nat, v = .int .i64 i ∧ i ≤ n ∧ Hid (CntM w wr g1 g2 (cntV (ts.take i)))) (fun v _ => n - (intOf v).toNat)
   case atStart => exact ⟨0, rfl, Nat.zero_le _, HX1⟩
   case round =>
     obtain ⟨i, rfl, hi, HM⟩ := hrel
     by_cases hlt2 : i < n
     case neg =>
       have hie : i = n := by omega
       subst hie
       have hcd : decide ((i : Int) < (i : Int)) = false := decide_eq_false (by omega)
       have HE := Lib.hid (show CntM w wr g1 g2 (cntV ts) from by
         have h := HM.out
         rwa [List.take_of_length_le (by rw [← HLN.out]; exact Nat.le_refl _)] at h)
       clear HM
       go_wp2
       go_ret2
       exact ⟨g1, g2, rfl, HE.out⟩
     have hcd : decide ((i : Int) < (n : Int)) = true := decide_eq_true (by omega)
     have hin : (i : Int) < (n : Int) := by omega
     obtain ⟨t, ht⟩ : ∃ t, ts[i]? = some t := ⟨_, List.getElem?_eq_getElem (by rw [← HLN.out]; exact hlt2)⟩
     have hmay := HTS.out t (List.mem_of_getElem? ht)
     have hrow : Row wr 3 a n cap (tokV ts) := HR.out.mono HM.out.below
     obtain ⟨bb, off, rfl, hbb, hcc⟩ := hrow.2.2.2.2 (by omega)
     obtain ⟨t0, t1, t2⟩ := tokV_at ts i t ht
     have z0 := hcc _ _ t0
     have z1 := hcc _ _ t1
     have z2 := hcc _ _ t2
     rw [← Nat.add_assoc] at z1 z2
     have HSN := Lib.hid (show cntV (ts.take (i + 1)) = cntS (cntV (ts.take i)) t from by
       rw [List.take_add_one, ht]; exact cntV_snoc _ _)
     have hci := (HALL.out i (by omega)).1
     have hla := hci.la
     have hlb := hci.lb
     have hma := hci.ma
     have hmb := hci.mb
     generalize cntV (ts.take i) = p at HM HSN hci hla hlb hma hmb
     have HM2 := Lib.hid (HM.out.alloc (.cells #[.int .u8 t.b.toNat, .int .i64 t.len, .int .i64 t.far] 79))
     obtain ⟨hx0, hx1⟩ := may_idx hmay
     have hszr : g1 < wr.heap.size ∧ g2 < wr.heap.size := ⟨HM.out.r1.lt, HM.out.r2.lt⟩
     have hgn1 : ¬ g1 = wr.heap.size := by omega
     have hgn2 : ¬ g2 = wr.heap.size := by omega
     clear hcc hrow t0 t1 t2 hmay hci
     unfold cntS at HSN
     by_cases h0 : t.len = 0
     · rw [if_pos h0] at HSN
       have hbt := hx0 h0
       have he : decide ((t.len : Int) = 0) = true := decide_eq_true (by omega)
       have heb : ((t.len : Int) == 0) = true := he
       have c0 := HM2.out.r1.cell (k := t.b.toNat) (by rw [hla]; exact hbt)
       have f0 := HM2.out.r1.free t.b.toNat
       have hx := hma t.b.toNat
       have HN := Lib.hid ((HM.out.inc1 t.b.toNat).alloc (.cells #[.int .u8 t.b.toNat, .int .i64 t.len, .int .i64 t.far] 79))
       rw [← HSN.out] at HN
       clear hx0 hx1 hma hmb hla hlb h0 HM2 HSN HM
       generalize p.1.getD t.b.toNat 0 = x at *
       obtain ⟨y, hy⟩ : ∃ y, y = x + 1 := ⟨_, rfl⟩
       rw [← hy] at HN
       have hyi : (x : Int) + 1 = (y : Int) := by omega
       clear hy
       generalize t.len = ln at *
       generalize t.far = fa at *
       generalize t.b.toNat = bt at *
       have hbi : (bt : Int) < 286 := by omega
       go_wp2
       go_roundw
       case rel => exact ⟨i + 1, by go_num, by omega, HN⟩
       case measure => simp [intOf]; omega
     · rw [if_neg h0] at HSN
       obtain ⟨m3, m8, q1, q2, hs1, hs2⟩ := hx1 h0
       have he : decide ((t.len : Int) = 0) = false := decide_eq_false (by omega)
       have heb : ((t.len : Int) == 0) = false := he
       have HSY := Lib.hid (fun W : World => by have h := dsym_any (t.len : Int) W (by omega); rw [symV7_is m3 m8] at h; exact h)
       have HFY := Lib.hid (fun W : World => by have h := dfar_any (t.far : Int) W (by omega); rw [farV7_is q1 q2] at h; exact h)
       have c0 := HM2.out.r1.cell (k := symN t.len) (by rw [hla]; exact hs1)
       have f0 := HM2.out.r1.free (symN t.len)
       have hx := hma (symN t.len)
       have HN1 := (HM.out.inc1 (symN t.len)).alloc (.cells #[.int .u8 t.b.toNat, .int .i64 t.len, .int .i64 t.far] 79)
       have c1 := HN1.r2.cell (k := farN t.far) (by dsimp only; rw [hlb]; exact hs2)
       have f1 := HN1.r2.free (farN t.far)
       have hx2 := hmb (farN t.far)
       have HN := Lib.hid (((HM.out.inc1 (symN t.len)).inc2 (farN t.far)).alloc (.cells #[.int .u8 t.b.toNat, .int .i64 t.len, .int .i64 t.far] 79))
       dsimp only at HN c1
       rw [← HSN.out] at HN
       clear hx0 hx1 hma hmb hla hlb h0 HM2 HSN HN1 HM
       generalize p.1.getD (symN t.len) 0 = x at *
       generalize p.2.getD (farN t.far) 0 = x2 at *
       obtain ⟨y, hy⟩ : ∃ y, y = x + 1 := ⟨_, rfl⟩
       obtain ⟨y2, hy2⟩ : ∃ y, y = x2 + 1 := ⟨_, rfl⟩
       rw [← hy, ← hy2] at HN
       rw [← hy] at c1 f1
       have hyi : (x : Int) + 1 = (y : Int) := by omega
       have hyi2 : (x2 : Int) + 1 = (y2 : Int) := by omega
       clear hy hy2 m3 m8 q1 q2
       unfold Tri at HSY HFY
       dsimp only at HSY HFY
       generalize symN t.len = sN at *
       generalize symR t.len = sR at *
       generalize symB t.len = sB at *
       generalize farN t.far = fN at *
       generalize farR t.far = fR at *
       generalize farB t.far = fB at *
       generalize t.len = ln at *
       generalize t.far = fa at *
       generalize t.b.toNat = bt at *
       have hbi : (sN : Int) < 286 := by omega
       have hbi2 : (fN : Int) < 30 := by omega
       go_wp2_with fail
       refine (HSY.out _).mono ?_
       rintro e W ⟨rfl, rfl⟩
       go_wp2_with fail
       refine (HFY.out _).mono ?_
       rintro e W ⟨rfl, rfl⟩
       go_wp2_with fail
       go_roundw
       case rel => exact ⟨i + 1, by go_num, by omega, HN⟩
       case measure => simp [intOf]; omega
end Go.Proofs.YtngjbhejfojpbaaGreat
namespace Go.Proofs.YtngjbhejfojpbaaGreat
open Go.RowKit Go.Shelf
attribute [local go_sem] Oper.semAt_some
def KpC (bo br : Nat) (W W' : World) : Prop := ∀ b, b ≠ bo → b ≠ br → ∀ o : Obj, W.heap[b]? = some o → o.isCells = true → W'.heap[b]? = some o
theorem kpC_t {bo br : Nat} {A B C : World} (h : KpC bo br A B) (k : KpC bo br B C) : KpC bo br A C := fun b h1 h2 o ho hc => k b h1 h2 o (h b h1 h2 o ho hc) hc
theorem kpC_b {bo br : Nat} {w : World} (W : World) (l : Nat) (o o' : Obj) (_ : w.heap.size ≤ l) (h : W.heap[l]? = some o) (hc : o.isCells = false) (_ : o.isWalk = false) : KpC bo br W (W.putObj l o') := fun b _ _ o1 ho h1 => by
 have hne : b ≠ l := fun e => by
   subst e
   rw [h] at ho
   cases ho
   rw [hc] at h1; cases h1
 exact (World.putObj_heap_other hne).trans ho
theorem KpC.cell {bo br : Nat} {W W' : World} (h : KpC bo br W W') {b k : Nat} {v : Value} (h1 : b ≠ bo) (h2 : b ≠ br) (hc : W.cell? ⟨b, k, none⟩ = some v) : W'.cell? ⟨b, k, none⟩ = some v := by
 obtain ⟨o, ho, hi⟩ := cells_of_cell hc
 rw [World.cell?_of_block (w := W) (a := ⟨b, k, none⟩) ((h b h1 h2 o ho hi).trans ho.symm)]
 exact hc
theorem back_any (a : Option Addr) (n cap : Nat) (w : World) :
   Calls Tryz.prog 92 #[.slice a n cap] w fun e w' => e = .returned (.func (.func 97) #[] #[.pointer (some ⟨w.heap.size, 0, none⟩)]) ∧ w' = w.alloc (.cells #[.slice a n cap] 59) := by
 go_enter Tryz.func92, Tryz.ntmps92
 go_wp2
 go_ret
 exact ⟨rfl, rfl⟩
theorem rev_take {c r : Nat} (h : r < c) : (List.range c).reverse.take (c - r) = (List.range c).reverse.take (c - (r + 1)) ++ [r] := by
 have e : c - r = (c - (r + 1)) + 1 := by omega
 rw [e, List.take_add_one, List.getElem?_reverse (by simp; omega)]
 congr 1
 rw [List.length_range, show c - 1 - (c - (r + 1)) = r from by omega, List.getElem?_range h]; rfl
set_option maxRecDepth 100000 in
theorem back1_in (n : Nat) (hro : Fence.wide.round = none) (hn : 1 ≤ n) (l Bs og c cap bo br : Nat) (f : Nat → Nat) (hc : c ≤ 1000000) (h1 : Bs ≠ bo) (h2 : Bs ≠ br) (h3 : og ≠ bo) (h4 : og ≠ br) (J Jx : List (Fin c) → World → Prop)
   (hY : ∀ pre x W, J pre W → pre.length < c → YieldAt Fence.wide (n - 1) Tryz.prog l #[.int .i64 (x.val : Int), .int .i64 (f x.val : Nat)] W fun e W' =>
     (e = .returned (.bool true) ∧ J (pre ++ [x]) W' ∧ KpC bo br W W') ∨ (e = .returned (.bool false) ∧ Jx (pre ++ [x]) W'))
   (W : World) (hBs : W.cell? ⟨Bs, 0, none⟩ = some (.slice (some ⟨og, 0, none⟩) c cap)) (hcs : ∀ j, j < c → W.cell? ⟨og, j, none⟩ = some (.int .i64 (f j : Nat))) (h0 : J [] W) :
   CallsIn Fence.wide n Tryz.prog 97 #[.func (.yield l) #[] #[], .pointer (some ⟨Bs, 0, none⟩)] W fun e W' => (∃ v, e = .returned v) ∧
     ((∃ ys : List (Fin c), ys.map Fin.val = (List.range c).reverse ∧ J ys W') ∨ (∃ pre : List (Fin c), True ∧ Jx pre W')) := by
 have hw1 : IntKind.i64.wrap ((c : Int) - 1) = (c : Int) - 1 := IntWalk.i64_in _ (by omega)
 refine callsIn_of_wp Tryz.func97 rfl trivial ?_ hro
 simp only [Tryz.ntmps97, List.size_toArray, List.length_cons, List.length_nil, Nat.reduceAdd, Nat.reduceSub, Array.replicate_succ, Array.replicate_zero, List.push_toArray, List.append_toArray, List.nil_append, List.cons_append]
 gi_wp2
 gi_loopw [3] (fun i wr => ∃ r : Nat, r ≤ c ∧ i = .int .i64 ((r : Int) - 1) ∧ ∃ pre : List (Fin c), pre.map Fin.val = (List.range c).reverse.take (c - r) ∧ J pre wr ∧ KpC bo br W wr)
   (fun i _ => (intOf i + 1).toNat)
 case atStart => exact ⟨c, Nat.le_refl _, rfl, [], by simp, h0, fun _ _ _ _ h _ => h⟩
 case round =>
   obtain ⟨r, hr, rfl, pre, hp, hJs, hk⟩ := hrel
   have e1 := hk.cell h1 h2 hBs
   cases r with
   | zero =>
     gi_wp2
     go_end0
     exact ⟨⟨_, rfl⟩, .inl ⟨pre, by rw [hp]; simp [List.take_of_length_le], hJs⟩⟩
   | succ r =>
     have hw2 : ((r + 1 : Nat) : Int) - 1 = (r : Int) := by omega
     rw [hw2]
     have e2 := hk.cell h3 h4 (hcs r (by omega))
     have hlen : pre.length < c := by
       have := congrArg List.length hp
       simp at this; omega
     have hri : (r : Int) < (c : Int) := by omega
     have hge : decide ((r : Int) ≥ 0) = true := decide_eq_true (by omega)
     have hw3 : IntKind.i64.wrap ((r : Int) - 1) = (r : Int) - 1 := IntWalk.i64_in _ (by omega)
     obtain ⟨fn, tmps, assign, body, hy, hR⟩ := hY pre ⟨r, by omega⟩ wr hJs hlen
     dsimp only at hy
     gi_wp2
     refine hR.mono ?_
     rintro e W3 (⟨rfl, hJ3, hk3⟩ | ⟨rfl, hJx3⟩)
     · gi_wp2
       go_roundw
       case rel => exact ⟨r, by omega, rfl, _, by rw [List.map_append, hp]; exact (rev_take (by omega)).symm, hJ3, kpC_t hk hk3⟩
       case measure => simp [intOf]
     · gi_wp2
       refine bodyPost_ret (results_none rfl _ _ _) rfl ?_
       exact ⟨⟨_, rfl⟩, .inr ⟨_, trivial, hJx3⟩⟩
theorem back_stops (n : Nat) (hro : Fence.wide.round = none) (hn : 1 ≤ n) (Bs og c cap bo br : Nat) (f : Nat → Nat) (hc : c ≤ 1000000) (h1 : Bs ≠ bo) (h2 : Bs ≠ br) (h3 : og ≠ bo) (h4 : og ≠ br) (w : World)
   (hBs : w.cell? ⟨Bs, 0, none⟩ = some (.slice (some ⟨og, 0, none⟩) c cap)) (hcs : ∀ j, j < c → w.cell? ⟨og, j, none⟩ = some (.int .i64 (f j : Nat))) :
   SeqStopsK Fence.wide n Tryz.prog 97 #[.pointer (some ⟨Bs, 0, none⟩)] (fun x : Fin c => #[.int .i64 (x.val : Int), .int .i64 (f x.val : Nat)]) (KpC bo br) (fun ys => ys.map Fin.val = (List.range c).reverse) (fun _ => True) c w := by
 intro l J Jx W hW _ _ hY h0
 exact back1_in n hro hn l Bs og c cap bo br f hc h1 h2 h3 h4 J Jx hY W ((hW.cell (p := ⟨Bs, 0, none⟩) (World.block_lt_of_cell? w _ hBs)).trans hBs) (fun j hj => (hW.cell (p := ⟨og, j, none⟩) (World.block_lt_of_cell? w _ (hcs j hj))).trans (hcs j hj)) h0
end Go.Proofs.YtngjbhejfojpbaaGreat
namespace Go.Proofs.YtngjbhejfojpbaaGreat
open Go.RowKit
section
variable {F : Fence} {n : Nat} {P : Program} {ops : Array Oper} {Q : Exit → Act → World → Prop} {l : Nat}
theorem op_round {o : Oper} {a : Act} {w : World} {K : Act → World → Prop} (hnd : ∀ c, o.op ≠ .defer c) (h : o.wpIn F n P a w K Q) : o.wpIn (F.inRound l) n P a w K Q := by
 unfold Oper.wpIn at h ⊢
 rw [Oper.semAt_eq _ _ _ hnd] at h ⊢
 exact h
theorem wpOpIn_round {i : Nat} {K : Act → World → Prop} {a : Act} {w : World} (hnd : ∀ o ∈ ops.toList, ∀ c, o.op ≠ .defer c) (h : wpOpIn F n P ops Q i K a w) : wpOpIn (F.inRound l) n P ops Q i K a w := by
 unfold wpOpIn at h ⊢
 cases ho : ops[i]? with
 | none => rw [ho] at h; exact h
 | some o =>
   rw [ho] at h
   simp only at h ⊢
   have hm : o ∈ ops.toList := by
     obtain ⟨hi, e⟩ := Array.getElem?_eq_some_iff.1 ho
     rw [← e]; exact Array.mem_toList_iff.2 (Array.getElem_mem hi)
   split
   · rename_i hw
     rw [if_pos hw] at h
     exact op_round (hnd o hm) h
   · rename_i hw
     rw [if_neg hw] at h
     exact h
theorem zcL (hnd : ∀ o ∈ ops.toList, ∀ c, o.op ≠ .defer c) : ∀ (sched : List Nat) (a : Act) (w : World), wpOpsIn F n P ops Q sched a w → wpOpsIn (F.inRound l) n P ops Q sched a w
 | [], _, _, h => h
 | i :: rest, a, w, h => by
   rw [wpOpsIn_cons] at h ⊢
   exact wpOpIn_mono (fun a w => zcL hnd rest a w) (wpOpIn_round hnd h)
theorem zbg {id : Nat} {a : Act} {w : World} {ll : List Oper} (hnd : ∀ o ∈ ll, ∀ c, o.op ≠ .defer c) (hro : F.round = none) (hm : P.follows .mixedOrders = true) (hB : Region.lexB .any ll.toArray = true)
   (h : wpQuietIn F n P ll.toArray (fun w' => ∃ n, w' = w.drewN n) (fun a' => ∀ w', (∃ n, w' = w.drewN n) → Q .normal a' w') ll a) : (Code.region id ll.toArray true).wpIn (F.inRound l) n P Q a w := by
 simp only [Region.lexB, Bool.and_eq_true] at hB
 refine wpIn_region_draw fun t => ?_
 simp only [Region.schedule, hm, Bool.true_or, if_true]
 refine zcL (by simpa using hnd) _ _ _ (wpAnyIn_sound _ t _ a _ (wpAnyIn_of_quiet (C := fun w' => ∃ n, w' = w.drewN n) (Q := fun a' => ∀ w', (∃ n, w' = w.drewN n) → Q .normal a' w') hro (fun _ w' hw' h => h w' hw') _ _ _ _ ⟨1, rfl⟩ ?_))
 have := wpAnyQIn_lex (F := F) (n := n) (C := fun w' => ∃ n, w' = w.drewN n) (md := .any) hB.1 ll.toArray.toList 0 (Array.replicate ll.toArray.size false) a (by simp) (by simpa using hB.2) (by simpa using h)
 simpa using this
end
end Go.Proofs.YtngjbhejfojpbaaGreat
namespace Go.Proofs.YtngjbhejfojpbaaGreat
open Go.RowKit Go.Shelf
attribute [local go_sem] Oper.semAt_some
def zfq (w : World) (a : Addr) : Int :=
 match w.cell? a with
 | some (.int _ x) => x
 | _ => 0
def ptrN (v : Value) (w : World) : Int :=
 match v with
 | .pointer (some a) => zfq w a
 | _ => 0
theorem zce {w : World} {a : Addr} {k : IntKind} {x : Int} (h : w.cell? a = some (.int k x)) : zfq w a = x := by unfold zfq; rw [h]
theorem zby {W W' : World} (h : KeepsOthers W W') (q : Nat) : KeepsOthers W (W'.drewN q) := ⟨h.size, fun k o hk ho => h.same k o hk ho⟩
theorem kp_set {bo br : Nat} {W W' : World} (h : KpC bo br W W') {b k : Nat} (hb : b = bo ∨ b = br) (v : Value) : KpC bo br W (W'.setCell ⟨b, k, none⟩ v) := fun c h1 h2 o ho hc => by
 rw [heap_setCell_other _ _ _ _ (by show c ≠ b; rcases hb with rfl | rfl <;> assumption)]
 exact h c h1 h2 o ho hc
def CutI (w : World) (bo og n : Nat) (R M : List Nat) (pre : List (Fin R.length)) (W : World) : Prop :=
 ∃ (D : List Nat) (r : Nat), (pre.map Fin.val).foldl stpS (M, 32768 - sumW M) = (D, r) ∧ (∀ z ∈ D, z ≤ 15) ∧ r ≤ 32768 ∧ CutM W bo w.heap.size (w.heap.size + 1) og n R D r ∧ zaa (fun b => b = bo) w W
theorem cutI_own {w : World} {bo og n B : Nat} {R M : List Nat} (h1 : bo < B) (h2 : w.heap.size + 1 < B) (h3 : og < B) : OwnFrom B (CutI w bo og n R M) := fun pre A W row hs hg hr => by
 obtain ⟨D, r, hf, hz, hr2, hC, hK⟩ := hs
 have hk : zaa (fun b => B ≤ b) A W := zaa.of_grown hg fun k hk => (hr k hk).1
 exact ⟨D, r, hf, hz, hr2, hC.keep hk (by omega) (by omega) (by omega) (by omega), hK.trans hk fun b hb => .inr (by omega)⟩
set_option maxRecDepth 100000 in
theorem cut_any {w : World} {bo og n ocap limit g : Nat} {R D M : List Nat} (hO : OutR w bo (rowR n R D)) (hord : Row w 1 (some ⟨og, 0, none⟩) R.length ocap (natV R)) (hne : og ≠ bo) (hog : og < w.heap.size)
   (hR : R.length ≤ 400) (hD : D.length = R.length) (hnd : R.Nodup) (hlt : ∀ r ∈ R, r < n) (hD1 : ∀ x ∈ D, 1 ≤ x ∧ x ≤ 1000) (h1 : 1 ≤ limit) (h15 : limit ≤ 15)
   (hM : zaZ limit g (D.map fun x => min x limit) = some M) :
   Calls Tryz.prog 84 #[.slice (some ⟨bo, 0, none⟩) n n, .slice (some ⟨og, 0, none⟩) R.length ocap, .int .i64 limit] w fun e w' => e = .returned (.tuple #[]) ∧ OutR w' bo (rowR n R (zak M.reverse (32768 - sumW M)).1.reverse) ∧ zaa (fun b => b = bo) w w' := by
 have hbo := hO.lt
 have hC0 : CutM ((w.alloc (.cells #[.slice (some ⟨bo, 0, none⟩) n n] 59)).alloc (.cells #[.int .i64 32768] 3)) bo w.heap.size (w.heap.size + 1) og n R D 32768 := by
   have k : zaa (fun _ => False) w ((w.alloc (.cells #[.slice (some ⟨bo, 0, none⟩) n n] 59)).alloc (.cells #[.int .i64 32768] 3)) := ((zaa.refl _ w).alloc _).alloc _
   refine ⟨hO.keep k id, ?_, ?_, fun i hi => ?_, hD, hnd, hlt, by omega, by omega, by omega, hne, by omega, by omega⟩
   · rw [Below.heap_alloc _ _ _ (by rw [zae]; omega)]; exact heap_alloc_new w _
   · have := heap_alloc_new (w.alloc (.cells #[.slice (some ⟨bo, 0, none⟩) n n] 59)) (.cells #[.int .i64 32768] 3)
     rwa [zae] at this
   · obtain ⟨b, off, e, -, hc⟩ := hord.2.2.2.2 (by omega)
     simp only [Option.some.injEq, Addr.mk.injEq, and_true] at e
     obtain ⟨rfl, rfl⟩ := e
     have := hc i _ (zcB hi)
     rw [Nat.zero_add] at this
     exact k.cell this id
 have HC0 := Lib.hid hC0
 have HM := Lib.hid hM
 have HD1 := Lib.hid hD1
 have HBO := Lib.hid hbo
 have HOG := Lib.hid hog
 have HDL := Lib.hid hD
 clear hC0 hM hD1 hO hord hbo hog hD hnd hlt
 refine (callsIn_wide (n := 5)).1 ?_
 refine callsIn_of_wp_marks Tryz.func84 rfl trivial ?_ rfl
 simp only [Tryz.ntmps84, List.size_toArray, List.length_cons, List.length_nil, Nat.reduceAdd, Nat.reduceSub, Array.replicate_succ, Array.replicate_zero, List.push_toArray, List.append_toArray, List.nil_append, List.cons_append]
 refine wpIn_wide.2 ?_
 go_wp2_with fail
 go_loopw [15] (fun v wr => ∃ i : Nat, v = .int .i64 i ∧ i ≤ R.length ∧ Hid (CutM wr bo w.heap.size (w.heap.size + 1) og n R (minN limit D i) (zeo limit D i)) ∧ Hid (zaa (fun b => b = bo) w wr)) (fun v _ => R.length - (intOf v).toNat)
 case atStart => exact ⟨0, rfl, Nat.zero_le _, by rw [minN_zero]; exact HC0, Lib.hid (((zaa.refl _ w).alloc _).alloc _)⟩
 case round =>
   obtain ⟨i, rfl, hi, HC, HK⟩ := hrel
   by_cases hlt : i < R.length
   case neg =>
     have hie : i = R.length := by omega
     subst hie
     have HC1 := Lib.hid (show CutM wr bo w.heap.size (w.heap.size + 1) og n R (D.map fun x => min x limit) (32768 - (sumW (D.map fun x => min x limit) : Nat)) from by
       have h := HC.out
       rw [← HDL.out, minN_all] at h
       unfold zeo at h
       rw [List.take_of_length_le (Nat.le_refl _)] at h
       exact h)
     have HIL := Lib.hid (show InL limit (D.map fun x => min x limit) from fun x hx => by
       obtain ⟨y, hy, rfl⟩ := List.mem_map.1 hx
       have := HD1.out y hy
       omega)
     generalize (D.map fun x => min x limit) = D0 at HC1 HIL HM
     clear HC HC0 HD1 HDL hlt
     go_wp2_with fail
     go_loopw [36] (fun _ wr => ∃ (g : Nat) (D : List Nat), zaZ limit g D = some M ∧ Hid (InL limit D) ∧ Hid (CutM wr bo w.heap.size (w.heap.size + 1) og n R D (32768 - (sumW D : Nat))) ∧ Hid (zaa (fun b => b = bo) w wr)) (fun _ wr => (- zfq wr ⟨w.heap.size + 1, 0, none⟩).toNat)
     case atStart => exact ⟨g, D0, HM.out, HIL, HC1, HK⟩
     case round =>
       clear HC1 HIL HM HK
       obtain ⟨g, D, hM, HIL, HC, HK⟩ := hrel
       have zr := HC.out.crm
       by_cases hs : sumW D ≤ 32768
       · have hsi : decide ((32768 : Int) - (sumW D : Nat) < 0) = false := decide_eq_false (by omega)
         obtain rfl := cutLoop_stop hM hs
         have hwr : w.heap.size + 1 < wr.heap.size := (Array.getElem?_eq_some_iff.1 HC.out.rm).1
         have HML := Lib.hid HC.out.len
         have hI0 : CutI w bo og n R M [] (wr.alloc (.cells #[.slice (some ⟨og, 0, none⟩) R.length ocap] 59)) :=
           ⟨M, 32768 - sumW M, rfl, fun z hz => by have := HIL.out z hz; omega, by omega, by
             have := HC.out.alloc (.cells #[.slice (some ⟨og, 0, none⟩) R.length ocap] 59)
             rwa [show (32768 : Int) - (sumW M : Nat) = ((32768 - sumW M : Nat) : Int) from by omega] at this, HK.out.alloc _⟩
         have hbs := cell_of_row _ _ 0 _ _ _ (heap_alloc_new wr (.cells #[.slice (some ⟨og, 0, none⟩) R.length ocap] 59))
         have hord : ∀ j, j < R.length → (wr.alloc (.cells #[.slice (some ⟨og, 0, none⟩) R.length ocap] 59)).cell? ⟨og, j, none⟩ = some (.int .i64 (R.getD j 0 : Nat)) := fun j hj => (HC.out.alloc _).ord j hj
         have hsz := zae wr (.cells #[.slice (some ⟨og, 0, none⟩) R.length ocap] 59)
         have HI0 := Lib.hid hI0
         have HORD := Lib.hid hord
         have HSZ := Lib.hid hsz
         have HBS := Lib.hid hbs
         clear hI0 hbs hord hsz HC HIL HK hs hM
         go_wp2_with (go_at_call 92; refine (back_any _ _ _ _).mono ?_; rintro e w2 ⟨rfl, hw2⟩; rw [← hw2] at HI0 HORD HSZ HBS; have HW2 := Lib.hid hw2; clear hw2)
         refine (wpIn_wide (n := 5)).1 ?_
         obtain ⟨f, hf⟩ : ∃ f : Nat → Nat, f = fun i => R.getD i 0 := ⟨_, rfl⟩
         have hfe : ∀ i, R.getD i 0 = f i := fun i => by rw [hf]
         have HFE := Lib.hid hfe
         clear hf hfe
         have hbo := HBO.out
         have hog := HOG.out
         have hs2 := HSZ.out
         refine' wpIn_rangeFunc_ownF (F := Fence.wide) (n := 5) rfl (by omega) (gf := 97) (lb := #[.pointer (some ⟨wr.heap.size, 0, none⟩)]) rfl trivial (enters_of Tryz.func97 (by kernel_rfl) rfl)
           (back_stops 4 rfl (by omega) wr.heap.size og R.length ocap bo (w.heap.size + 1) f (by omega) (by omega) (by omega) hne (by omega) w2 HBS.out (fun j hj => by rw [← HFE.out]; exact HORD.out j hj)) kpC_t kpC_b (Below.refl _ _) (fun _ => rfl)
           (CutI w bo og n R M) (fun _ _ _ => False) (cutI_own (by omega) (by omega) (by omega)) (fun _ _ _ _ _ hs _ _ => hs) HI0.out _ ?assign ?body ?done ?stop
         case assign =>
           intro l x W K hK
           gi_wp2
           exact hK
         case body =>
           rintro l pre ⟨i, hi⟩ W ⟨D, r, hf, hz, hr2, hC, hK⟩ hlt
           obtain ⟨⟨yl, rl⟩, hsh⟩ : ∃ s, s = zay (D.getD i 0) r := ⟨_, rfl⟩
           have HF := Lib.hid (show (((pre ++ [(⟨i, hi⟩ : Fin R.length)]).map Fin.val).foldl stpS (M, 32768 - sumW M)) = (D.set i yl, rl) from by
             rw [List.map_append, List.foldl_append, hf]
             exact stp_one hsh.symm)
           have hkn := (hC.at hi).1
           have hil : i < D.length := by rw [hC.len]; exact hi
           have hy0 := hz _ (zcW hil)
           have HI1 := Lib.hid (show CutM W bo w.heap.size (w.heap.size + 1) og n R (D.set i (D.getD i 0)) r from by rw [set_get]; exact hC)
           have HSH := Lib.hid hsh
           have HZ := Lib.hid hz
           have HK := Lib.hid hK
           have HIL := Lib.hid hil
           obtain ⟨y0, hy0e⟩ : ∃ y0, y0 = D.getD i 0 := ⟨_, rfl⟩
           rw [← hy0e] at HSH HI1 hy0
           clear hf hz hC hK hsh hil hy0e hlt
           gi_wp2
           gi_loopw [68] (fun _ wr => ∃ (y r' : Nat), zay y r' = (yl, rl) ∧ y ≤ 15 ∧ r' ≤ 32768 ∧ Hid (CutM wr bo w.heap.size (w.heap.size + 1) og n R (D.set i y) r') ∧ Hid (zaa (fun b => b = bo) w wr) ∧ Hid (KeepsOthers W wr ∧ KpC bo (w.heap.size + 1) W wr)) (fun _ wr => (zfq wr ⟨bo, f i, none⟩).toNat)
           case atStart => exact ⟨y0, r, HSH.out.symm, hy0, hr2, HI1, HK, Lib.hid ⟨KeepsOthers.refl _, fun _ _ _ _ h _ => h⟩⟩
           case round =>
             obtain ⟨y, r', hs, hy, hr', HC, HK', HKO⟩ := hrel
             obtain ⟨z1, -, z3⟩ := HC.out.at hi
             rw [zb0 HIL.out] at z3
             rw [HFE.out] at z1 z3
             have zb := HC.out.cbox
             have zr := HC.out.crm
             have f1 := HC.out.frm
             have f2 := HC.out.fout (f i)
             have HS := Lib.hid hs
             generalize hk : f i = k at z1 z3 f2 ⊢
             have HKE := Lib.hid hk
             have hkn2 : (k : Int) < (n : Int) := by omega
             have hsh : (32768 : Int) / 2 ^ y = (zao y : Int) := by unfold zao; norm_cast
             have hrl := zdu y
             clear hs hk hkn
             have key : y ≤ 1 ∨ 2 ≤ y ∧ r' < zao y ∨ 2 ≤ y ∧ zao y ≤ r' := by omega
             rcases key with h2 | ⟨h2, h3⟩ | ⟨h2, h3⟩
             · as_aux_lemma =>
                 have d1 : decide ((y : Int) > 1) = false := decide_eq_false (by omega)
                 have d1' : ((1 : Int) < y) = False := eq_false (by omega)
                 have hfin := zeh (y := y) (r := r') (.inl h2)
                 gi_wp2
                 refine zbg (by simp) rfl (by kernel_rfl) (by kernel_rfl) ?_
                 repeat (gi_big_quiet_step (fail))
                 refine wpQuietIn_nil ?_
                 rintro _ ⟨nq, rfl⟩
                 gi_wp2
                 have hs := HS.out
                 rw [hfin] at hs
                 simp only [Prod.mk.injEq] at hs
                 obtain ⟨rfl, rfl⟩ := hs
                 exact ⟨zby HKO.out.1 nq, HKO.out.2, _, _, HF.out, le_set HZ.out hy, hr', HC.out.drewN nq, HK'.out.drewN nq⟩
             · as_aux_lemma =>
                 have d1 : decide ((y : Int) > 1) = true := decide_eq_true (by omega)
                 have d1' : ((1 : Int) < y) = True := eq_true (by omega)
                 have d2 : decide ((zao y : Int) ≤ (r' : Int)) = false := decide_eq_false (by omega)
                 have d2' : ((zao y : Int) ≤ (r' : Int)) = False := eq_false (by omega)
                 have hfin := zeh (y := y) (r := r') (.inr h3)
                 gi_wp2
                 refine zbg (by simp) rfl (by kernel_rfl) (by kernel_rfl) ?_
                 repeat (gi_big_quiet_step (fail))
                 refine wpQuietIn_nil ?_
                 rintro _ ⟨nq, rfl⟩
                 gi_wp2
                 have hs := HS.out
                 rw [hfin] at hs
                 simp only [Prod.mk.injEq] at hs
                 obtain ⟨rfl, rfl⟩ := hs
                 exact ⟨zby HKO.out.1 nq, HKO.out.2, _, _, HF.out, le_set HZ.out hy, hr', HC.out.drewN nq, HK'.out.drewN nq⟩
             · as_aux_lemma =>
                 have d1 : decide ((y : Int) > 1) = true := decide_eq_true (by omega)
                 have d1' : ((1 : Int) < y) = True := eq_true (by omega)
                 have d2 : decide ((zao y : Int) ≤ (r' : Int)) = true := decide_eq_true (by omega)
                 have d2' : ((zao y : Int) ≤ (r' : Int)) = True := eq_true (by omega)
                 have HGO := Lib.hid (shrink_go (y := y) (r := r') h2 h3)
                 gi_wp2
                 refine zbg (by simp) rfl (by kernel_rfl) (by kernel_rfl) ?_
                 repeat (gi_big_quiet_step (fail))
                 refine wpQuietIn_nil ?_
                 rintro _ ⟨nq, rfl⟩
                 have HC5 := Lib.hid (HC.out.drewN nq)
                 have HK5 := Lib.hid (HK'.out.drewN nq)
                 have HO5 := Lib.hid (show KeepsOthers W (wr.drewN nq) ∧ KpC bo (w.heap.size + 1) W (wr.drewN nq) from ⟨zby HKO.out.1 nq, HKO.out.2⟩)
                 have HZ3 := Lib.hid z3
                 obtain ⟨w5, hw5⟩ : ∃ w5, wr.drewN nq = w5 := ⟨_, rfl⟩
                 rw [hw5] at HC5 HK5 HO5 ⊢
                 have z3 : w5.cell? ⟨bo, k, none⟩ = some (.int .i64 y) := by rw [← hw5]; exact z3
                 have zb := HC5.out.cbox
                 have zr := HC5.out.crm
                 have f1 := HC5.out.frm
                 have f2 := HC5.out.fout k
                 obtain ⟨rn, hrn⟩ : ∃ rn, rn = r' - zao y := ⟨_, rfl⟩
                 obtain ⟨yn, hyn⟩ : ∃ yn, yn = y - 1 := ⟨_, rfl⟩
                 have hw6 : IntKind.i64.wrap ((r' : Int) - (zao y : Int)) = (rn : Int) := by rw [IntWalk.i64_in _ (by omega)]; omega
                 have hw7 : IntKind.i64.wrap ((y : Int) - 1) = (yn : Int) := by rw [IntWalk.i64_in _ (by omega)]; omega
                 obtain ⟨w6, hw6e⟩ : ∃ w6, (w5.setCell ⟨w.heap.size + 1, 0, none⟩ (.int .i64 rn)).drewN 1 = w6 := ⟨_, rfl⟩
                 have HC6 := Lib.hid ((HC5.out.setR (rn : Int)).drewN 1)
                 rw [hw6e] at HC6
                 have g3 : w6.cell? ⟨bo, k, none⟩ = some (.int .i64 y) := by
                   have h := (HC6.out.at hi).2.2
                   rwa [zb0 HIL.out, HFE.out, HKE.out] at h
                 have gb := HC6.out.cbox
                 have g2 := HC6.out.fout k
                 have HC7 := Lib.hid (HC6.out.setO hi yn)
                 rw [set_set2, HFE.out, HKE.out] at HC7
                 have HK7 := Lib.hid (show zaa (fun b => b = bo) w (w6.setCell ⟨bo, k, none⟩ (.int .i64 yn)) from by
                   rw [← hw6e]
                   exact ((HK5.out.setCell (a := ⟨w.heap.size + 1, 0, none⟩) (.inr (by show w.heap.size ≤ w.heap.size + 1; omega)) _).drewN 1).setCell (a := ⟨bo, k, none⟩) (.inl rfl) _)
                 have HO7 := Lib.hid (show KeepsOthers W (w6.setCell ⟨bo, k, none⟩ (.int .i64 yn)) ∧ KpC bo (w.heap.size + 1) W (w6.setCell ⟨bo, k, none⟩ (.int .i64 yn)) from by
                   rw [← hw6e]
                   exact ⟨(zby (HO5.out.1.trans (KeepsOthers.setCell _ _ _)) 1).trans (KeepsOthers.setCell _ _ _), kp_set (kp_set HO5.out.2 (.inr rfl) _) (.inl rfl) _⟩)
                 have HSN := Lib.hid (show zay yn rn = (yl, rl) from by rw [hyn, hrn, ← HGO.out]; exact HS.out)
                 have hy5 : yn ≤ 15 := by omega
                 have hr5 : rn ≤ 32768 := by omega
                 have HM7 := Lib.hid (show (zfq (w6.setCell ⟨bo, k, none⟩ (.int .i64 yn)) ⟨bo, k, none⟩).toNat < (zfq wr ⟨bo, k, none⟩).toNat from by
                   have h := (HC7.out.at hi).2.2
                   rw [zb0 HIL.out, HFE.out, HKE.out] at h
                   rw [zce h, zce HZ3.out]
                   omega)
                 have HWE := Lib.hid hw6e
                 clear hw5 HC HK' HKO HC6 HC5 HK5 HO5 hrn hyn hw6e HGO HS
                 gi_wp2
                 gi_region
                 all_goals
                   rw [show (w5.setCell ⟨w.heap.size + 1, 0, none⟩ (.int .i64 rn)).drew = w6 from HWE.out]
                   clear z3 zb zr f1 f2
                   gi_wp2
                   go_roundw
                   case rel => exact ⟨yn, rn, HSN.out, hy5, hr5, HC7, HK7, HO7⟩
                   case measure => exact HM7.out
         case done =>
           rintro Dd ys W hDl hS ⟨D, r, hf, -, -, hC, hK⟩ hKd
           rw [hS, stpS_all HML.out] at hf
           simp only [Prod.mk.injEq] at hf
           obtain ⟨rfl, rfl⟩ := hf
           have HC := Lib.hid hC
           have HK := Lib.hid hK
           clear hC hK hS
           gi_wp2
           refine ⟨by simp, .inl ⟨_, _, rfl, run_takeDeferred hKd, ?_⟩⟩
           refine ⟨_, results_none rfl _ _ _, ?_⟩
           exact ⟨rfl, (World.putObj_heap_other (by omega)).trans HC.out.out, HK.out.grown (grownBy_putObj' W Dd (.deferred none)) (fun k hk => .inr (by cases hk; omega))⟩
         case stop =>
           rintro Dd c pre W _ _ h _
           exact h.elim
       · have hsi : decide ((32768 : Int) - (sumW D : Nat) < 0) = true := decide_eq_true (by omega)
         obtain ⟨g', N, D', hT, hM'⟩ := cutLoop_go hM hs
         have HZR := Lib.hid zr
         have HIN := Lib.hid (show InL limit D' from (zcA HIL.out (by omega) hT).1)
         have hwr : w.heap.size + 1 < wr.heap.size := (Array.getElem?_eq_some_iff.1 HC.out.rm).1
         obtain ⟨l1, hl1⟩ : ∃ l1, limit = l1 + 1 := ⟨limit - 1, by omega⟩
         have HL1 := Lib.hid hl1
         have hl2 : IntKind.i64.wrap ((limit : Int) - 1) = (l1 : Int) := by rw [IntWalk.i64_in _ (by omega)]; omega
         have hl3 : l1 ≤ 14 := by omega
         rw [hl1, Nat.add_sub_cancel] at hT
         have hsb : sumW D ≤ 400 * 32768 := Nat.le_trans (sumW_le D) (Nat.mul_le_mul_right _ (by rw [HC.out.len]; exact hR))
         clear hl1 hM
         go_wp2_with fail
         have HC3 := Lib.hid (HC.out.alloc (.cells #[.int .i64 l1] 3))
         have HK3 := Lib.hid (HK.out.alloc (.cells #[.int .i64 l1] 3))
         have HB3 := Lib.hid (heap_alloc_new wr (.cells #[.int .i64 l1] 3))
         have hb3 : w.heap.size + 2 ≤ wr.heap.size := hwr
         generalize wr.heap.size = b3 at HB3 hb3 ⊢
         generalize wr.alloc (.cells #[.int .i64 l1] 3) = w3 at HC3 HK3 HB3 ⊢
         go_loopw [9] (fun v wr => ∃ (b m : Nat), v = .pointer (some ⟨b, 0, none⟩) ∧ w.heap.size + 2 ≤ b ∧ m ≤ l1 ∧ za5 D m = some (N, D') ∧ Hid (wr.heap[b]? = some (.cells #[.int .i64 m] 3 (0, 0))) ∧ Hid (CutM wr bo w.heap.size (w.heap.size + 1) og n R D (32768 - (sumW D : Nat))) ∧ Hid (zaa (fun b => b = bo) w wr)) (fun v wr => (ptrN v wr).toNat)
         case atStart => exact ⟨b3, l1, rfl, hb3, Nat.le_refl _, hT, HB3, HC3, HK3⟩
         case round =>
           clear HC3 HK3 HB3 hT HC HK zr hwr hb3
           obtain ⟨b, m, rfl, hb, hm, hT, HB, HC, HK⟩ := hrel
           cases m with
           | zero => simp [za5] at hT
           | succ m =>
             obtain ⟨p, hp0⟩ : ∃ p, p = m + 1 := ⟨_, rfl⟩
             obtain ⟨p2, hp2⟩ : ∃ p2, p2 = p + 1 := ⟨_, rfl⟩
             rw [← hp0] at HB
             have zn : wr.cell? ⟨b, 0, none⟩ = some (.int .i64 p) := by rw [cell_of_row wr b 0 _ _ _ HB.out]; rfl
             have HZN := Lib.hid zn
             have hge : decide ((p : Int) ≥ 1) = true := decide_eq_true (by omega)
             have HX := Lib.hid (idx_cut (cap := ocap) HC.out zn hR)
             have hbs : b < wr.heap.size := (Array.getElem?_eq_some_iff.1 HB.out).1
             have hw9 : IntKind.i64.wrap ((p : Int) + 1) = (p2 : Int) := by rw [IntWalk.i64_in _ (by omega)]; omega
             have hw8 : IntKind.i64.wrap ((p : Int) - 1) = (m : Int) := by rw [IntWalk.i64_in _ (by omega)]; omega
             have hsh : (32768 : Int) / 2 ^ p2 = (zao p2 : Int) := by unfold zao; norm_cast
             have hrl := zdu p2
             have hp := roomW_pos (x := p2) (by omega)
             have hp15 : p2 ≤ 15 := by omega
             have hp1 : 1 ≤ p := by omega
             have HT1 := Lib.hid hT
             have HPM := Lib.hid hM'
             have HP0 := Lib.hid hp0
             have HP2 := Lib.hid hp2
             clear hT hM' hp0 hp2
             go_wp2_with fail
             refine HX.out.mono ?_
             rintro e w2 ⟨⟨q, hq⟩, hcase⟩
             have HC2 := Lib.hid (show CutM w2 bo w.heap.size (w.heap.size + 1) og n R D (32768 - (sumW D : Nat)) from by rw [hq]; exact HC.out.drewN q)
             have HK2 := Lib.hid (show zaa (fun b => b = bo) w w2 from by rw [hq]; exact HK.out.drewN q)
             have HB2 := Lib.hid (show w2.heap[b]? = some (.cells #[.int .i64 p] 3 (0, 0)) from by rw [hq]; exact HB.out)
             clear hq zn HC HK HB
             rcases hcase with ⟨i, hi, rfl, hin, him⟩ | ⟨rfl, hno⟩
             · as_aux_lemma =>
                 have hD' := HT1.out
                 rw [HP0.out] at hin
                 rw [incTop_hit hin] at hD'
                 simp only [Option.some.injEq, Prod.mk.injEq] at hD'
                 obtain ⟨-, hD'⟩ := hD'
                 rw [← HP0.out, ← HP2.out] at hD'
                 have hge2 : decide ((i : Int) ≥ 0) = true := decide_eq_true (by omega)
                 have hil : (i : Int) < (R.length : Int) := by omega
                 obtain ⟨z1, z2, z3⟩ := HC2.out.at hi
                 rw [him] at z3
                 have zb := HC2.out.cbox
                 have f2 := HC2.out.fout (R.getD i 0)
                 have HSW := Lib.hid (sumW_inc (D := D) (i := i) (m := p) (by rw [HC2.out.len]; exact hi) him hp1 (by rw [← HP2.out]; exact hp15))
                 rw [← HP2.out, hD'] at HSW
                 have HC4 := Lib.hid ((HC2.out.setO hi p2).drewN 1)
                 rw [hD'] at HC4
                 generalize R.getD i 0 = k at z1 z2 z3 f2 HC4
                 have hkn : (k : Int) < (n : Int) := by omega
                 have HK4 := Lib.hid ((HK2.out.setCell (a := ⟨bo, k, none⟩) (.inl rfl) (.int .i64 p2)).drewN 1)
                 have HB4 := Lib.hid (show ((w2.setCell ⟨bo, k, none⟩ (.int .i64 p2)).drewN 1).heap[b]? = some (.cells #[.int .i64 p] 3 (0, 0)) from (heap_setCell_other _ _ _ _ (by show b ≠ bo; have := HBO.out; omega)).trans HB2.out)
                 clear hin him hD' HX HT1
                 go_wp2_with fail
                 go_region
                 obtain ⟨w4, hw4⟩ : ∃ w4, (w2.setCell ⟨bo, k, none⟩ (.int .i64 p2)).drewN 1 = w4 := ⟨_, rfl⟩
                 rw [show (w2.setCell ⟨bo, k, none⟩ (.int .i64 p2)).drew = w4 from hw4]
                 rw [hw4] at HC4 HK4 HB4
                 have q1 : w4.cell? ⟨b, 0, none⟩ = some (.int .i64 p) := by rw [cell_of_row w4 b 0 _ _ _ HB4.out]; rfl
                 have q2 := HC4.out.crm
                 have q3 := HC4.out.frm
                 have hw6 : 32768 - (sumW D : Int) + (zao p2 : Int) = 32768 - (sumW D' : Int) := by
                   have := HSW.out
                   omega
                 clear zb z1 z2 z3 f2 hw4
                 go_wp2_with fail
                 go_region
                 have HC5 := Lib.hid ((HC4.out.setR (32768 - (sumW D' : Int))).drewN 1)
                 have HK5 := Lib.hid ((HK4.out.setCell (a := ⟨w.heap.size + 1, 0, none⟩) (.inr (by show w.heap.size ≤ w.heap.size + 1; omega)) (.int .i64 (32768 - (sumW D' : Int)))).drewN 1)
                 obtain ⟨w5, hw5⟩ : ∃ w5, (w4.setCell ⟨w.heap.size + 1, 0, none⟩ (.int .i64 (32768 - (sumW D' : Int)))).drewN 1 = w5 := ⟨_, rfl⟩
                 rw [show (w4.setCell ⟨w.heap.size + 1, 0, none⟩ (.int .i64 (32768 - (sumW D' : Int)))).drew = w5 from hw5]
                 rw [hw5] at HC5 HK5
                 clear hw5 hw6 HC4 HK4 HB4 q1 q2 q3
                 go_wp2_with fail
                 go_roundw
                 case rel => exact ⟨_, D', HPM.out, Lib.hid (HIN.out), HC5, HK5⟩
                 case measure =>
                   rw [zce HC5.out.crm, zce HZR.out]
                   have := HSW.out
                   omega
             · as_aux_lemma =>
                 have HT2 := Lib.hid (show za5 D m = some (N, D') from by
                   rw [HP0.out] at hno
                   rw [← incTop_miss hno]; exact HT1.out)
                 have zn := cell_of_row w2 b 0 _ _ _ HB2.out
                 have zn : w2.cell? ⟨b, 0, none⟩ = some (.int .i64 p) := by rw [zn]; rfl
                 have hge2 : decide ((-1 : Int) ≥ 0) = false := rfl
                 have hb2 : b < w2.heap.size := (Array.getElem?_eq_some_iff.1 HB2.out).1
                 have HH := Lib.hid (heap_alloc_new w2 (.cells #[.int .i64 m] 3))
                 have hm1 : m ≤ l1 := by have := HP0.out; omega
                 have hbw : w.heap.size + 2 ≤ w2.heap.size := by have := (Array.getElem?_eq_some_iff.1 HC2.out.rm).1; omega
                 clear hno HX HT1
                 go_wp2_with fail
                 refine ⟨⟨_, m, rfl, hbw, hm1, HT2.out, HH, Lib.hid (HC2.out.alloc _), Lib.hid (HK2.out.alloc _)⟩, ?_⟩
                 show (zfq _ _).toNat < (zfq _ _).toNat
                 rw [zce HZN.out, zce (x := (m : Int)) (k := .i64) (by rw [cell_of_row _ _ 0 _ _ _ HH.out]; rfl)]
                 have := HP0.out
                 omega
   have hcd : decide ((i : Int) < (R.length : Int)) = true := decide_eq_true (by omega)
   have hjl : (i : Int) < (R.length : Int) := by omega
   obtain ⟨z1, z2, z3⟩ := HC.out.at hlt
   have zb := HC.out.cbox
   have zr := HC.out.crm
   have f1 := HC.out.frm
   have f2 := HC.out.fout (R.getD i 0)
   have HB := Lib.hid (roomN_bd limit D i)
   have hx := minN_get limit D (i := i) (by rw [HDL.out]; exact hlt)
   rw [hx] at z3
   have HX := Lib.hid hx
   obtain ⟨hx1, hx2⟩ := HD1.out _ (zcW (R := D) (i := i) (by rw [HDL.out]; exact hlt))
   have hr0 := HB.out
   have HS := Lib.hid (roomN_step limit D (i := i) (by rw [HDL.out]; exact hlt))
   have HT := Lib.hid (minN_step limit D (i := i) (by rw [HDL.out]; exact hlt))
   generalize hk : R.getD i 0 = k at z1 z2 z3 f2
   have HKK := Lib.hid hk
   generalize hxx : D.getD i 0 = x at z3 hx1 hx2 HS HT
   generalize hrr : zeo limit D i = r at zr HC hr0 HS
   have hkn : (k : Int) < (n : Int) := by omega
   clear hx hk hxx hrr HB
   obtain ⟨y, hy⟩ : ∃ y, y = min x limit := ⟨_, rfl⟩
   have hy15 : y ≤ 15 := by omega
   have hsh : (32768 : Int) / 2 ^ y = (zao y : Int) := by unfold zao; norm_cast
   have hrl := zdu y
   rw [← hy] at HS HT
   have hmn : (if (x : Int) ≤ limit then (x : Int) else limit) = (y : Int) := by split <;> omega
   have go2 : ∀ (W : World), CutM W bo w.heap.size (w.heap.size + 1) og n R (minN limit D (i + 1)) r → W.cell? ⟨bo, k, none⟩ = some (.int .i64 y) := fun W h => by
     obtain ⟨-, -, h3⟩ := h.at hlt
     rw [HKK.out] at h3
     rw [h3, ← HT.out, List.getD_eq_getElem?_getD, List.getElem?_set_self (by rw [minN_len, HDL.out]; exact hlt)]; rfl
   have HC1 := Lib.hid (show CutM (wr.setCell ⟨bo, k, none⟩ (.int .i64 y)).drew bo w.heap.size (w.heap.size + 1) og n R (minN limit D (i + 1)) r from by
     have := (HC.out.setO hlt y).drewN 1
     rw [HT.out, HKK.out] at this
     exact this)
   have HK1 := Lib.hid (show zaa (fun b => b = bo) w (wr.setCell ⟨bo, k, none⟩ (.int .i64 y)).drew from (HK.out.setCell (a := ⟨bo, k, none⟩) (.inl rfl) _).drewN 1)
   have HG := Lib.hid go2
   clear go2 HC HK
   have key : x ≤ limit ∧ x = y ∨ ¬ x ≤ limit ∧ y = limit := by omega
   have hw6 : wrap64 (r - (zao y : Int)) = zeo limit D (i + 1) := by
     rw [HS.out]
     have := HDL.out
     exact IntWalk.wrap64_in _ (by omega)
   have HY := Lib.hid hy
   clear hy hmn
   rcases key with ⟨hxl, hyx⟩ | ⟨hxl, hyx⟩
   · as_aux_lemma =>
       subst hyx
       have hmn : min (x : Int) (limit : Int) = (x : Int) := by omega
       go_wp2_with fail
       go_region
       obtain ⟨w1, hw1⟩ : ∃ w1, (wr.setCell ⟨bo, k, none⟩ (.int .i64 x)).drew = w1 := ⟨_, rfl⟩
       rw [hw1] at HC1 HK1 ⊢
       have q1 := HC1.out.cbox
       have q2 := HC1.out.crm
       have q3 := HC1.out.frm
       have q4 := HG.out _ HC1.out
       clear zb zr f1 f2 z3 z2
       go_wp2_with fail
       go_region
       rw [hw6]
       go_wp2_with fail
       go_roundw
       case rel => exact ⟨i + 1, by go_num, by omega, Lib.hid ((HC1.out.setR _).drewN 1), Lib.hid ((HK1.out.setCell (a := ⟨w.heap.size + 1, 0, none⟩) (.inr (by show w.heap.size ≤ w.heap.size + 1; omega)) _).drewN 1)⟩
       case measure => simp [intOf]; omega
   · as_aux_lemma =>
       subst hyx
       have hmn : min (x : Int) (y : Int) = (y : Int) := by omega
       go_wp2_with fail
       go_region
       obtain ⟨w1, hw1⟩ : ∃ w1, (wr.setCell ⟨bo, k, none⟩ (.int .i64 y)).drew = w1 := ⟨_, rfl⟩
       rw [hw1] at HC1 HK1 ⊢
       have q1 := HC1.out.cbox
       have q2 := HC1.out.crm
       have q3 := HC1.out.frm
       have q4 := HG.out _ HC1.out
       clear zb zr f1 f2 z3 z2
       go_wp2_with fail
       go_region
       rw [hw6]
       go_wp2_with fail
       go_roundw
       case rel => exact ⟨i + 1, by go_num, by omega, Lib.hid ((HC1.out.setR _).drewN 1), Lib.hid ((HK1.out.setCell (a := ⟨w.heap.size + 1, 0, none⟩) (.inr (by show w.heap.size ≤ w.heap.size + 1; omega)) _).drewN 1)⟩
       case measure => simp [intOf]; omega
end Go.Proofs.YtngjbhejfojpbaaGreat
namespace Go.Proofs
open Go.Shelf
def Tryz.sortInt_ren : Go.Shelf.Ren := ⟨fun | 6 => 93 | 15 => 99 | 14 => 98 | 28 => 110 | 29 => 111 | 20 => 87 | 21 => 103 | 22 => 104 | 23 => 105 | 24 => 106 | 25 => 107 | 26 => 108 | 27 => 109 | 46 => 113 | 47 => 114 | 48 => 115 | 49 => 116 | 50 => 117 | 57 => 119 | n => n, fun | 22 => 59 | 24 => 3 | 25 => 103 | 3 => 3 | 39 => 127 | 0 => 0 | 53 => 69 | 55 => 101 | 4 => 4 | 46 => 158 | 45 => 157 | 50 => 119 | 5 => 5 | 9 => 9 | 66 => 165 | 70 => 169 | 76 => 171 | 77 => 80 | n => n, fun | n => n⟩
theorem Tryz.sortInt : Go.Proofs.SlLaysF.n6 Tryz.prog Tryz.sortInt_ren := {
 mixed := by kernel_rfl
 f6 := ⟨Tryz.f93.name, by decide, Tryz.func93.trans (congrArg some (by kernel_rfl))⟩
 f14 := ⟨Tryz.f98.name, by decide, Tryz.func98.trans (congrArg some (by kernel_rfl))⟩
 f15 := Tryz.func99.trans (congrArg some (by kernel_rfl))
 f20 := ⟨Tryz.f87.name, by decide, Tryz.func87.trans (congrArg some (by kernel_rfl))⟩
 f21 := ⟨Tryz.f103.name, by decide, Tryz.func103.trans (congrArg some (by kernel_rfl))⟩
 f22 := ⟨Tryz.f104.name, by decide, Tryz.func104.trans (congrArg some (by kernel_rfl))⟩
 f23 := ⟨Tryz.f105.name, by decide, Tryz.func105.trans (congrArg some (by kernel_rfl))⟩
 f24 := ⟨Tryz.f106.name, by decide, Tryz.func106.trans (congrArg some (by kernel_rfl))⟩
 f25 := ⟨Tryz.f107.name, by decide, Tryz.func107.trans (congrArg some (by kernel_rfl))⟩
 f26 := ⟨Tryz.f108.name, by decide, Tryz.func108.trans (congrArg some (by kernel_rfl))⟩
 f27 := ⟨Tryz.f109.name, by decide, Tryz.func109.trans (congrArg some (by kernel_rfl))⟩
 f28 := Tryz.func110.trans (congrArg some (by kernel_rfl))
 f29 := Tryz.func111.trans (congrArg some (by kernel_rfl))
 f46 := ⟨Tryz.f113.name, by decide, Tryz.func113.trans (congrArg some (by kernel_rfl))⟩
 f47 := Tryz.func114.trans (congrArg some (by kernel_rfl))
 f48 := Tryz.func115.trans (congrArg some (by kernel_rfl))
 f49 := ⟨Tryz.f116.name, by decide, Tryz.func116.trans (congrArg some (by kernel_rfl))⟩
 f50 := ⟨Tryz.f117.name, by decide, Tryz.func117.trans (congrArg some (by kernel_rfl))⟩
 f57 := ⟨Tryz.f119.name, by decide, Tryz.func119.trans (congrArg some (by kernel_rfl))⟩
 t0 := Tryz.underlying0
 a0 := Tryz.isAgg0
 z0 := Tryz.sizeOf0
 v0 := Tryz.zeroValue0
 t3 := Tryz.underlying3
 a3 := Tryz.isAgg3
 z3 := Tryz.sizeOf3
 v3 := Tryz.zeroValue3
 t4 := Tryz.underlying4
 a4 := Tryz.isAgg4
 z4 := Tryz.sizeOf4
 v4 := Tryz.zeroValue4
 t5 := Tryz.underlying5
 a5 := Tryz.isAgg5
 z5 := Tryz.sizeOf5
 v5 := Tryz.zeroValue5
 t9 := Tryz.underlying9
 a9 := Tryz.isAgg9
 z9 := Tryz.sizeOf9
 v9 := Tryz.zeroValue9
 t22 := Tryz.underlying59
 a22 := Tryz.isAgg59
 z22 := Tryz.sizeOf59
 v22 := Tryz.zeroValue59
 a24 := Tryz.isAgg3
 z24 := Tryz.sizeOf3
 t25 := Tryz.underlying103
 a25 := Tryz.isAgg103
 z25 := Tryz.sizeOf103
 v25 := Tryz.zeroValue103
 t39 := Tryz.underlying127
 a39 := Tryz.isAgg127
 z39 := Tryz.sizeOf127
 v39 := Tryz.zeroValue127
 t45 := Tryz.underlying157
 a45 := Tryz.isAgg157
 z45 := Tryz.sizeOf157
 v45 := Tryz.zeroValue157
 t46 := Tryz.underlying158
 a46 := Tryz.isAgg158
 z46 := Tryz.sizeOf158
 v46 := Tryz.zeroValue158
 t50 := Tryz.underlying119
 a50 := Tryz.isAgg119
 z50 := Tryz.sizeOf119
 v50 := Tryz.zeroValue119
 t53 := Tryz.underlying69
 a53 := Tryz.isAgg69
 z53 := Tryz.sizeOf69
 v53 := Tryz.zeroValue69
 t55 := Tryz.underlying101
 a55 := Tryz.isAgg101
 z55 := Tryz.sizeOf101
 v55 := Tryz.zeroValue101
 t66 := Tryz.underlying165
 a66 := Tryz.isAgg165
 z66 := Tryz.sizeOf165
 v66 := Tryz.zeroValue165
 t70 := Tryz.underlying169
 a70 := Tryz.isAgg169
 z70 := Tryz.sizeOf169
 v70 := Tryz.zeroValue169
 t76 := Tryz.underlying171
 a76 := Tryz.isAgg171
 z76 := Tryz.sizeOf171
 v76 := Tryz.zeroValue171
 t77 := Tryz.underlying80
 a77 := Tryz.isAgg80
 z77 := Tryz.sizeOf80
 v77 := Tryz.zeroValue80 }
end Go.Proofs
namespace Go.Proofs.YtngjbhejfojpbaaGreat
open Go.RowKit Go.Sort
def encN (x : Nat) : Value := .int .i64 x
def cmpD (x y : Nat) : Int := cmpI y x
theorem ze1 (x y : Nat) : Go.Proofs.ltOf cmpD x y = decide (y < x) := by
 unfold Go.Proofs.ltOf cmpD cmpI
 by_cases h1 : (y : Int) < x
 · rw [if_pos h1]; simp; omega
 · rw [if_neg h1]
   by_cases h2 : (x : Int) < y
   · rw [if_pos h2]; simp; omega
   · rw [if_neg h2]; simp; omega
theorem swoD : SWO (Go.Proofs.ltOf cmpD) where
 irrefl x := by show Go.Proofs.ltOf cmpD x x = false; rw [ze1]; simp
 trans x y z h1 h2 := by
   change Go.Proofs.ltOf cmpD x y = true at h1
   change Go.Proofs.ltOf cmpD y z = true at h2
   show Go.Proofs.ltOf cmpD x z = true
   rw [ze1] at *; simp at *; omega
 ntrans x y z h1 h2 := by
   change Go.Proofs.ltOf cmpD x y = false at h1
   change Go.Proofs.ltOf cmpD y z = false at h2
   show Go.Proofs.ltOf cmpD x z = false
   rw [ze1] at *; simp at *; omega
theorem cmpS1_any (x y : Nat) (w : World) : Calls Tryz.prog 94 #[.int .i64 x, .int .i64 y] w fun e w' => e = .returned (.int .i64 (cmpD x y)) ∧ w' = w := by
 obtain ⟨R, hR⟩ : ∃ R, R = cmpD x y := ⟨_, rfl⟩
 have HC := Lib.hid (fun W => zdA (y : Int) (x : Int) W)
 have hR2 : cmpI (y : Int) (x : Int) = R := hR.symm
 rw [hR2] at HC
 rw [← hR]
 clear hR hR2
 go_enter Tryz.func94, Tryz.ntmps94
 go_wp2_with (go_at_call 63; refine (HC.out _).mono ?_; rintro e w2 ⟨rfl, rfl⟩)
 go_ret
 exact ⟨rfl, rfl⟩
theorem putN_take (D : List Nat) (cur : Array Value) (h : D.length ≤ cur.size) : (putCells encN 0 D.toArray cur).toList.take D.length = natV D := by
 apply List.ext_getElem?
 intro i
 rw [List.getElem?_take]
 by_cases hi : i < D.length
 · rw [if_pos hi, zcB hi, Array.getElem?_toList]
   unfold putCells
   rw [Array.getElem?_mapIdx, Array.getElem?_eq_getElem (by omega)]
   simp [hi, encN, List.getD]
 · rw [if_neg hi, List.getElem?_eq_none (by rw [zbj]; omega)]
theorem sort_int : SortISaid := by
 intro base g cap D w h hn
 obtain ⟨h1, h2⟩ := h
 rcases h2 with ⟨h3, _⟩ | ⟨g', cap', cur, hv, hbg, hg, hle, hcm, hcs, htk⟩
 · cases h3
 simp only [Value.slice.injEq, Option.some.injEq, Addr.mk.injEq] at hv
 obtain ⟨⟨rfl, _, _⟩, -, rfl⟩ := hv
 rw [Nat.mul_one] at hcs htk
 have hblk : g < w.heap.size := (Array.getElem?_eq_some_iff.1 hg).1
 have hH : Holds encN w g 0 D.toArray := by
   intro j hj
   have hj2 : j < D.length := by simpa using hj
   refine ⟨?_, frozen_of_row w g _ _ _ hg⟩
   rw [Nat.zero_add, cell_of_row w g j cur _ (0, 0) hg]
   have h5 : (cur.toList.take D.length)[j]? = (natV D)[j]? := by rw [htk]
   rw [List.getElem?_take, if_pos hj2, zcB hj2, Array.getElem?_toList] at h5
   rw [h5]
   simp [encN, List.getD, hj2]
 have eg : ∀ args w, (callFunc 94 args).run Tryz.prog w = .ok (.enter 94 args) w := enters_of Tryz.func94 (by kernel_rfl) rfl
 have hcmp : CmpLays1 Tryz.prog 94 #[] encN cmpD g 0 D.toArray.size w := CmpReads.lays fun _ _ _ _ x y => (cmpS1_any x y _).mono fun _ _ ⟨h1, h2⟩ => ⟨h1, 0, h2⟩
 have hcon := Any.slices_SortFunc Tryz.sortInt encN (fun _ => rfl) cmpD swoD 94 #[] g 0 cap D.toArray w eg hcmp hH hblk (by simp; omega)
 change Calls Tryz.prog 93 _ _ _ at hcon
 have es : D.toArray.size = D.length := by simp
 rw [es] at hcon
 refine hcon.mono ?_
 rintro e w' ⟨rfl, d', m, os, hp, hs, rfl⟩
 obtain ⟨D', rfl⟩ : ∃ D' : List Nat, D'.toArray = d' := ⟨d'.toList, by simp⟩
 have hl' : D'.length = D.length := by have := hp.1; simpa using this
 refine ⟨rfl, D', ?_, fun i j hij hj => ?_, ?_, ?_⟩
 · have h6 := hp.2.2
   have e1 : (D'.toArray.extract 0 D.length).toList = D' := by rw [← hl']; simp
   have e2 : (D.toArray.extract 0 D.length).toList = D := by simp
   rwa [e1, e2] at h6
 · rcases Nat.lt_or_eq_of_le hij with h | h
   · have h7 := hs i j (Nat.zero_le _) h (by omega)
     change Go.Proofs.ltOf cmpD D'.toArray[j]! D'.toArray[i]! = false at h7
     rw [ze1, getElem!_pos D'.toArray i (by simp; omega), getElem!_pos D'.toArray j (by simpa using hj)] at h7
     simp only [List.getD_eq_getElem?_getD, List.getElem?_eq_getElem hj, List.getElem?_eq_getElem (show i < D'.length by omega), Option.getD_some]
     simp at h7
     omega
   · subst h; exact Nat.le_refl _
 · have hfs : D'.length ≤ cur.size := by omega
   refine ⟨by rw [zbj, hl', Nat.mul_one], .inr ⟨g, cap, putCells encN 0 D'.toArray cur, rfl, hbg, ?_, hle, hcm, ?_, ?_⟩⟩
   · unfold sortWorld
     rw [heap_grow_old _ _ (by rw [size_putRow]; exact hblk)]
     unfold putRow mapBlock
     show (w.heap.modify g _)[g]? = _
     rw [Array.getElem?_modify, if_pos rfl, hg]
     rfl
   · simp [putCells, hcs]
   · rw [Nat.mul_one, ← hl']; exact putN_take D' cur hfs
 · refine ⟨rfl, rfl, rfl, ?_, fun k hk hne => ?_⟩
   · unfold sortWorld
     have h := size_grow (putRow encN (Sort.ahead w m) g 0 D'.toArray) os
     rw [size_putRow] at h
     rw [h]
     exact Nat.le_add_right _ _
   · unfold sortWorld
     rw [heap_grow_old _ _ (by rw [size_putRow]; exact hk)]
     unfold putRow mapBlock
     show (w.heap.modify g _)[k]? = _
     rw [Array.getElem?_modify, if_neg (fun e => hne (by rw [e]))]
structure OkC (l : List Int) (m : Int) : Prop where
 pos : 1 ≤ l.length
 le : l.length ≤ 320
 m1 : 1 ≤ m
 m15 : m ≤ 15
 rng : ∀ j, j < l.length → 0 ≤ l.getD j 0 ∧ l.getD j 0 ≤ 2147483647
 fit : (zad l l.length).length ≤ 2 ^ m.toNat
def LenEnd (w : World) (l : List Int) (m : Int) (e : Ending) (w' : World) : Prop :=
 Below w.heap.size w w' ∧ ((¬ OkC l m ∧ e = .returned (.tuple #[.slice none 0 0, .int .i64 2])) ∨
   (OkC l m ∧ ∃ bo L, e = .returned (.tuple #[.slice (some ⟨bo, 0, none⟩) l.length l.length, .int .i64 0]) ∧ OutR w' bo L ∧ (zbK l m.toNat (zad l l.length).length L ∧ zdN l m.toNat L) ∧ w.heap.size ≤ bo))
theorem cmpLen_any (bx : Nat) (ab ao n cap : Nat) (l : List Int) (x y : Nat) (w : World) (hb : w.cell? ⟨bx, 0, none⟩ = some (.slice (some ⟨ab, ao, none⟩) n cap)) (hc : ∀ j, j < n → w.cell? ⟨ab, ao + j, none⟩ = some (.int .i64 (l.getD j 0))) (hx : x < n) (hy : y < n) :
   Calls Tryz.prog 83 #[.int .i64 x, .int .i64 y, .pointer (some ⟨bx, 0, none⟩)] w fun e w' => e = .returned (.int .i64 (cfL l x y)) ∧ ∃ q, w' = w.drewN q := by
 have hv : cfL l x y = cmpI (l.getD x 0) (l.getD y 0) := rfl
 have HV := Lib.hid hv
 clear hv
 have hcx := hc x hx
 have hcy := hc y hy
 generalize l.getD x 0 = X at *
 generalize l.getD y 0 = Y at *
 have hx2 : (x : Int) < (n : Int) := by omega
 have hy2 : (y : Int) < (n : Int) := by omega
 clear hc
 go_enter Tryz.func83, Tryz.ntmps83
 go_wp2
 go_quiet ((go_at_call 63; exact zcU (zdA _ _ _)))
 go_wp2
 go_ret
 exact ⟨zaK HV.out.symm, _, rfl⟩
set_option maxRecDepth 20000 in
theorem lengths_any {w : World} {a : Option Addr} {n cap : Nat} {l : List Int} {m : Int} (hr : Row w 1 a n cap (l.map (Value.int .i64))) (hm : -9223372036854775808 ≤ m ∧ m ≤ 9223372036854775807) :
   Calls Tryz.prog 68 #[.slice a n cap, .int .i64 m] w (LenEnd w l m) := by
 have hl := hr.len1
 have hn63 := hr.2.2.1
 have hcapn := hr.2.1
 unfold maxLen at hn63
 have hR1 := hr.mono (zam w (.cells #[.slice a n cap] 59))
 have HR := Lib.hid hR1
 have HL := Lib.hid hl
 have HR0 := Lib.hid hr
 have hbad : ∀ (w' : World), Below w.heap.size w w' → ¬ OkC l m → LenEnd w l m (.returned (.tuple #[.slice none 0 0, .int .i64 2])) w' := fun w' hb h => ⟨hb, .inl ⟨h, rfl⟩⟩
 have HBAD := Lib.hid hbad
 clear hr hR1 hl hbad
 by_cases h1 : (n : Int) < 1
 · have HN := Lib.hid (show ¬ OkC l m from fun h => by have := h.pos; have := HL.out; omega)
   go_enter Tryz.func68, Tryz.ntmps68
   go_wp2
   go_ret2
   exact HBAD.out _ (zam _ _) HN.out
 by_cases h2 : (320 : Int) < n
 · have HN := Lib.hid (show ¬ OkC l m from fun h => by have := h.le; have := HL.out; omega)
   go_enter Tryz.func68, Tryz.ntmps68
   go_wp2
   go_ret2
   exact HBAD.out _ (zam _ _) HN.out
 by_cases h3 : m < 1
 · have HN := Lib.hid (show ¬ OkC l m from fun h => by have := h.m1; omega)
   go_enter Tryz.func68, Tryz.ntmps68
   go_wp2
   go_ret2
   exact HBAD.out _ (zam _ _) HN.out
 by_cases h4 : 15 < m
 · have HN := Lib.hid (show ¬ OkC l m from fun h => by have := h.m15; omega)
   go_enter Tryz.func68, Tryz.ntmps68
   go_wp2
   go_ret2
   exact HBAD.out _ (zam _ _) HN.out
 have hbx := heap_alloc_new w (.cells #[.slice a n cap] 59)
 have hsz0 := zae w (.cells #[.slice a n cap] 59)
 have hB0 := zam w (.cells #[.slice a n cap] 59)
 have HB0 := Lib.hid hB0
 have HBX := Lib.hid hbx
 have hn0 : 1 ≤ n := by omega
 obtain ⟨ab, ao, ha, hab, hcel⟩ := HR0.out.at 0 0 (by omega)
 subst ha
 have HCL := Lib.hid (show ∀ W, Below (w.heap.size + 1) (w.alloc (.cells #[.slice (some ⟨ab, ao, none⟩) n cap] 59)) W → ∀ j, j < n → W.cell? ⟨ab, ao + j, none⟩ = some (.int .i64 (l.getD j 0)) from fun W hb j hj => zag hb (by show ab < w.heap.size + 1; omega) (cell?_keep hB0 (hcel j hj)))
 have HBC := Lib.hid (show ∀ W, Below (w.heap.size + 1) (w.alloc (.cells #[.slice (some ⟨ab, ao, none⟩) n cap] 59)) W → W.cell? ⟨w.heap.size, 0, none⟩ = some (.slice (some ⟨ab, ao, none⟩) n cap) from fun W hb => by
   rw [cell_of_row W w.heap.size 0 _ _ _ ((hb.block _ (by omega)).trans hbx)]; rfl)
 have HAB := Lib.hid hab
 clear hbx hB0 hcel
 go_enter Tryz.func68, Tryz.ntmps68
 go_wp2_with fail
 obtain ⟨W0, hW0⟩ : ∃ W0, w.alloc (.cells #[.slice (some ⟨ab, ao, none⟩) n cap] 59) = W0 := ⟨_, rfl⟩
 rw [hW0] at HB0 HBX HR hsz0 HCL HBC ⊢
 clear hW0
 go_loopw [29, 6, 7] (fun v S6 S7 wr => ∃ (k : Nat) (ns : List LN), v = .int .i64 k ∧ k ≤ n ∧ Hid (zbB wr (w.heap.size + 1) S6 S7 ns) ∧ Hid (ns.map LN.key = zco l k) ∧ Hid (∀ j, j < k → 0 ≤ l.getD j 0 ∧ l.getD j 0 ≤ 2147483647) ∧ Hid (Below (w.heap.size + 1) W0 wr)) (fun v _ _ _ => n - (intOf v).toNat)
 case atStart => exact ⟨0, [], rfl, Nat.zero_le _, Lib.hid (zbB.nil _ _), Lib.hid rfl, Lib.hid (fun j hj => by omega), Lib.hid (Below.refl _ _)⟩
 case round =>
   obtain ⟨k, ns, rfl, hk, HQ, HKey, HRg, HB⟩ := hrel
   have hszr := HB.out.size
   by_cases hlt : k < n
   · have hcd : decide ((k : Int) < (n : Int)) = true := decide_eq_true (by omega)
     have hkn : (k : Int) < (n : Int) := by omega
     have z1 := HCL.out _ HB.out k hlt
     have HPS := Lib.hid (posTo_succ l k)
     have HRS := Lib.hid (show 0 ≤ l.getD k 0 ∧ l.getD k 0 ≤ 2147483647 → ∀ j, j < k + 1 → 0 ≤ l.getD j 0 ∧ l.getD j 0 ≤ 2147483647 from fun h j hj => by
       rcases Nat.lt_or_eq_of_le (Nat.le_of_lt_succ hj) with h1 | h1
       · exact HRg.out j h1
       · rw [h1]; exact h)
     have HNK := Lib.hid (show ¬ (0 ≤ l.getD k 0 ∧ l.getD k 0 ≤ 2147483647) → ¬ OkC l m from fun h h' => h (h'.rng k (by rw [HL.out]; exact hlt)))
     have HBW := Lib.hid (show Below w.heap.size w wr from HB0.out.trans (HB.out.mono (Nat.le_succ _)))
     generalize l.getD k 0 = x at z1 HPS HRS HNK
     by_cases hx1 : x < 0
     · have HN := Lib.hid (HNK.out (by omega))
       clear HPS HRS HNK HCL HBC HQ
       go_wp2
       go_ret2
       exact HBAD.out _ HBW.out HN.out
     by_cases hx2 : 2147483647 < x
     · have HN := Lib.hid (HNK.out (by omega))
       clear HPS HRS HNK HCL HBC HQ
       go_wp2
       go_ret2
       exact HBAD.out _ HBW.out HN.out
     by_cases hx3 : 0 < x
     · obtain ⟨c, rfl⟩ : ∃ c : Nat, x = (c : Int) := ⟨x.toNat, by omega⟩
       have hlen : ns.length ≤ k := by
         have h := congrArg List.length HKey.out
         rw [List.length_map] at h
         have := zeg l k
         omega
       have HRN := Lib.hid (show ∀ o1 y e, Row ((wr.alloc o1).alloc (.cells #[y] e)) 1 (some ⟨wr.heap.size + 1, 0, none⟩) 1 1 [y] from fun o1 y e => by
         have h := zbl (wr.alloc o1) y e
         rwa [zae] at h)
       have HSA := Lib.hid (show ∀ o1 o2, w.heap.size + 1 ≤ ((wr.alloc o1).alloc o2).heap.size from fun o1 o2 => by rw [zae, zae]; omega)
       clear HNK HBC HCL
       go_wp2_with (first
         | (at_builtin; refine zb8 ENod rfl (.tmp 42) (.tmp 47) rfl (w.heap.size + 1) _ ns.length _ rfl ((HQ.out.r6.alloc _).alloc _) _ 1 1 _ rfl (HRN.out _ _ _) (zb5 rfl) (by unfold maxLen; omega) (by omega) (HSA.out _ _) ?_; intro v5 w5 hO5 hg5 hn5; have HO5 := Lib.hid hO5; have HG5 := Lib.hid hg5; have HN5 := Lib.hid hn5; have hs5 := hg5.size; rw [zae, zae] at hs5; have HR7 := Lib.hid (HQ.out.r7_after hg5); clear hO5 hg5 hn5)
         | (at_builtin; refine zb8 ETI rfl (.tmp 49) (.tmp 51) rfl (w.heap.size + 1) _ ns.length _ rfl (HR7.out.alloc _) _ 1 1 _ rfl (zbl _ _ _) (zb5 rfl) (by unfold maxLen; omega) (by omega) (by rw [zae]; omega) ?_; intro v6 w6 hO6 hg6 hn6; have HO6 := Lib.hid hO6; have HG6 := Lib.hid hg6; have HN6 := Lib.hid hn6; have hs6 := hg6.size; rw [zae] at hs6; clear hO6 hg6 hn6))
       go_roundw
       case rel =>
         refine ⟨k + 1, ns ++ [⟨wr.heap.size, k, c⟩], by go_num, by omega, Lib.hid (HQ.out.step (by omega) rfl HO5.out HG5.out HN5.out HO6.out HG6.out HN6.out), Lib.hid ?_, Lib.hid (HRS.out (by omega)), Lib.hid ?_⟩
         · rw [List.map_append, HKey.out, HPS.out, if_pos hx3]
           show _ = _ ++ [(k, ((c : Int)).toNat)]
           rw [Int.toNat_natCast]; rfl
         · exact (((((HB.out.alloc (by omega) _).alloc (by rw [zae]; omega) _).grown HG5.out (by rw [zae, zae]; omega) (fun q hq => (HQ.out.r6.lt q hq).1)).alloc (by omega) _).grown HG6.out (by rw [zae]; omega) (fun q hq => (HQ.out.r7.lt q hq).1))
       case measure => simp [intOf]; omega
     · go_wp2
       go_roundw
       case rel =>
         refine ⟨k + 1, ns, by go_num, by omega, HQ, Lib.hid ?_, Lib.hid (HRS.out (by omega)), HB⟩
         rw [HKey.out, HPS.out, if_neg hx3, List.append_nil]
       case measure => simp [intOf]; omega
   · have hkn : k = n := by omega
     subst hkn
     have hcd : decide ((k : Int) < (k : Int)) = false := decide_eq_false (by omega)
     obtain ⟨mm, rfl⟩ : ∃ mm : Nat, m = (mm : Int) := ⟨m.toNat, by omega⟩
     obtain ⟨a6, c6, h6, -, -⟩ := Row.of_owns HQ.out.r6
     obtain ⟨a7, c7, h7, -, -⟩ := Row.of_owns HQ.out.r7
     subst h6
     subst h7
     have HBW := Lib.hid (show Below w.heap.size w wr from HB0.out.trans (HB.out.mono (Nat.le_succ _)))
     have hNl : ns.length = (zad l k).length := by
       rw [← zcl, ← HKey.out, List.length_map, List.length_map]
     have hNk : ns.length ≤ k := by rw [hNl, ← zcl, List.length_map]; exact zeg l k
     have HNL := Lib.hid hNl
     have hpw : 1 ≤ 2 ^ mm ∧ 2 ^ mm ≤ 32768 := by
       have : ∀ m, m ≤ 15 → 1 ≤ 2 ^ m ∧ 2 ^ m ≤ 32768 := by decide
       exact this mm (by omega)
     obtain ⟨P2, hP2⟩ : ∃ P2, P2 = 2 ^ mm := ⟨_, rfl⟩
     have hshl : (2 : Int) ^ mm = (P2 : Int) := by rw [hP2]; norm_cast
     rw [← hP2] at hpw
     have HP2 := Lib.hid hP2
     clear hNl hP2
     by_cases hfit : ns.length ≤ P2
     case neg =>
       have HN := Lib.hid (show ¬ OkC l (mm : Int) from fun h => hfit (by have h := h.fit; rw [Int.toNat_natCast, HL.out, ← HNL.out, ← HP2.out] at h; exact h))
       have hgt : decide ((ns.length : Int) > (P2 : Int)) = true := decide_eq_true (by omega)
       clear HCL HBC HQ
       go_wp2_with fail
       go_ret2
       exact HBAD.out _ HBW.out HN.out
     have HOK := Lib.hid (show OkC l (mm : Int) from ⟨by rw [HL.out]; omega, by rw [HL.out]; omega, by omega, by omega, fun j hj => HRg.out j (by rw [← HL.out]; exact hj), by rw [Int.toNat_natCast, HL.out, ← HNL.out, ← HP2.out]; exact hfit⟩)
     have hgt : decide ((ns.length : Int) > (P2 : Int)) = false := decide_eq_false (by omega)
     have hwr : w.heap.size + 1 ≤ wr.heap.size := by have := HB.out.size; omega
     have hposR : ns.map LN.s = posR l := posR_of (by rw [HL.out]; exact HKey.out)
     have HPR := Lib.hid hposR
     have hRl : (posR l).length = ns.length := by rw [← hposR, List.length_map]
     have HRL := Lib.hid hRl
     clear hposR hRl
     by_cases hN0 : ns.length = 0
     case pos =>
       have hN0i : decide ((ns.length : Int) = 0) = true := decide_eq_true (by omega)
       have hNi : ((ns.length : Int) == 0) = true := by rw [hN0]; rfl
       have HG := Lib.hid (show zbK l mm (zad l l.length).length (List.replicate l.length 0) from good_none (List.eq_nil_of_length_eq_zero (by rw [HRL.out]; exact hN0)))
       have HLX := Lib.hid (show zdN l mm (List.replicate l.length 0) from .inl ⟨List.eq_nil_of_length_eq_zero (by rw [HRL.out]; exact hN0), rfl⟩)
       clear HQ HCL hN0i
       have hbxc := HBC.out _ HB.out
       clear HBC
       go_wp2_with (at_make; refine zcQ ETI rfl (.tmp 60) (.tmp 60) rfl .i64 .i64 _ _ k rfl rfl rfl rfl (by omega) (by unfold maxLen; omega) ?_; intro w4 hown hb4; have HO := Lib.hid (outR_made (zbR hown (ze2 _ k))); have HB4 := Lib.hid hb4; clear hown hb4)
       go_ret2
       refine ⟨HBW.out.trans (HB4.out.mono HBW.out.size), .inr ⟨HOK.out, wr.heap.size, List.replicate l.length 0, by rw [HL.out]; rfl, by rw [HL.out]; exact HO.out, by rw [Int.toNat_natCast]; exact ⟨HG.out, HLX.out⟩, by omega⟩⟩
     have hN1 : 0 < ns.length := Nat.pos_of_ne_zero hN0
     have hNi : ((ns.length : Int) == 0) = false := by
       rw [show ((ns.length : Int) == 0) = decide ((ns.length : Int) = 0) from rfl]; exact decide_eq_false (by omega)
     obtain ⟨g6, hg6, hg6b, hg6l⟩ : ∃ g, a6 = some ⟨g, 0, none⟩ ∧ w.heap.size + 1 ≤ g ∧ g < wr.heap.size := by
       rcases HQ.out.r6.2 with ⟨-, h⟩ | ⟨g, cap, cur, hv, hb, hg, -⟩
       · omega
       · simp only [Value.slice.injEq] at hv
         exact ⟨g, hv.1, hb, (Array.getElem?_eq_some_iff.1 hg).1⟩
     obtain ⟨g7, hg7, hg7b, hg7l⟩ : ∃ g, a7 = some ⟨g, 0, none⟩ ∧ w.heap.size + 1 ≤ g ∧ g < wr.heap.size := by
       rcases HQ.out.r7.2 with ⟨-, h⟩ | ⟨g, cap, cur, hv, hb, hg, -⟩
       · omega
       · simp only [Value.slice.injEq] at hv
         exact ⟨g, hv.1, hb, (Array.getElem?_eq_some_iff.1 hg).1⟩
     subst hg6
     subst hg7
     have h67 : g6 ≠ g7 := fun e => HQ.out.a67 g6 rfl (by rw [e]; rfl)
     have hgt7 : decide ((ns.length : Int) > 1) = decide (1 < ns.length) := decide_eq_decide.2 (by omega)
     have hbxc := HBC.out _ HB.out
     go_wp2_with (at_make; refine zcQ ETI rfl (.tmp 60) (.tmp 60) rfl .i64 .i64 _ _ k rfl rfl rfl rfl (by omega) (by unfold maxLen; omega) ?_; intro w4 hown hb4; have HO := Lib.hid (outR_made (zbR hown (ze2 _ k))); have HB4 := Lib.hid hb4; clear hown hb4)
     have HQ4 := Lib.hid (HQ.out.other (keeps_of (fun _ => False) HB4.out) (fun b h => h.elim))
     have HW4 := Lib.hid (HB.out.trans (HB4.out.mono (by omega)))
     have hs4 : wr.heap.size + 1 ≤ w4.heap.size := by
       have := HO.out.lt; omega
     have HC4 := Lib.hid (key_le HKey.out (fun j hj => (HRg.out j hj).2))
     have HTR := Lib.hid (tree_any (HQ4.out.nodes hN1) (by rw [List.length_map]; exact hN1) (by rw [List.length_map]; omega) (by
       have h1 := sumN_le HC4.out
       have h2 := Nat.mul_le_mul_right 2147483647 (show ns.length ≤ 320 by omega)
       omega) (by omega))
     refine HTR.out.mono ?_
     rintro e w5 ⟨x, S', rfl, ht, hp, hnew, hk5, htr⟩
     rw [leavesN_tn, HPR.out] at hp
     rw [keys_pos (by rw [HL.out]; exact HKey.out)] at htr
     have HTX := Lib.hid htr
     clear htr
     have hbS : ¬ S' wr.heap.size := fun h => by
       rcases hnew _ h with ⟨y, hy, e⟩ | h1
       · have := (Array.getElem?_eq_some_iff.1 (HQ.out.tree y hy).2).1; omega
       · omega
     have hk5' : zaa (fun b => b = g6) w4 w5 := hk5.weaken fun b hb => by simpa [Value.ownBlock] using hb.symm
     have HK5 := Lib.hid hk5'
     have HO5 := Lib.hid (HO.out.keep hk5' (by omega))
     have HP5 := Lib.hid hp
     have HDP := Lib.hid (by
       have h := depths_any hbS x.t x.p x.c 0 (List.replicate k 0) w5 ht HO5.out (fun s hs => by
         rw [List.length_replicate, ← HL.out]
         exact zd8 l s (hp.mem_iff.1 hs)) (by rw [hp.length_eq, HRL.out]; omega) (by rw [List.length_replicate]; omega)
       rw [List.length_replicate] at h
       exact h)
     clear HTR hk5 hk5' hp hnew ht hbxc
     go_wp2_with fail
     refine HDP.out.mono ?_
     rintro e w6 ⟨rfl, hO6, hk6⟩
     obtain ⟨D, hDl, hDe, hDb⟩ := lay_row (n := k) (R := posR l) (t := x.t) (zbn l) (fun r hr => by rw [← HL.out]; exact zd8 l r hr) HP5.out
     have HDE := Lib.hid hDe
     rw [hDe] at hO6
     have HO6 := Lib.hid hO6
     have HW6 := Lib.hid ((HW4.out.trans (HK5.out.below (by omega) (fun b hb => by omega))).trans (hk6.below (by have := HK5.out.size; omega) (fun b hb => by omega)))
     have hr7 := zas (zas HQ4.out.r7 HK5.out (fun b hb => by (have e : g7 = b := by simpa [Value.ownBlock] using hb); omega)) hk6 (fun b hb => by (have e : g7 = b := by simpa [Value.ownBlock] using hb); omega)
     rw [key_syms HKey.out, HNL.out] at hr7
     have hs6 : w4.heap.size ≤ w6.heap.size := Nat.le_trans HK5.out.size hk6.size
     rcases hr7.2 with ⟨h, -⟩ | ⟨g, cp, cur, hv, hgb, hgo, hle, hcpm, hcur, htk⟩
     · cases h
     simp only [Value.slice.injEq, Option.some.injEq, Addr.mk.injEq, and_true] at hv
     obtain ⟨rfl, -, rfl⟩ := hv
     have hsb : SB (Value.int .i64) w6 g7 3 (cur.toList.drop (zad l k).length) (zad l k).toArray w6 := SB.start hgo (by simpa using htk)
     have hC : CmpQ Tryz.prog 83 #[.pointer (some ⟨w.heap.size, 0, none⟩)] (Value.int .i64) (cfL l) (fun x => ∃ q : Nat, q < k ∧ x = (q : Int)) w6 g7 := by
       refine ⟨fun _ _ => by kernel_rfl, fun W hG x y hx hy => ?_⟩
       obtain ⟨qx, hqx, rfl⟩ := hx
       obtain ⟨qy, hqy, rfl⟩ := hy
       have hBW := HW6.out.grown hG (by omega) (fun q hq => by cases hq; exact hg7b)
       exact cmpLen_any w.heap.size ab ao k cap l qx qy W (HBC.out W hBW) (HCL.out W hBW) hqx hqy
     have hstb := zbp (cfL l) (zbb l) _ 83 _ g7 c7 _ (zad l k).toArray w6 w6 (zbM l) hC hsb (fun i hi => by
       rw [zdY hi]
       obtain ⟨q, h1, _, h2⟩ := zck.1 (List.getElem_mem (by simpa using hi))
       exact ⟨q, h1, h2⟩) (fun p q h1 h2 => sym_agree l k p q h1 h2) (by
       have := HNL.out
       simp; omega)
     have hsz : (zad l k).toArray.size = ns.length := by rw [HNL.out]; simp
     have HSTB := Lib.hid (by have h := hstb; rw [hsz] at h; exact h)
     have HK6 := Lib.hid hk6
     clear hstb hC hsb hgo htk hcur hr7 hO6 hDe hk6 HDP
     go_wp2_with fail
     refine HSTB.out.mono ?_
     rintro e w7 ⟨rfl, R, hSB, hP, hSo⟩
     obtain ⟨R2, hn2, hp2, hl2, hS2, hle2⟩ := ord_of (l := l) (R := R) (by rw [HL.out, hsz]; exact hP) (by rw [HL.out, hsz]; exact hSo)
     have hR2l : R2.length = ns.length := by rw [hp2.length_eq, HRL.out]
     have hrow := hSB.row (cap := c7) (by rw [← hl2, hR2l, HNL.out]; exact hle) hcpm
     rw [← hn2, ← hl2] at hrow
     have HROW := Lib.hid hrow
     have HP2' := Lib.hid hp2
     have HS2 := Lib.hid hS2
     have HR2L := Lib.hid hR2l
     have HOX := Lib.hid (show OrdR l R2 from ⟨hp2, hle2⟩)
     have hnil : posR l ≠ [] := fun e => by have := HRL.out; rw [e] at this; simp at this; omega
     have HNIL := Lib.hid hnil
     clear hle2 hnil
     obtain ⟨D2, hD2l, hD2e, hD2b⟩ := rowR_perm (n := k) (zbn l) (fun r hr => by rw [← HL.out]; exact zd8 l r hr) hDl hp2 hDb
     have HO7 := Lib.hid (show OutR w7 wr.heap.size (rowR k R2 D2) from by
       rw [← hD2e]
       exact HO6.out.keep (zaa.of_grown hSB.grown (S := fun b => b = g7) (fun q hq => by cases hq; rfl)) (by omega))
     have HW7 := Lib.hid (HW6.out.grown hSB.grown (by omega) (fun q hq => by cases hq; exact hg7b))
     have hs7 : w6.heap.size ≤ w7.heap.size := hSB.grown.size
     have HDB := Lib.hid hD2b
     have HDL := Lib.hid hD2l
     have HDX := Lib.hid (depR_is (n := k) (t := x.t) (hp2.nodup_iff.2 (zbn l)) (fun r hr => by rw [← HL.out]; exact zd8 l r (hp2.mem_iff.1 hr)) hD2l (HDE.out.trans hD2e))
     have HND := Lib.hid (show R2.Nodup from hp2.nodup_iff.2 (zbn l))
     have HLT := Lib.hid (show ∀ r ∈ R2, r < k from fun r hr => by rw [← HL.out]; exact zd8 l r (hp2.mem_iff.1 hr))
     have hbxc := HBC.out _ HW7.out
     clear hSB hP hSo hn2 hp2 hl2 hS2 hrow hD2e hD2b hD2l HSTB hDb hDl HBC HCL hR2l HC4 HQ4 HQ HO6 HKey HRg
     by_cases hN2 : 1 < ns.length
     · have hgt1 : decide ((ns.length : Int) > 1) = true := decide_eq_true (by omega)
       have hgt2 : decide (1 < ns.length) = true := decide_eq_true hN2
       obtain ⟨E, hE, hEl, hEb, hEs⟩ := cutV_good (limit := mm) (g := mm * D2.length + 1) (D := D2) (by omega) (by omega) (fun d hd => (HDB.out d hd).1) (by rw [HDL.out, HR2L.out]; omega) (by rw [HDL.out, HR2L.out, ← HP2.out]; exact hfit) (by omega)
       obtain ⟨M, hM, rfl⟩ := Option.map_eq_some_iff.1 hE
       have HCUT := Lib.hid (by
         have h := cut_any (limit := mm) HO7.out HROW.out (by omega) (by omega) (by rw [HR2L.out]; omega) HDL.out HND.out HLT.out (fun d hd => by have h1 := HDB.out d hd; have h2 := HR2L.out; omega) (by omega) (by omega) hM
         rw [HR2L.out] at h
         exact h)
       have HMX := Lib.hid (show ∃ M', zaZ mm (mm * R2.length + 1) ((depR l.length x.t R2).map fun y => min y mm) = some M' ∧ (zak M'.reverse (32768 - sumW M')).1.reverse = (zak M.reverse (32768 - sumW M)).1.reverse from ⟨M, by rw [HL.out, HDX.out, ← HDL.out]; exact hM, rfl⟩)
       generalize (zak M.reverse (32768 - sumW M)).1.reverse = E at hEl hEb hEs HCUT HMX
       have HEL := Lib.hid hEl
       have HEB := Lib.hid hEb
       have HES := Lib.hid hEs
       clear hM hE hEl hEb hEs
       go_wp2_with fail
       refine HCUT.out.mono ?_
       rintro e w8 ⟨rfl, hO8, hk8⟩
       have HO8 := Lib.hid hO8
       have HW8 := Lib.hid (HW7.out.trans (hk8.below (by omega) (fun b hb => by omega)))
       have hs8 := hk8.size
       have HSRT := Lib.hid (by
         have h := sorted_any sort_int (w := w8) (og := g7) (ocap := c7) (R := R2) (D := E) (n := k) hO8 (fun i hi => by
           obtain ⟨b, off, eb, -, hc⟩ := HROW.out.2.2.2.2 (by omega)
           simp only [Option.some.injEq, Addr.mk.injEq, and_true] at eb
           obtain ⟨rfl, rfl⟩ := eb
           have := hc i _ (zcB hi)
           rw [Nat.zero_add] at this
           exact hk8.cell this (by omega)) (by omega) (by omega) (by rw [HR2L.out]; omega) (by rw [HR2L.out]; omega) (by rw [HEL.out, HDL.out]) HND.out HLT.out
         rw [HR2L.out] at h
         exact h)
       clear hO8 hk8 HCUT
       go_wp2_with fail
       refine HSRT.out.mono ?_
       rintro e w9 ⟨rfl, D3, hD3p, hD3s, hO9, hk9⟩
       have HO9 := Lib.hid hO9
       have HW9 := Lib.hid (HW8.out.trans (hk9.below (by omega) (fun b hb => by omega)))
       have HG := Lib.hid (show zbK l mm (zad l l.length).length (rowR l.length R2 D3) from good_many HP2'.out HS2.out (by rw [HR2L.out]; omega) (by rw [HEL.out, HDL.out]) HEB.out HES.out hD3p hD3s)
       have HLX := Lib.hid (show zdN l mm (rowR l.length R2 D3) from by
         obtain ⟨M', hm1, hm2⟩ := HMX.out
         exact .inr ⟨HNIL.out, (x.c, x.t), R2, HTX.out, HOX.out, .inr ⟨by rw [HR2L.out]; omega, M', D3, hm1, by rw [hm2]; exact dsc_of hD3p hD3s, rfl⟩⟩)
       clear hD3p hD3s hO9 hk9 HSRT
       go_wp2_with fail
       go_ret2
       refine ⟨HB0.out.trans (HW9.out.mono (by omega)), .inr ⟨HOK.out, wr.heap.size, rowR l.length R2 D3, by rw [HL.out]; rfl, by rw [HL.out]; exact HO9.out, by rw [Int.toNat_natCast]; exact ⟨HG.out, HLX.out⟩, by omega⟩⟩
     · have hgt1 : decide ((ns.length : Int) > 1) = false := decide_eq_false (by omega)
       have hgt2 : decide (1 < ns.length) = false := decide_eq_false hN2
       have HLX := Lib.hid (show zdN l mm (rowR l.length R2 D2) from .inr ⟨HNIL.out, (x.c, x.t), R2, HTX.out, HOX.out, .inl ⟨by rw [HR2L.out]; omega, by rw [HL.out, HDX.out]⟩⟩)
       have HG := Lib.hid (show zbK l mm (zad l l.length).length (rowR l.length R2 D2) from good_one HP2'.out (by rw [HR2L.out]; omega) HDL.out HDB.out (by omega))
       go_wp2_with fail
       go_ret2
       refine ⟨HB0.out.trans (HW7.out.mono (by omega)), .inr ⟨HOK.out, wr.heap.size, rowR l.length R2 D2, by rw [HL.out]; rfl, by rw [HL.out]; exact HO7.out, by rw [Int.toNat_natCast]; exact ⟨HG.out, HLX.out⟩, by omega⟩⟩
theorem own_free {w : World} {base e g n cap m : Nat} {xs : List Value} (h : w.ownsRow base e 1 (.slice (some ⟨g, 0, none⟩) n cap) m xs) (k : Nat) : w.frozen? ⟨g, k, none⟩ = false := by
 rcases h.2 with ⟨h, -⟩ | ⟨g', cap', cur, hv, -, hg, -⟩
 · cases h
 · simp only [Value.slice.injEq, Option.some.injEq, Addr.mk.injEq] at hv
   obtain ⟨⟨rfl, -⟩, -⟩ := hv
   exact frozen_of_row w g k _ _ hg
theorem own_base {w : World} {base e g n cap m : Nat} {xs : List Value} (h : w.ownsRow base e 1 (.slice (some ⟨g, 0, none⟩) n cap) m xs) : base ≤ g := (h.lt g rfl).1
def zds (L : List Nat) : Nat → List Nat
 | 0 => L
 | k + 1 => (zds L k).set k (max ((zds L k).getD k 0) 1)
theorem bumpT_len (L : List Nat) : ∀ k, (zds L k).length = L.length
 | 0 => rfl
 | k + 1 => by rw [zds, List.length_set, bumpT_len L k]
theorem bumpT_two (L : List Nat) : zds L 2 = zbu L := by
 show ((zds L 1)).set 1 (max ((zds L 1).getD 1 0) 1) = _
 unfold zbu
 have e : (zds L 1).getD 1 0 = L.getD 1 0 := by
   show (L.set 0 _).getD 1 0 = _
   rw [zc9, if_neg (fun h => by cases h.1)]
 rw [e]; rfl
theorem natV_set (L : List Nat) (k y : Nat) : natV (L.set k y) = (natV L).set k (.int .i64 (y : Nat)) := by unfold natV; rw [List.map_set]
theorem zfs (L : List Nat) : natV L = (iL L).map (Value.int .i64) := by unfold natV iL; rw [List.map_map]; rfl
theorem fit_syms (l : List Int) (n : Nat) : (zad l n).length ≤ n := by
 rw [← zcl, List.length_map]; exact zeg l n
def DLenEnd (w : World) (C : List Nat) (m n : Nat) (e : Ending) (w' : World) : Prop :=
 Below w.heap.size w w' ∧ ∃ bo D, e = .returned (.slice (some ⟨bo, 0, none⟩) n n) ∧ OutR w' bo D ∧ w.heap.size ≤ bo ∧ zbK (iL C) m (zad (iL C) (iL C).length).length D ∧ zdN (iL C) m D
theorem zdL {w : World} {a : Option Addr} {n cap : Nat} {L : List Nat} (hr : Row w 1 a n cap (natV L)) (h2 : 2 ≤ n) (hn : n ≤ 286) (hrng : ∀ k, L.getD k 0 ≤ 2000000) {m : Nat} (hm1 : 1 ≤ m) (hm15 : m ≤ 15) (hfit : n ≤ 2 ^ m) :
   Calls Tryz.prog 42 #[.slice a n cap, .int .i64 m] w (DLenEnd w (zbu L) m n) := by
 have hl : L.length = n := hr.len1
 have HCL := Lib.hid (cloneI a n cap (natV L) w hr (fun u hu => by obtain ⟨x, -, rfl⟩ := List.mem_map.1 hu; rfl) (by omega))
 have HL := Lib.hid hl
 have HRG := Lib.hid hrng
 have HFIT := Lib.hid hfit
 clear hr hl hrng hfit
 go_enter Tryz.func42, Tryz.ntmps42
 go_wp2_with fail
 refine HCL.out.mono ?_
 rintro e w1 ⟨v, rfl, hO, hb1, -⟩
 obtain ⟨g, c1, rfl⟩ : ∃ g c1, v = .slice (some ⟨g, 0, none⟩) n c1 := by
   rcases hO.2 with ⟨-, h0⟩ | ⟨g, cap, cur, rfl, -⟩
   · omega
   · exact ⟨g, cap, rfl⟩
 have HO := Lib.hid hO
 have HB1 := Lib.hid hb1
 clear hO hb1 HCL
 go_wp2_with fail
 go_loopw [6] (fun v wr => ∃ k : Nat, v = .int .i64 k ∧ k ≤ 2 ∧ Hid (wr.ownsRow w.heap.size 3 1 (.slice (some ⟨g, 0, none⟩) n c1) n (natV (zds L k))) ∧ Hid (Below w.heap.size w wr)) (fun v _ => 2 - (intOf v).toNat)
 case atStart => exact ⟨0, rfl, by omega, HO, HB1⟩
 case round =>
   obtain ⟨k, rfl, hk, HOk, HBk⟩ := hrel
   by_cases hk2 : k < 2
   · have hd : decide ((k : Int) < 2) = true := decide_eq_true (by omega)
     have z0 := HOk.out.cellAt k (by omega)
     rw [zcB (by rw [bumpT_len, HL.out]; omega)] at z0
     have f0 := own_free HOk.out k
     have hki : (k : Int) < (n : Int) := by omega
     obtain ⟨x, hx⟩ : ∃ x, x = (zds L k).getD k 0 := ⟨_, rfl⟩
     have HN := Lib.hid (show ∀ y : Nat, y = max x 1 → (wr.setCell ⟨g, k, none⟩ (.int .i64 y)).ownsRow w.heap.size 3 1 (.slice (some ⟨g, 0, none⟩) n c1) n (natV (zds L (k + 1))) ∧ Below w.heap.size w (wr.setCell ⟨g, k, none⟩ (.int .i64 y)) from fun y hy => by
       rw [zds, ← hx, ← hy, natV_set]
       exact ⟨(HOk.out.stored k _).1, HBk.out.setCell (own_base HOk.out) _⟩)
     rw [← hx] at z0
     clear hx
     by_cases h0 : x = 0
     · subst h0
       have hN1 := HN.out 1 rfl
       have HN1 := Lib.hid hN1
       clear hN1 HN
       go_wp2_with fail
       go_roundw
       case rel => exact ⟨k + 1, by go_num, by omega, Lib.hid HN1.out.1, Lib.hid HN1.out.2⟩
       case measure => simp [intOf]; omega
     · have HN1 := Lib.hid (HN.out x (by omega))
       have q2 : max (x : Int) 1 = (x : Int) := by omega
       clear HN h0
       go_wp2_with fail
       go_roundw
       case rel => exact ⟨k + 1, by go_num, by omega, Lib.hid HN1.out.1, Lib.hid HN1.out.2⟩
       case measure => simp [intOf]; omega
   · obtain rfl : k = 2 := by omega
     have hd : decide (((2 : Nat) : Int) < 2) = false := by decide
     have HR := Lib.hid (show Row wr 1 (some ⟨g, 0, none⟩) n c1 ((iL (zbu L)).map (Value.int .i64)) from by
       have h := (Row.of_own HOk.out).2
       rw [bumpT_two, zfs] at h
       exact h)
     have hbl : (zbu L).length = n := by rw [zbt, HL.out]
     have HLN := Lib.hid (lengths_any (m := (m : Int)) HR.out (by omega))
     have HOK := Lib.hid (show OkC (iL (zbu L)) (m : Int) from ⟨by rw [zaJ]; omega, by rw [zaJ]; omega, by omega, by omega, fun j hj => by
       rw [zaN]
       have := bumpN_le (L := L) (by rw [HL.out]; omega) HRG.out j
       omega, by
       rw [Int.toNat_natCast]
       have h1 := fit_syms (iL (zbu L)) (iL (zbu L)).length
       rw [zaJ, hbl] at h1
       have := HFIT.out
       rw [zaJ, hbl]
       omega⟩)
     have HBL := Lib.hid hbl
     clear hbl HO HB1
     go_wp2_with fail
     refine HLN.out.mono ?_
     rintro e w2 ⟨hb2, hcase⟩
     rcases hcase with ⟨hno, -⟩ | ⟨-, bo, D, rfl, hOut, hG, hbo⟩
     · exact absurd HOK.out hno
     have HEND := Lib.hid (show DLenEnd w (zbu L) m n (.returned (.slice (some ⟨bo, 0, none⟩) n n)) w2 from ⟨HBk.out.trans (hb2.mono HBk.out.size), bo, D, rfl, hOut, Nat.le_trans HBk.out.size hbo, by rw [Int.toNat_natCast] at hG; exact hG⟩)
     rw [zaJ, HBL.out]
     clear hb2 hOut hG hbo HLN
     go_wp2_with fail
     go_ret
     exact HEND.out
end Go.Proofs.YtngjbhejfojpbaaGreat
namespace Go.Proofs.YtngjbhejfojpbaaGreat
open Go.RowKit
def CatV (r : Option Addr × Nat × List Value) : Value := .slice r.1 r.2.2.length r.2.1
def CatL (L : List (Option Addr × Nat × List Value)) : List Value := L.flatMap fun r => r.2.2
theorem CatL_succ {L : List (Option Addr × Nat × List Value)} {k : Nat} {r : Option Addr × Nat × List Value} (h : L[k]? = some r) : CatL (L.take (k + 1)) = CatL (L.take k) ++ r.2.2 := by
 unfold CatL
 rw [List.take_add_one, h, List.flatMap_append]
 simp
theorem CatL_le (L : List (Option Addr × Nat × List Value)) (k : Nat) : (CatL (L.take k)).length ≤ (CatL L).length := by
 have h := congrArg CatL (List.take_append_drop k L)
 unfold CatL at h ⊢
 rw [List.flatMap_append] at h
 rw [← h, List.length_append]
 omega
theorem growI (k : Nat) (hk : k ≤ 1000000) (w : World) : Calls Tryz.prog 72 #[.slice none 0 0, .int .i64 k] w fun e w' => ∃ v, e = .returned v ∧ w'.ownsRow w.heap.size 3 1 v 0 [] ∧ Below w.heap.size w w' := by
 obtain ⟨i0, hi, hz, hs, hb⟩ := info_parts ETI.info
 rcases Nat.eq_zero_or_pos k with rfl | h0
 · clear hi hz hs hb
   go_enter Tryz.func72, Tryz.ntmps72
   go_wp2
   go_ret
   exact ⟨_, rfl, World.ownsRow_nil _ _ _ _, Below.refl _ _⟩
 · have hr := Lib.hid (Lib.run_append_nil_zeros (P := Tryz.prog) w 59 3 59 3 i0 _ .i64 .i64 Tryz.underlying59 Tryz.underlying3 hi hz k h0 (by omega) (by omega) (by rw [hb]; omega))
   have hg1 := grownCap_ge w k 0 3
   have hg2 := grownCap_le_maxLen w k 0 3 (by unfold maxLen; omega)
   generalize grownCap w k 0 3 = C at *
   have h1 : (0 : Int) < (k : Int) := by omega
   clear hi hz hs hb h0
   go_enter Tryz.func72, Tryz.ntmps72
   go_wp2_with (at_builtin; refine Lib.wpList_append_run _ rfl _ _ _ _ rfl _ _ rfl rfl _ _ hr.out ?_)
   go_ret
   refine ⟨_, rfl, ⟨rfl, .inr ⟨w.heap.size, C, _, rfl, Nat.le_refl _, zah _ rfl, Nat.zero_le _, hg2, ?_, rfl⟩⟩, (Below.refl _ _).drew.alloc (Nat.le_refl _) _⟩
   rw [Array.size_append, size_zeroCells, size_zeroCells, ← Nat.add_mul]
   show (k + (C - k)) * 1 = C * 1
   rw [Nat.add_sub_cancel' hg1]
theorem catI {w : World} {a : Option Addr} {cap m : Nat} {L : List (Option Addr × Nat × List Value)} (ht : Row w 1 a m cap (L.map CatV)) (hr : ∀ r ∈ L, Row w 1 r.1 r.2.2.length r.2.1 r.2.2) (h1 : ∀ r ∈ L, ∀ u ∈ r.2.2, u.oneCell' = true) (hm : m ≤ 100) (hs : (CatL L).length ≤ 900000) :
   Calls Tryz.prog 44 #[.slice a m cap] w fun e w' => ∃ v, e = .returned v ∧ w'.ownsRow w.heap.size 3 1 v (CatL L).length (CatL L) ∧ Below w.heap.size w w' := by
 have hml := ht.len1
 have HT := Lib.hid ht
 have HR := Lib.hid hr
 have H1 := Lib.hid h1
 have HG := Lib.hid (fun W => growI (CatL L).length (by omega) W)
 have hcapn := ht.2.1
 have hcapm := ht.2.2.1
 unfold maxLen at hcapm
 have HM := Lib.hid hml
 have HTL := Lib.hid (show CatL (L.take m) = CatL L from by rw [List.take_of_length_le (Nat.le_of_eq hml)])
 have HLE := Lib.hid (CatL_le L)
 clear ht hr h1 hml
 go_enter Tryz.func44, Tryz.ntmps44
 go_wp2
 go_loop [3, 11] (fun s i => ∃ (k S : Nat), k ≤ m ∧ i = .int .i64 k ∧ s = .int .i64 S ∧ S ≤ 900000 ∧ Hid (S = (CatL (L.take k)).length)) (fun _ i => m - (intOf i).toNat)
 case atStart => exact ⟨0, 0, Nat.zero_le _, rfl, rfl, by omega, Lib.hid rfl⟩
 case round =>
   obtain ⟨k, S, hk, rfl, rfl, hS1, HS⟩ := hrel
   by_cases hlt : k < m
   · obtain ⟨b1, o1, rfl, hb1, hc1⟩ := HT.out.2.2.2.2 (by omega)
     have hqk : L[k]? = some (L[k]'(by rw [HM.out]; exact hlt)) := List.getElem?_eq_getElem _
     have hck := hc1 k _ (by rw [List.getElem?_map, hqk]; rfl)
     unfold CatV at hck
     have hsc := CatL_succ hqk
     generalize L[k]'_ = q at *
     obtain ⟨qa, qc, qx⟩ := q
     dsimp only at hck hsc
     obtain ⟨N, hN⟩ : ∃ N, N = qx.length := ⟨_, rfl⟩
     rw [← hN] at hck
     have HS2 := Lib.hid (show S + N = (CatL (L.take (k + 1))).length from by rw [hsc, List.length_append, ← hN, HS.out])
     have hSN : S + N ≤ 900000 := by have := HLE.out (k + 1); have := HS2.out; omega
     clear hc1 hqk hsc hN HS
     have i1 : (k : Int) < (m : Int) := by omega
     have i2 : (0 : Int) ≤ (k : Int) := by omega
     have i5 : decide ((S : Int) + (N : Int) < 0) = false := decide_eq_false (by omega)
     go_wp2
     go_round
     case rel => exact ⟨k + 1, S + N, by omega, by go_num, by go_num, hSN, HS2⟩
     case measure => simp [intOf]; omega
   · obtain rfl : k = m := by omega
     obtain rfl : S = (CatL L).length := by have := HS.out; rw [HTL.out] at this; exact this
     clear hk HS
     have hkd : decide (k < k) = false := by simp
     clear hlt
     go_wp2_with (go_at_call 72; refine (HG.out _).mono ?_; rintro e w1 ⟨v1, rfl, hO1, hb1⟩)
     have HO1 := Lib.hid hO1
     have HB1 := Lib.hid hb1
     clear hO1 hb1 hkd HG
     go_loopw [6, 27] (fun v i wr => ∃ j : Nat, j ≤ k ∧ i = .int .i64 j ∧ Hid (wr.ownsRow w.heap.size 3 1 v (CatL (L.take j)).length (CatL (L.take j))) ∧ Hid (Below w.heap.size w wr)) (fun _ i _ => k - (intOf i).toNat)
     case atStart => exact ⟨0, Nat.zero_le _, rfl, HO1, HB1⟩
     case round =>
       obtain ⟨j, hj, rfl, HO, HB⟩ := hrel
       by_cases hlt : j < k
       · obtain ⟨b1, o1, rfl, hb1, hc1⟩ := HT.out.2.2.2.2 (by omega)
         have hqk : L[j]? = some (L[j]'(by rw [HM.out]; exact hlt)) := List.getElem?_eq_getElem _
         have hck := cell?_keep HB.out (hc1 j _ (by rw [List.getElem?_map, hqk]; rfl))
         have hqm := HR.out _ (List.getElem_mem (l := L) (n := j) (by rw [HM.out]; exact hlt))
         have hq1 := H1.out _ (List.getElem_mem (l := L) (n := j) (by rw [HM.out]; exact hlt))
         have hsc := CatL_succ hqk
         unfold CatV at hck
         have hle := HLE.out (j + 1)
         rw [hsc, List.length_append] at hle
         generalize L[j]'_ = q at *
         obtain ⟨qa, qc, qx⟩ := q
         dsimp only at hck hqm hq1 hsc hle
         have HTS := Lib.hid hsc
         have HPR := Lib.hid (hqm.mono HB.out)
         have HP1 := Lib.hid hq1
         obtain ⟨N, hN⟩ : ∃ N, N = qx.length := ⟨_, rfl⟩
         obtain ⟨S, hS⟩ : ∃ S, S = (CatL (L.take j)).length := ⟨_, rfl⟩
         rw [← hN] at hck HPR hle
         rw [← hS] at HO hle
         have HSN := Lib.hid (And.intro hN hS)
         clear hc1 hqk hsc hqm hq1 hN hS
         have i1 : (j : Int) < (k : Int) := by omega
         have i2 : (0 : Int) ≤ (j : Int) := by omega
         go_wp2_with (at_builtin; refine zan ETI rfl _ _ rfl w.heap.size _ S _ rfl HO.out qa N qc qx rfl HPR.out HP1.out (by unfold maxLen; omega) (by omega) HB.out.size ?_; intro v2 w2 hO2 hg2 _)
         have HO2 := Lib.hid (show w2.ownsRow w.heap.size 3 1 v2 (CatL (L.take (j + 1))).length (CatL (L.take (j + 1))) by
           rw [HTS.out, List.length_append, ← HSN.out.1, ← HSN.out.2]; exact hO2)
         have HB2 := Lib.hid (HB.out.grown hg2 HB.out.size (fun r e => (HO.out.lt r e).1))
         clear hO2 hg2
         go_roundw
         case rel => exact ⟨j + 1, by omega, by go_num, HO2, HB2⟩
         case measure => simp [intOf]; omega
       · obtain rfl : j = k := by omega
         have hO := HO.out
         rw [HTL.out] at hO
         have HO3 := Lib.hid hO
         clear hO
         go_wp2
         go_ret
         exact ⟨_, rfl, HO3.out, HB.out⟩
end Go.Proofs.YtngjbhejfojpbaaGreat
