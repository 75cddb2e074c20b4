/-
  Our texts Dz3 to LawZBack, in one.
-/
import Derived.Test.YtkikhmdpcanidaaGreatPkE12
import Derived.Deep.RegionHeldLaw
import Derived.Test.YtkikhmdpcanidaaGreatProg
import Derived.ChangeSlices
import Derived.Defers
import Derived.Deep.RegionHeld3
set_option maxRecDepth 8000
set_option maxHeartbeats 8000000
namespace Go.Proofs.YtkikhmdpcanidaaGreat
open Go.RowKit Go.Sort
def stoH (n : Nat) : List UInt8 := [1, UInt8.ofNat (n % 256), UInt8.ofNat (n / 256), UInt8.ofNat (255 - n % 256), UInt8.ofNat (255 - n / 256)]
theorem stoBy_is (b : List UInt8) : zby b = stoH b.length ++ b := rfl
theorem stoH_cells {n r q r2 q2 : Nat} (hn : n ≤ 65535) (hr : r = n % 256) (hq : q = n / 256) (hr2 : r2 = 255 - n % 256) (hq2 : q2 = 255 - n / 256) : ((stoH n).map fun b => Value.int .u8 b.toNat) = [.int .u8 1, .int .u8 (r : Nat), .int .u8 (q : Nat), .int .u8 (r2 : Nat), .int .u8 (q2 : Nat)] := by
 have e : ∀ a, a < 256 → (UInt8.ofNat a).toNat = a := fun a ha => by rw [UInt8.toNat_ofNat']; exact Nat.mod_eq_of_lt ha
 unfold stoH
 simp only [List.map_cons, List.map_nil]
 rw [e _ (by omega), e _ (by omega), e _ (by omega), e _ (by omega), hr, hq, hr2, hq2]
 rfl
theorem zfV {w : World} (x0 x1 x2 x3 x4 : Value) (t : TypeId) : Row (w.alloc (.cells #[x0, x1, x2, x3, x4] t)) 1 (some ⟨w.heap.size, 0, none⟩) 5 5 [x0, x1, x2, x3, x4] :=
 ⟨rfl, Nat.le_refl _, by unfold maxLen; omega, fun h => (by cases h), fun _ => ⟨_, 0, rfl, by rw [zad]; exact Nat.lt_succ_self _, fun j u hj => by
   rw [Nat.zero_add, cell_of_row _ _ _ _ _ _ (zah _ rfl), List.getElem?_toArray]; exact hj⟩⟩
theorem zfK {r q r2 q2 : Nat} : ∀ u ∈ [Value.int .u8 1, .int .u8 (r : Nat), .int .u8 (q : Nat), .int .u8 (r2 : Nat), .int .u8 (q2 : Nat)], u.oneCell' = true := by
 intro u hu
 simp only [List.mem_cons, List.not_mem_nil, or_false] at hu
 rcases hu with rfl | rfl | rfl | rfl | rfl <;> rfl
theorem zcB (b : List UInt8) : ∀ u ∈ b.map (fun x => Value.int .u8 x.toNat), u.oneCell' = true := fun u hu => by
 obtain ⟨x, -, rfl⟩ := List.mem_map.1 hu
 rfl
theorem zeA {w : World} {a : Option Addr} {n cap : Nat} {b : List UInt8} (hr : Row w 1 a n cap (b.map fun x => .int .u8 x.toNat)) (hn : n ≤ 60000) :
   Calls Tryz.prog 14 #[.slice a n cap] w fun e w' => ∃ v, e = .returned v ∧ w'.ownsRow w.heap.size 5 1 v (n + 5) ((zby b).map fun x => .int .u8 x.toNat) ∧ Below w.heap.size w w' := by
 have hl := hr.len1
 have HR := Lib.hid hr
 have hcapn := hr.2.1
 have hcapm := hr.2.2.1
 unfold maxLen at hcapm
 obtain ⟨r, hre⟩ : ∃ r, r = n % 256 := ⟨_, rfl⟩
 obtain ⟨q, hqe⟩ : ∃ q, q = n / 256 := ⟨_, rfl⟩
 obtain ⟨r2, hr2⟩ : ∃ r2, r2 = 255 - n % 256 := ⟨_, rfl⟩
 obtain ⟨q2, hq2⟩ : ∃ q2, q2 = 255 - n / 256 := ⟨_, rfl⟩
 have HCELLS := Lib.hid (stoH_cells (by omega) hre hqe hr2 hq2)
 have HCAT := Lib.hid (show (zby b).map (fun x => Value.int .u8 x.toNat) = ((stoH n).map fun x => Value.int .u8 x.toNat) ++ (b.map fun x => Value.int .u8 x.toNat) from by rw [stoBy_is, List.map_append, hl])
 have i1 : (n : Int) % 256 = (r : Int) := by omega
 have i2 : (n : Int) / 256 = (q : Int) := by omega
 have i3 : (255 : Int) - (r : Int) = (r2 : Int) := by omega
 have i4 : (255 : Int) - (q : Int) = (q2 : Int) := by omega
 have i5 : (n : Int) / 65535 = 0 := by omega
 have i6 : (n : Int).tmod 256 = (r : Int) := by rw [Int.tmod_eq_emod_of_nonneg (by omega)]; exact i1
 have i7 : (n : Int).tdiv 256 = (q : Int) := by rw [Int.tdiv_eq_ediv_of_nonneg (by omega)]; exact i2
 have i8 : (n : Int).tdiv 65535 = 0 := by rw [Int.tdiv_eq_ediv_of_nonneg (by omega)]; exact i5
 have l1 : r < 256 := by omega
 have l2 : q < 256 := by omega
 have l3 : r2 < 256 := by omega
 have l4 : q2 < 256 := by omega
 have d1 : decide ((n : Int) > 65535) = false := decide_eq_false (by omega)
 clear hr hre hqe hr2 hq2 hl
 go_enter Tryz.func14, Tryz.ntmps14
 go_wp2_with fail
 go_loopw [3, 4, 5] (fun vo va vk wr => (vo = .slice none 0 0 ∧ va = .int .i64 0 ∧ vk = .int .i64 0 ∧ wr = w) ∨ (vk = .int .i64 1 ∧ Hid (Below w.heap.size w wr) ∧ Hid (wr.ownsRow w.heap.size 5 1 vo (n + 5) ((zby b).map fun x => .int .u8 x.toNat)))) (fun _ _ vk _ => 1 - (intOf vk).toNat)
 case atStart => exact .inl ⟨rfl, rfl, rfl, rfl⟩
 case round =>
   rcases hrel with ⟨rfl, rfl, rfl, rfl⟩ | ⟨rfl, HB, HO⟩
   · by_cases h0 : n = 0
     · subst h0
       rcases a with _ | x
       · have hcap0 := HR.out.2.2.2.1 rfl
         obtain rfl : cap = 0 := hcap0
         obtain rfl : r = 0 := by omega
         obtain rfl : q = 0 := by omega
         obtain rfl : r2 = 255 := by omega
         obtain rfl : q2 = 255 := by omega
         clear i1 i2 i3 i4 i5 i6 i7 i8 d1 l1 l2 l3 l4
         go_wp2_with (first
           | (at_builtin; refine zae ETB rfl (.tmp 34) (.tmp 50) rfl wr.heap.size _ 0 _ rfl (World.ownsRow_nil _ _ _ _) (some ⟨wr.heap.size, 0, none⟩) 5 5 [.int .u8 1, .int .u8 0, .int .u8 0, .int .u8 255, .int .u8 255] rfl (zfV _ _ _ _ _ _) (zfK (r := 0) (q := 0) (r2 := 255) (q2 := 255)) (by unfold maxLen; omega) (by omega) (by rw [zad]; exact Nat.le_succ _) ?_; intro v1 w1 hO1 hg1 _; have HO1 := Lib.hid hO1; have HB1 := Lib.hid ((zai wr _).grown hg1 (by rw [zad]; exact Nat.le_succ _) (fun _ e => by cases e)); clear hO1 hg1; obtain ⟨av1, cv1, rfl, -, -⟩ := Row.of_owns HO1.out)
           | (at_builtin; refine zae ETB rfl (.tmp 52) (.tmp 58) rfl wr.heap.size _ (0 + 5) _ rfl HO1.out none 0 0 _ rfl (HR.out.mono HB1.out) (zcB b) (by unfold maxLen; omega) (by omega) (HB1.out.size) ?_; intro v2 w2 hO2 hg2 _; have HO2 := Lib.hid hO2; have HB2 := Lib.hid (HB1.out.grown hg2 HB1.out.size (fun r e => (HO1.out.lt r e).1)); clear hO2 hg2))
         go_roundw
         case rel =>
           refine .inr ⟨rfl, HB2, Lib.hid ?_⟩
           have h := HO2.out
           rw [HCAT.out, HCELLS.out]
           exact h
         case measure => simp [intOf]
       · obtain rfl : r = 0 := by omega
         obtain rfl : q = 0 := by omega
         obtain rfl : r2 = 255 := by omega
         obtain rfl : q2 = 255 := by omega
         clear i1 i2 i3 i4 i5 i6 i7 i8 d1 l1 l2 l3 l4
         go_wp2_with (first
           | (at_builtin; refine zae ETB rfl (.tmp 34) (.tmp 50) rfl wr.heap.size _ 0 _ rfl (World.ownsRow_nil _ _ _ _) (some ⟨wr.heap.size, 0, none⟩) 5 5 [.int .u8 1, .int .u8 0, .int .u8 0, .int .u8 255, .int .u8 255] rfl (zfV _ _ _ _ _ _) (zfK (r := 0) (q := 0) (r2 := 255) (q2 := 255)) (by unfold maxLen; omega) (by omega) (by rw [zad]; exact Nat.le_succ _) ?_; intro v1 w1 hO1 hg1 _; have HO1 := Lib.hid hO1; have HB1 := Lib.hid ((zai wr _).grown hg1 (by rw [zad]; exact Nat.le_succ _) (fun _ e => by cases e)); clear hO1 hg1; obtain ⟨av1, cv1, rfl, -, -⟩ := Row.of_owns HO1.out)
           | (at_builtin; refine zae ETB rfl (.tmp 52) (.tmp 58) rfl wr.heap.size _ (0 + 5) _ rfl HO1.out (some x) 0 cap _ rfl (HR.out.mono HB1.out) (zcB b) (by unfold maxLen; omega) (by omega) (HB1.out.size) ?_; intro v2 w2 hO2 hg2 _; have HO2 := Lib.hid hO2; have HB2 := Lib.hid (HB1.out.grown hg2 HB1.out.size (fun r e => (HO1.out.lt r e).1)); clear hO2 hg2))
         go_roundw
         case rel =>
           refine .inr ⟨rfl, HB2, Lib.hid ?_⟩
           have h := HO2.out
           rw [HCAT.out, HCELLS.out]
           exact h
         case measure => simp [intOf]
     · have hnn : ((n : Int) == (n : Int)) = true := by simp
       have hz : decide ((n : Int) = 0) = false := decide_eq_false (by omega)
       have hzb : ((n : Int) == 0) = false := hz
       obtain ⟨bb, off, rfl, -, -⟩ := HR.out.at 0 0 (by omega)
       go_wp2_with (first
         | (at_builtin; refine zae ETB rfl (.tmp 34) (.tmp 50) rfl wr.heap.size _ 0 _ rfl (World.ownsRow_nil _ _ _ _) (some ⟨wr.heap.size, 0, none⟩) 5 5 [.int .u8 1, .int .u8 (r : Nat), .int .u8 (q : Nat), .int .u8 (r2 : Nat), .int .u8 (q2 : Nat)] rfl (zfV _ _ _ _ _ _) zfK (by unfold maxLen; omega) (by omega) (by rw [zad]; exact Nat.le_succ _) ?_; intro v1 w1 hO1 hg1 _; have HO1 := Lib.hid hO1; have HB1 := Lib.hid ((zai wr _).grown hg1 (by rw [zad]; exact Nat.le_succ _) (fun r e => by cases e)); clear hO1 hg1; obtain ⟨av1, cv1, rfl, -, -⟩ := Row.of_owns HO1.out)
         | (at_builtin; refine zae ETB rfl (.tmp 52) (.tmp 58) rfl wr.heap.size _ (0 + 5) _ rfl HO1.out _ n _ _ rfl (HR.out.mono HB1.out) (zcB b) (by unfold maxLen; omega) (by omega) (HB1.out.size) ?_; intro v2 w2 hO2 hg2 _; have HO2 := Lib.hid hO2; have HB2 := Lib.hid (HB1.out.grown hg2 HB1.out.size (fun r e => (HO1.out.lt r e).1)); clear hO2 hg2))
       go_roundw
       case rel =>
         refine .inr ⟨rfl, HB2, Lib.hid ?_⟩
         have h := HO2.out
         rw [HCAT.out, HCELLS.out]
         rw [show n + 5 = 0 + 5 + n from by omega]
         exact h
       case measure => simp [intOf]
   · go_wp2_with fail
     go_ret
     exact ⟨_, rfl, HO.out, HB.out⟩
theorem part_res {bs : List UInt8} {Z : List Bool} {k : Nat} {b : List UInt8} (hP : zdI 0 k true b Z) (hw : za5 bs false Z) {most : Nat} (hm : b.length ≤ most) :
   (endI bs most).e = 0 ∧ resO (endI bs most) = b ∧ resN (endI bs most) = bs.length := zeK hP hw hm
set_option maxRecDepth 20000 in
theorem law_dback (kind : Int) (a : Option Addr) (cap : Nat) (b : List UInt8) (w : World) (hr : Row w 1 a b.length cap (b.map u8C)) (hal : ∀ x, a = some x → x.block < w.heap.size) :
   Calls Tryz.prog 3 #[.slice a b.length cap, .int .i64 kind] w fun e w' => e = .returned (.bool true) ∧ Below w.heap.size w w' := by
 have HW := Lib.hid (fun W => works7_any W)
 have hni : (b.length : Int) ≤ 9223372036854775807 := hr.i64
 by_cases h1 : 1500 < b.length
 · have d1 : decide ((b.length : Int) > 1500) = true := decide_eq_true (by omega)
   clear hr
   go_enter Tryz.func3, Tryz.ntmps3
   go_wp2_with fail
   refine (HW.out w).mono ?_
   rintro e w1 ⟨rfl, hb⟩
   have HB := Lib.hid hb
   clear hb
   go_wp2_with fail
   go_ret
   exact ⟨rfl, HB.out⟩
 have d1 : decide ((b.length : Int) > 1500) = false := decide_eq_false (by omega)
 by_cases hk : kind < 0 ∨ 3 < kind
 · have HP := Lib.hid (zec (w := w) (a := a) (n := b.length) (cap := cap) hk)
   have d34 : decide (kind < 0) = true ∨ (decide (kind < 0) = false ∧ decide (kind > 3) = true) := by
     by_cases q : kind < 0
     · exact .inl (decide_eq_true q)
     · exact .inr ⟨decide_eq_false q, decide_eq_true (by omega)⟩
   clear hr hk
   rcases d34 with d3 | ⟨d3, d4⟩ <;> (
     go_enter Tryz.func3, Tryz.ntmps3
     go_wp2_with fail
     refine HP.out.mono ?_
     rintro e w1 ⟨rfl, hb1⟩
     have HB1 := Lib.hid hb1
     clear hb1
     go_wp2_with fail
     refine (HW.out _).mono ?_
     rintro e w2 ⟨rfl, hb⟩
     have HB := Lib.hid (HB1.out.trans (hb.mono HB1.out.size))
     clear hb
     go_wp2_with fail
     go_ret
     exact ⟨rfl, HB.out⟩)
 obtain ⟨K, rfl⟩ : ∃ K : Nat, kind = K := ⟨kind.toNat, by omega⟩
 have d3 : decide ((K : Int) < 0) = false := decide_eq_false (by omega)
 have d4 : decide ((K : Int) > 3) = false := decide_eq_false (by omega)
 have HP := Lib.hid (zek (kind := K) (b := b) (by omega) hr hal (by omega))
 have HR := Lib.hid hr
 obtain ⟨L, hL⟩ : ∃ L, L = b.length := ⟨_, rfl⟩
 rw [← hL] at HP HR d1 h1 hni ⊢
 have HL := Lib.hid hL
 clear hr hal hL
 go_enter Tryz.func3, Tryz.ntmps3
 go_wp2_with fail
 refine HP.out.mono ?_
 rintro e w1 ⟨hb1, p, v, Z, k, rfl, hO, hk2, hkk, hP, hw, hzl⟩
 obtain ⟨a1, c1, rfl, hR, -⟩ := Row.of_owns hO
 have hpl : p.length ≤ 100000 := by
   have h := hw.1
   have := HL.out
   omega
 obtain ⟨he, hres, hrn⟩ := part_res hP hw (most := L) (by have := HL.out; omega)
 have HPF := Lib.hid (And.intro hkk (And.intro hP hw))
 have HE := Lib.hid (And.intro he (And.intro hres hrn))
 have HO1 := Lib.hid hO
 have HB1 := Lib.hid hb1
 have HI := Lib.hid (zc8 w1 a1 c1 L p hR hpl (by omega))
 have HRI := Lib.hid (fun W (h : Below w1.heap.size w1 W) => zdP W a1 c1 L p (hR.mono h) hpl (by omega))
 generalize endI p L = s at HI HRI HE
 obtain ⟨P, hPe⟩ : ∃ P, P = p.length := ⟨_, rfl⟩
 rw [← hPe] at HO1 hpl HI HRI HE ⊢
 have HPE := Lib.hid hPe
 clear hb1 hO hkk hP hw hzl hR hPe HP he hres hrn
 go_wp2_with fail
 refine HI.out.mono ?_
 rintro e w2 ⟨v2, B2, rfl, hO2, hb2⟩
 rw [HE.out.1, HE.out.2.2]
 rw [HE.out.2.1] at hO2
 obtain ⟨a2, c2, rfl, -, -⟩ := Row.of_owns hO2
 have HO2 := Lib.hid hO2
 have HB2 := Lib.hid hb2
 clear hO2 hb2 HI
 go_wp2_with fail
 refine (HRI.out _ HB2.out).mono ?_
 rintro e w3 ⟨v3, B3, rfl, hO3, hb3⟩
 rw [HE.out.1, HE.out.2.2]
 rw [HE.out.2.1] at hO3
 obtain ⟨a3, c3, rfl, -, -⟩ := Row.of_owns hO3
 have hb13 : Below w1.heap.size w1 w3 := HB2.out.trans (hb3.mono HB2.out.size)
 have HB3 := Lib.hid (HB1.out.trans (hb13.mono HB1.out.size))
 have hO2 := zab HO2.out hb3
 have hO1 := zab HO1.out hb13
 rw [HPE.out] at hO1 ⊢
 rw [← HL.out] at hO2 hO3 ⊢
 have hR3 := HR.out.mono HB3.out
 have hcx : ∀ W, Below w3.heap.size w3 W → (convert 22 9 (.slice a2 L c2)).run Tryz.prog W = .ok (.string (mkB7 b)) W := fun W h => by
   have h2 := zaW (o := b) (by rw [← HL.out]; exact zab hO2 h)
   exact h2
 have hcy : ∀ W, Below w3.heap.size w3 W → (convert 22 9 (.slice a3 L c3)).run Tryz.prog W = .ok (.string (mkB7 b)) W := fun W h => by
   have h2 := zaW (o := b) (by rw [← HL.out]; exact zab hO3 h)
   exact h2
 have hcb : ∀ W, Below w3.heap.size w3 W → (convert 22 9 (.slice a L cap)).run Tryz.prog W = .ok (.string (mkB7 b)) W := fun W h => by
   have h2 := zfa (bs := b) (a := a) (cap := cap) (by rw [← HL.out]; exact hR3.mono h)
   rw [← HL.out] at h2
   exact h2
 have hcp : ∀ W, Below w3.heap.size w3 W → (convert 22 9 (.slice a1 p.length c1)).run Tryz.prog W = .ok (.string (mkB7 p)) W := fun W h => zaW (o := p) (zab hO1 h)
 have e1 : Below w3.heap.size w3 w3.drew := (Below.refl _ _).drew
 have HWK := Lib.hid (fun W (h : Below w3.heap.size w3 W) => (HW.out W).mono (R' := fun e w' => e = .returned (.bool true) ∧ Below w3.heap.size w3 w') fun e w' ⟨he, hb⟩ => ⟨he, h.trans (hb.mono h.size)⟩)
 have HST := Lib.hid (fun W (h : Below w3.heap.size w3 W) => (zeA (hR3.mono h) (by omega)).mono (R' := fun e w' => Below w3.heap.size w3 w' ∧ Below w'.heap.size w' w' ∧ ∃ aS cS, e = .returned (.slice aS (L + 5) cS) ∧ ∀ W', Below w'.heap.size w' W' → (convert 22 9 (.slice aS (L + 5) cS)).run Tryz.prog W' = .ok (.string (mkB7 (zby b))) W') fun e w' ⟨v, he, hO, hb⟩ => by
   obtain ⟨aS, cS, rfl, -, -⟩ := Row.of_owns hO
   refine ⟨h.trans (hb.mono h.size), Below.refl _ _, aS, cS, he, fun W' h' => ?_⟩
   have h2 := zaW (o := zby b) (by rw [stoBy_len, ← HL.out]; exact zab hO h')
   exact h2)
 have HPS := Lib.hid (show K = 0 → p = zby b from fun h => by
   obtain ⟨hkk, hP, hw⟩ := HPF.out
   rw [hkk (by omega)] at hP
   rcases hP with ⟨-, -, rfl⟩ | ⟨h2, -⟩ | ⟨h2, -⟩
   · exact zeh hw (by have := HL.out; omega)
   · omega
   · omega)
 clear hO1 hO2 hO3 hb3 hb13 HO1 HO2 HB1 HB2 HRI HR HPF hR3
 by_cases hk0 : K = 0
 · subst hk0
   obtain rfl := HPS.out rfl
   clear HPS HPE HE
   generalize mkB7 b = x at *
   generalize mkB7 (zby b) = y at *
   go_upto_region 8 with fail
   go_cut [4] from 55 (fun v wc => v = .bool true ∧ Hid (Below w3.heap.size w3 wc))
   case first =>
     go_region_held_law (fun w' => Below w3.heap.size w3 w') (first | assumption) (first
       | (go_at_call 14; refine (HST.out _ (by assumption)).mono ?_; rintro e wS ⟨hbS, hbSr, aS, cS, rfl, hcS⟩)
       | (go_at_call 10; refine (HWK.out _ (by assumption)).mono ?_; rintro e wW ⟨rfl, hbW⟩; have HbW := Lib.hid hbW))
     all_goals (try go_wp2_with fail)
     all_goals go_meet
     all_goals exact ⟨rfl, HbW⟩
   case rest =>
   obtain ⟨rfl, HBC⟩ := hcut
   have HB4 := Lib.hid (HB3.out.trans (HBC.out.mono HB3.out.size))
   go_wp2_with fail
   go_ret
   exact ⟨rfl, HB4.out⟩
 · have hk3 : K = 1 ∨ K = 2 ∨ K = 3 := by omega
   clear HPS HST HWK
   have qx := fun q : zbS w3 => hcx q.w q.h
   have qy := fun q : zbS w3 => hcy q.w q.h
   have qb := fun q : zbS w3 => hcb q.w q.h
   clear hcx hcy hcb hcp e1
   generalize mkB7 b = x at *
   rcases hk3 with rfl | rfl | rfl <;> (
     go_upto_region 8 with fail
     refine zcy (by kernel_rfl) (by kernel_rfl) ?_
     repeat (go_big_quiet_step ((go_at_call 10; with_reducible exact Calls.below_of (HW.out _))))
     refine wpQuiet_nil ?_
     rintro _ ⟨⟨w9, hb9⟩, rfl⟩
     have HB9 := Lib.hid (HB3.out.trans (hb9.mono HB3.out.size))
     clear hb9
     go_wp2_with fail
     go_ret
     exact ⟨rfl, HB9.out⟩)
end Go.Proofs.YtkikhmdpcanidaaGreat
namespace Go.Proofs.YtkikhmdpcanidaaGreat
open Go.RowKit Go.ChangeShapes Go.WideShapes
theorem bytes_z {H : Type} {enc : TypeId × Value → H} {w : World} {a : Option Addr} {n cap : Nat} {d : DataW H} {p : List MemPlace} (h : DataW.Trod enc Tryz.prog w 0 (fun _ => true) true 22 (.slice a n cap) d p) :
   ∃ bs : List UInt8, bs.length = n ∧ Row w 1 a bs.length cap (bs.map fun x => .int .u8 x.toNat) := by
 obtain ⟨fuel, hf⟩ := h
 rcases open_ints Tryz.underlying22 Tryz.underlying5 (by kernel_rfl) hf with ⟨hcs, _⟩ | ⟨x, l, c, zs, hcs, _, hl, hm, hz, _, hcell, hwz⟩
 · simp [Value.cells] at hcs
   obtain ⟨rfl, rfl, rfl⟩ := hcs
   exact ⟨[], rfl, Row.nil w 1⟩
 · simp [Value.cells] at hcs
   obtain ⟨rfl, rfl, rfl⟩ := hcs
   exact row_bytes (w := w) (a := some x) (len := n) (cap := cap) (zs := zs) (.inr ⟨x, rfl, hl, hm, by simpa using hz, hcell, hwz⟩)
theorem al_z {P : Program} {w : World} {base : Nat} {t e : TypeId} {a : Option Addr} {n cap : Nat} (ht : P.underlying t = some (.slice e)) (h : Value.okWide P w .any base t (.slice a n cap)) : ∀ x, a = some x → x.block < w.heap.size := fun x hx => by
 subst hx
 simp only [Value.okWide, ht, Cell.okWide, Cell.ok, World.has] at h
 obtain ⟨-, -, -, -, row, cells, hs, -⟩ := h
 unfold World.shape? at hs
 rcases Nat.lt_or_ge x.block w.heap.size with h1 | h1
 · exact h1
 · rw [Array.getElem?_eq_none h1] at hs; simp at hs
end Go.Proofs.YtkikhmdpcanidaaGreat
namespace Go.Proofs.YtkikhmdpcanidaaGreat
open Go.RowKit
def zbR (l : Int) : Nat := if l = 0 then 1 else if l = 1 then 94 else if l = 3 then 218 else 156
def headBy (l : Int) : List UInt8 := [120, UInt8.ofNat (zbR l)]
def HeadEnd (w : World) (l : Int) (e : Ending) (w' : World) : Prop := Below w.heap.size w w' ∧ ∃ v, e = .returned v ∧ w'.ownsRow w.heap.size 5 1 v 2 ((headBy l).map fun b => .int .u8 b.toNat)
theorem zdz {w : World} {B : Nat} {p q : Value} (h : B ≤ w.heap.size) : (w.alloc (.cells #[p, q] 5)).ownsRow B 5 1 (.slice (some ⟨w.heap.size, 0, none⟩) 2 2) 2 [p, q] :=
 ⟨rfl, .inr ⟨w.heap.size, 2, _, rfl, h, zah _ rfl, Nat.le_refl _, by unfold maxLen; omega, rfl, rfl⟩⟩
theorem zft (l : Int) : ((headBy l).map fun b => Value.int .u8 b.toNat) = [.int .u8 120, .int .u8 (zbR l : Nat)] := by
 have h : zbR l < 256 := by
   unfold zbR
   repeat' split
   all_goals decide
 unfold headBy
 simp only [List.map_cons, List.map_nil]
 rw [UInt8.toNat_ofNat', Nat.mod_eq_of_lt h]
 rfl
theorem head_miss : ∀ l k : Nat, l ≤ 3 → 64 * l + k < zbR l → chk2 120 (64 * l + k) = 11 := fun l k h1 h2 => by
 have : ∀ a : Fin 4, ∀ c : Fin 64, 64 * a.1 + c.1 < zbR (a.1 : Nat) → chk2 120 (64 * a.1 + c.1) = 11 := by decide +kernel
 have hb : ∀ a : Fin 4, zbR (a.1 : Nat) < 64 * a.1 + 64 := by decide +kernel
 have h3 := hb ⟨l, by omega⟩
 dsimp only at h3
 have h := this ⟨l, by omega⟩ ⟨k, by omega⟩
 exact h h2
theorem head_hit : ∀ l : Nat, l ≤ 3 → chk2 120 (zbR l) = 0 ∧ 64 * l ≤ zbR l ∧ zbR l < 64 * l + 64 := fun l h1 => by
 have : ∀ a : Fin 4, chk2 120 (zbR (a.1 : Nat)) = 0 ∧ 64 * a.1 ≤ zbR (a.1 : Nat) ∧ zbR (a.1 : Nat) < 64 * a.1 + 64 := by decide +kernel
 exact this ⟨l, by omega⟩
theorem head_any (l : Int) (w : World) (hl : -9223372036854775808 ≤ l ∧ l ≤ 9223372036854775807) : Calls Tryz.prog 23 #[.int .i64 l] w (HeadEnd w l) := by
 have HC := Lib.hid (zft l)
 have k0 : bits .or .i64 30720 0 = 30720 := by decide +kernel
 have k1 : bits .or .i64 30720 64 = 30784 := by decide +kernel
 have k2 : bits .or .i64 30720 128 = 30848 := by decide +kernel
 have k3 : bits .or .i64 30720 192 = 30912 := by decide +kernel
 by_cases h1 : l < 0
 · have d1 : decide (l < 0) = true := decide_eq_true h1
   have HV := Lib.hid (show zbR l = 156 from by unfold zbR; rw [if_neg (by omega), if_neg (by omega), if_neg (by omega)])
   go_enter Tryz.func23, Tryz.ntmps23
   go_wp2_with fail
   go_ret
   exact ⟨zai w _, _, rfl, by rw [HC.out, HV.out]; exact zdz (Nat.le_refl _)⟩
 have d1 : decide (l < 0) = false := decide_eq_false h1
 by_cases h2 : 3 < l
 · have d2 : decide (l > 3) = true := decide_eq_true h2
   have HV := Lib.hid (show zbR l = 156 from by unfold zbR; rw [if_neg (by omega), if_neg (by omega), if_neg (by omega)])
   go_enter Tryz.func23, Tryz.ntmps23
   go_wp2_with fail
   go_ret
   exact ⟨zai w _, _, rfl, by rw [HC.out, HV.out]; exact zdz (Nat.le_refl _)⟩
 have h4 : l = 0 ∨ l = 1 ∨ l = 2 ∨ l = 3 := by omega
 clear d1 h1 h2
 rcases h4 with rfl | rfl | rfl | rfl
 all_goals
   go_enter Tryz.func23, Tryz.ntmps23
   go_wp2_with fail
   go_ret
   exact ⟨zai w _, _, rfl, by rw [HC.out]; exact zdz (Nat.le_refl _)⟩
theorem rhead_any (l : Int) (w : World) (hl : -9223372036854775808 ≤ l ∧ l ≤ 9223372036854775807) : Calls Tryz.prog 24 #[.int .i64 l] w (HeadEnd w l) := by
 have HC := Lib.hid (zft l)
 by_cases h0 : 0 ≤ l ∧ l ≤ 3
 · obtain ⟨m, rfl⟩ : ∃ m : Nat, l = m := ⟨l.toNat, by omega⟩
   obtain ⟨H, hH⟩ : ∃ H, H = zbR (m : Nat) := ⟨_, rfl⟩
   have hhit := head_hit m (by omega)
   rw [← hH] at hhit
   have hH1 := hhit.2.1
   have hH2 := hhit.2.2
   have HHIT := Lib.hid hhit
   have HMISS := Lib.hid (fun k => head_miss m k (by omega))
   rw [← hH] at HMISS
   have HV := Lib.hid hH.symm
   have d1 : decide ((m : Int) < 0) = false := decide_eq_false (by omega)
   have d2 : decide ((m : Int) > 3) = false := decide_eq_false (by omega)
   clear hH hhit
   go_enter Tryz.func24, Tryz.ntmps24
   go_wp2_with fail
   go_loopw [3, 4] (fun vk v4 wr => ∃ k : Nat, vk = .int .i64 k ∧ 64 * m + k ≤ H ∧ Hid (Below w.heap.size w wr)) (fun vk _ _ => 64 - (intOf vk).toNat)
   case atStart => exact ⟨0, rfl, by omega, Lib.hid (Below.refl _ _)⟩
   case round =>
     obtain ⟨k, rfl, hk, HB⟩ := hrel
     have hk64 : k < 64 := by omega
     have d3 : decide ((k : Int) < 64) = true := decide_eq_true (by omega)
     have hE : 64 * (m : Int) + (k : Int) = ((64 * m + k : Nat) : Int) := by omega
     obtain ⟨y, hy⟩ : ∃ y, y = 64 * m + k := ⟨_, rfl⟩
     rw [← hy] at hE hk
     have hy256 : y < 256 := by omega
     have hbA := zai wr (.cells #[.int .u8 120, .int .u8 (y : Nat)] 5)
     have hnew := heap_alloc_new wr (.cells #[.int .u8 120, .int .u8 (y : Nat)] 5)
     have HCK := Lib.hid (zcD (w := wr.alloc (.cells #[.int .u8 120, .int .u8 (y : Nat)] 5)) (b := wr.heap.size) (off := 0) (n := 2) (cap := 2) (x := 120) (y := y) (by omega) (by omega) (by omega) (by rw [cell_of_row _ _ 0 _ _ _ hnew]; rfl) (by rw [Nat.zero_add, cell_of_row _ _ 1 _ _ _ hnew]; rfl) (by omega) hy256)
     have HB2 := Lib.hid (HB.out.alloc HB.out.size (.cells #[.int .u8 120, .int .u8 (y : Nat)] 5))
     have HOW := Lib.hid (zdz (w := wr) (p := .int .u8 120) (q := .int .u8 (y : Nat)) HB.out.size)
     have HYY := Lib.hid hy
     clear hbA hnew hy
     by_cases hyH : y = H
     · have HCV := Lib.hid (show chk2 120 y = 0 from by rw [hyH]; exact HHIT.out.1)
       rw [HCV.out] at HCK
       have HYH := Lib.hid hyH
       clear hyH
       go_wp2_with fail
       refine HCK.out.mono ?_
       rintro e w2 ⟨rfl, q, rfl⟩
       go_wp2_with fail
       go_ret
       exact ⟨zak HB2.out q, _, rfl, by rw [HC.out, HV.out, ← HYH.out]; exact HOW.out⟩
     · have HCV := Lib.hid (show chk2 120 y = 11 from by rw [HYY.out]; exact HMISS.out k (by have := HYY.out; omega))
       rw [HCV.out] at HCK
       have hlt : y < H := by omega
       go_wp2_with fail
       refine HCK.out.mono ?_
       rintro e w2 ⟨rfl, q, rfl⟩
       have HB3 := Lib.hid (zak HB2.out q)
       clear hyH
       go_wp2_with fail
       go_roundw
       case rel => exact ⟨k + 1, by go_num, by have := HYY.out; omega, HB3⟩
       case measure => simp [intOf]; omega
 · obtain ⟨H, hH⟩ : ∃ H, H = zbR ((2 : Nat) : Int) := ⟨_, rfl⟩
   have hhit := head_hit 2 (by omega)
   rw [← hH] at hhit
   have hH1 := hhit.2.1
   have hH2 := hhit.2.2
   have HHIT := Lib.hid hhit
   have HMISS := Lib.hid (fun k => head_miss 2 k (by omega))
   rw [← hH] at HMISS
   clear hhit
   by_cases h1 : l < 0
   · have d1 : decide (l < 0) = true := decide_eq_true h1
     have HV := Lib.hid (show zbR l = H from by rw [hH]; unfold zbR; rw [if_neg (by omega), if_neg (by omega), if_neg (by omega)]; rfl)
     clear hH
     go_enter Tryz.func24, Tryz.ntmps24
     go_wp2_with fail
     go_loopw [3, 4] (fun vk v4 wr => ∃ k : Nat, vk = .int .i64 k ∧ 64 * 2 + k ≤ H ∧ Hid (Below w.heap.size w wr)) (fun vk _ _ => 64 - (intOf vk).toNat)
     case atStart => exact ⟨0, rfl, by omega, Lib.hid (Below.refl _ _)⟩
     case round =>
       obtain ⟨k, rfl, hk, HB⟩ := hrel
       have hk64 : k < 64 := by omega
       have d3 : decide ((k : Int) < 64) = true := decide_eq_true (by omega)
       have hE : (128 : Int) + (k : Int) = ((64 * 2 + k : Nat) : Int) := by omega
       obtain ⟨y, hy⟩ : ∃ y, y = 64 * 2 + k := ⟨_, rfl⟩
       rw [← hy] at hE hk
       have hy256 : y < 256 := by omega
       have hbA := zai wr (.cells #[.int .u8 120, .int .u8 (y : Nat)] 5)
       have hnew := heap_alloc_new wr (.cells #[.int .u8 120, .int .u8 (y : Nat)] 5)
       have HCK := Lib.hid (zcD (w := wr.alloc (.cells #[.int .u8 120, .int .u8 (y : Nat)] 5)) (b := wr.heap.size) (off := 0) (n := 2) (cap := 2) (x := 120) (y := y) (by omega) (by omega) (by omega) (by rw [cell_of_row _ _ 0 _ _ _ hnew]; rfl) (by rw [Nat.zero_add, cell_of_row _ _ 1 _ _ _ hnew]; rfl) (by omega) hy256)
       have HB2 := Lib.hid (HB.out.alloc HB.out.size (.cells #[.int .u8 120, .int .u8 (y : Nat)] 5))
       have HOW := Lib.hid (zdz (w := wr) (p := .int .u8 120) (q := .int .u8 (y : Nat)) HB.out.size)
       have HYY := Lib.hid hy
       clear hbA hnew hy
       by_cases hyH : y = H
       · have HCV := Lib.hid (show chk2 120 y = 0 from by rw [hyH]; exact HHIT.out.1)
         rw [HCV.out] at HCK
         have HYH := Lib.hid hyH
         clear hyH
         go_wp2_with fail
         refine HCK.out.mono ?_
         rintro e w2 ⟨rfl, q, rfl⟩
         go_wp2_with fail
         go_ret
         exact ⟨zak HB2.out q, _, rfl, by rw [HC.out, HV.out, ← HYH.out]; exact HOW.out⟩
       · have HCV := Lib.hid (show chk2 120 y = 11 from by rw [HYY.out]; exact HMISS.out k (by have := HYY.out; omega))
         rw [HCV.out] at HCK
         have hlt : y < H := by omega
         go_wp2_with fail
         refine HCK.out.mono ?_
         rintro e w2 ⟨rfl, q, rfl⟩
         have HB3 := Lib.hid (zak HB2.out q)
         clear hyH
         go_wp2_with fail
         go_roundw
         case rel => exact ⟨k + 1, by go_num, by have := HYY.out; omega, HB3⟩
         case measure => simp [intOf]; omega
   · have d1 : decide (l < 0) = false := decide_eq_false h1
     have d2 : decide (l > 3) = true := decide_eq_true (by omega)
     have HV := Lib.hid (show zbR l = H from by rw [hH]; unfold zbR; rw [if_neg (by omega), if_neg (by omega), if_neg (by omega)]; rfl)
     clear hH
     go_enter Tryz.func24, Tryz.ntmps24
     go_wp2_with fail
     go_loopw [3, 4] (fun vk v4 wr => ∃ k : Nat, vk = .int .i64 k ∧ 64 * 2 + k ≤ H ∧ Hid (Below w.heap.size w wr)) (fun vk _ _ => 64 - (intOf vk).toNat)
     case atStart => exact ⟨0, rfl, by omega, Lib.hid (Below.refl _ _)⟩
     case round =>
       obtain ⟨k, rfl, hk, HB⟩ := hrel
       have hk64 : k < 64 := by omega
       have d3 : decide ((k : Int) < 64) = true := decide_eq_true (by omega)
       have hE : (128 : Int) + (k : Int) = ((64 * 2 + k : Nat) : Int) := by omega
       obtain ⟨y, hy⟩ : ∃ y, y = 64 * 2 + k := ⟨_, rfl⟩
       rw [← hy] at hE hk
       have hy256 : y < 256 := by omega
       have hbA := zai wr (.cells #[.int .u8 120, .int .u8 (y : Nat)] 5)
       have hnew := heap_alloc_new wr (.cells #[.int .u8 120, .int .u8 (y : Nat)] 5)
       have HCK := Lib.hid (zcD (w := wr.alloc (.cells #[.int .u8 120, .int .u8 (y : Nat)] 5)) (b := wr.heap.size) (off := 0) (n := 2) (cap := 2) (x := 120) (y := y) (by omega) (by omega) (by omega) (by rw [cell_of_row _ _ 0 _ _ _ hnew]; rfl) (by rw [Nat.zero_add, cell_of_row _ _ 1 _ _ _ hnew]; rfl) (by omega) hy256)
       have HB2 := Lib.hid (HB.out.alloc HB.out.size (.cells #[.int .u8 120, .int .u8 (y : Nat)] 5))
       have HOW := Lib.hid (zdz (w := wr) (p := .int .u8 120) (q := .int .u8 (y : Nat)) HB.out.size)
       have HYY := Lib.hid hy
       clear hbA hnew hy
       by_cases hyH : y = H
       · have HCV := Lib.hid (show chk2 120 y = 0 from by rw [hyH]; exact HHIT.out.1)
         rw [HCV.out] at HCK
         have HYH := Lib.hid hyH
         clear hyH
         go_wp2_with fail
         refine HCK.out.mono ?_
         rintro e w2 ⟨rfl, q, rfl⟩
         go_wp2_with fail
         go_ret
         exact ⟨zak HB2.out q, _, rfl, by rw [HC.out, HV.out, ← HYH.out]; exact HOW.out⟩
       · have HCV := Lib.hid (show chk2 120 y = 11 from by rw [HYY.out]; exact HMISS.out k (by have := HYY.out; omega))
         rw [HCV.out] at HCK
         have hlt : y < H := by omega
         go_wp2_with fail
         refine HCK.out.mono ?_
         rintro e w2 ⟨rfl, q, rfl⟩
         have HB3 := Lib.hid (zak HB2.out q)
         clear hyH
         go_wp2_with fail
         go_roundw
         case rel => exact ⟨k + 1, by go_num, by have := HYY.out; omega, HB3⟩
         case measure => simp [intOf]; omega
end Go.Proofs.YtkikhmdpcanidaaGreat
namespace Go.Proofs.YtkikhmdpcanidaaGreat
open Go.RowKit Go.Sort
structure UnQ (w W : World) (o p q : Nat) (v : Value) (n e : Int) : Prop where
 below : Below w.heap.size w W
 h0 : W.heap[o]? = some (.cells #[v] 22 (0, 0))
 h1 : W.heap[p]? = some (.cells #[.int .i64 n] 3 (0, 0))
 h2 : W.heap[q]? = some (.cells #[.int .i64 e] 24 (0, 0))
 lo : w.heap.size ≤ o
 lp : w.heap.size ≤ p
 lq : w.heap.size ≤ q
 op : o ≠ p
 oq : o ≠ q
 pq : p ≠ q
section
variable {w W : World} {o p q : Nat} {v : Value} {n e : Int}
theorem UnQ.set0 (h : UnQ w W o p q v n e) (v' : Value) : UnQ w (W.setCell ⟨o, 0, none⟩ v') o p q v' n e :=
 { h with below := h.below.setCell h.lo _, h0 := by rw [heap_setCell_same W o 0 _ _ _ h.h0]; rfl, h1 := zaE h.h1 (a := ⟨o, 0, none⟩) h.op _, h2 := zaE h.h2 (a := ⟨o, 0, none⟩) h.oq _ }
theorem UnQ.set1 (h : UnQ w W o p q v n e) (n' : Int) : UnQ w (W.setCell ⟨p, 0, none⟩ (.int .i64 n')) o p q v n' e :=
 { h with below := h.below.setCell h.lp _, h0 := zaE h.h0 (a := ⟨p, 0, none⟩) h.op.symm _, h1 := by rw [heap_setCell_same W p 0 _ _ _ h.h1]; rfl, h2 := zaE h.h2 (a := ⟨p, 0, none⟩) h.pq _ }
theorem UnQ.set2 (h : UnQ w W o p q v n e) (e' : Int) : UnQ w (W.setCell ⟨q, 0, none⟩ (.int .i64 e')) o p q v n e' :=
 { h with below := h.below.setCell h.lq _, h0 := zaE h.h0 (a := ⟨q, 0, none⟩) h.oq.symm _, h1 := zaE h.h1 (a := ⟨q, 0, none⟩) h.pq.symm _, h2 := by rw [heap_setCell_same W q 0 _ _ _ h.h2]; rfl }
theorem UnQ.set3 (h : UnQ w W o p q v n e) (v' : Value) (n' e' : Int) : UnQ w (((W.setCell ⟨o, 0, none⟩ v').setCell ⟨p, 0, none⟩ (.int .i64 n')).setCell ⟨q, 0, none⟩ (.int .i64 e')) o p q v' n' e' := ((h.set0 v').set1 n').set2 e'
theorem UnQ.next {W' : World} (h : UnQ w W o p q v n e) (hb : Below W.heap.size W W') : UnQ w W' o p q v n e :=
 { h with below := h.below.trans (hb.mono h.below.size), h0 := za3 hb h.h0, h1 := za3 hb h.h1, h2 := za3 hb h.h2 }
theorem UnQ.cells (h : UnQ w W o p q v n e) : W.cell? ⟨o, 0, none⟩ = some v ∧ W.cell? ⟨p, 0, none⟩ = some (.int .i64 n) ∧ W.cell? ⟨q, 0, none⟩ = some (.int .i64 e) ∧ W.frozen? ⟨o, 0, none⟩ = false ∧ W.frozen? ⟨p, 0, none⟩ = false ∧ W.frozen? ⟨q, 0, none⟩ = false :=
 ⟨by rw [cell_of_row W o 0 _ _ _ h.h0]; rfl, by rw [cell_of_row W p 0 _ _ _ h.h1]; rfl, by rw [cell_of_row W q 0 _ _ _ h.h2]; rfl, frozen_of_row W o 0 _ _ h.h0, frozen_of_row W p 0 _ _ h.h1, frozen_of_row W q 0 _ _ h.h2⟩
theorem UnQ.start (w : World) : UnQ w (((w.alloc (.cells #[.slice none 0 0] 22)).alloc (.cells #[.int .i64 0] 3)).alloc (.cells #[.int .i64 0] 24)) w.heap.size (w.heap.size + 1) (w.heap.size + 1 + 1) (.slice none 0 0) 0 0 :=
 { below := ((zai w _).alloc (by rw [zad]; omega) _).alloc (by rw [zad, zad]; omega) _
   h0 := zaL _ (zaL _ (zah _ rfl)), h1 := zaL _ (zah _ (by rw [zad])), h2 := zah _ (by rw [zad, zad])
   lo := Nat.le_refl _, lp := by omega, lq := by omega, op := by omega, oq := by omega, pq := by omega }
theorem UnQ.apart (h : UnQ w W o p q v n e) {B m : Nat} {x : Value} {cs : List Value} (hO : W.ownsRow B 5 1 x m cs) : ∀ b, x.ownBlock = some b → b ≠ o ∧ b ≠ p ∧ b ≠ q := fun b hb => by
 rcases hO.2 with ⟨rfl, -⟩ | ⟨g, cap, cur, rfl, -, hg, -⟩
 · cases hb
 · have e1 : g = b := by simpa [Value.ownBlock] using hb
   subst e1
   refine ⟨fun e => ?_, fun e => ?_, fun e => ?_⟩
   · subst e; rw [h.h0] at hg; simp at hg
   · subst e; rw [h.h1] at hg; simp at hg
   · subst e; rw [h.h2] at hg; simp at hg
theorem UnQ.own3 (h : UnQ w W o p q v n e) {B m : Nat} {x : Value} {cs : List Value} (hO : W.ownsRow B 5 1 x m cs) (a b c : Value) : (((W.setCell ⟨o, 0, none⟩ a).setCell ⟨p, 0, none⟩ b).setCell ⟨q, 0, none⟩ c).ownsRow B 5 1 x m cs := by
 have hx := h.apart hO
 have k : ∀ g : Nat, (∀ b, x.ownBlock = some b → b ≠ g) → x.ownBlock ≠ some g := fun g hg e => hg g e rfl
 exact zba (zba (zba hO (a := ⟨o, 0, none⟩) (k o fun b hb => (hx b hb).1) a) (a := ⟨p, 0, none⟩) (k p fun b hb => (hx b hb).2.1) b) (a := ⟨q, 0, none⟩) (k q fun b hb => (hx b hb).2.2) c
end
theorem none_ok {o p q : Nat} {w : World} (u : FrameMode) (c2 : w.cell? ⟨q, 0, none⟩ = some (.int .i64 0)) :
   CallsD Tryz.prog 45 #[.pointer (some ⟨o, 0, none⟩), .pointer (some ⟨p, 0, none⟩), .pointer (some ⟨q, 0, none⟩)] u w fun e u' w' => u' = u ∧ (e = .returned (.tuple #[]) ∧ w' = w) := by
 go_enter_d Tryz.func45, Tryz.ntmps45
 go_wp2
 go_end0
 exact ⟨rfl, rfl⟩
theorem none_bad {o p q : Nat} {e : Int} {v1 v2 : Value} {w : World} (u : FrameMode) (he : e ≠ 0) (c0 : w.cell? ⟨o, 0, none⟩ = some v1) (c1 : w.cell? ⟨p, 0, none⟩ = some v2) (c2 : w.cell? ⟨q, 0, none⟩ = some (.int .i64 e)) (f0 : w.frozen? ⟨o, 0, none⟩ = false) (f1 : w.frozen? ⟨p, 0, none⟩ = false) (hop : ¬ p = o) :
   CallsD Tryz.prog 45 #[.pointer (some ⟨o, 0, none⟩), .pointer (some ⟨p, 0, none⟩), .pointer (some ⟨q, 0, none⟩)] u w fun x u' w' => u' = u ∧ (x = .returned (.tuple #[]) ∧ w' = (w.setCell ⟨o, 0, none⟩ (.slice none 0 0)).setCell ⟨p, 0, none⟩ (.int .i64 0)) := by
 have hd : (e == 0) = false := by simpa using he
 have hd2 : (e != 0) = true := by simpa using he
 go_enter_d Tryz.func45, Tryz.ntmps45
 go_wp2
 go_end0
 exact ⟨rfl, rfl⟩
theorem notAgg {ty : TypeId} {d : TypeDesc} (hu : Tryz.prog.underlying ty = some d) (hd : (match d with | .struct _ | .array _ _ => true | _ => false) = false) {a : Addr} {x : Value} {W : World} (hc : W.cell? a = some x) : (loadVar ty a).run Tryz.prog W = .ok x W := by
 have hagg : (isAgg ty).run Tryz.prog W = .ok false W := by
   unfold isAgg
   rw [Sem.run_bind, run_underlying hu W]
   cases d <;> simp_all
 unfold loadVar
 rw [Sem.run_bind, hagg]
 simp [hc]
theorem results3 {fn : Func} {t0 t1 t2 : Tmp} (h : fn.results = #[.cell t0 22, .cell t1 3, .cell t2 24]) (tmps : Array Value) {w W : World} {o p q : Nat} {v : Value} {n e : Int}
   (h0 : tmps.getD t0 undef = .pointer (some ⟨o, 0, none⟩)) (h1 : tmps.getD t1 undef = .pointer (some ⟨p, 0, none⟩)) (h2 : tmps.getD t2 undef = .pointer (some ⟨q, 0, none⟩)) (hq : UnQ w W o p q v n e) :
   (results fn tmps).run Tryz.prog W = .ok (.tuple #[v, .int .i64 n, .int .i64 e]) W := by
 obtain ⟨c0, c1, c2, -⟩ := hq.cells
 have l0 := notAgg Tryz.underlying22 rfl c0
 have l1 := notAgg Tryz.underlying3 rfl c1
 have l2 := notAgg Tryz.underlying24 rfl c2
 have h0' : tmps[t0]?.getD undef = .pointer (some ⟨o, 0, none⟩) := by simpa using h0
 have h1' : tmps[t1]?.getD undef = .pointer (some ⟨p, 0, none⟩) := by simpa using h1
 have h2' : tmps[t2]?.getD undef = .pointer (some ⟨q, 0, none⟩) := by simpa using h2
 simp [results, h, h0', h1', h2', asAddr, l0, l1, l2, Sem.run_bind, Result.andThen]
theorem door_ok {a : Act} {R : Ending → World → Prop} {w W : World} {o p q : Nat} {v : Value} {n : Int} (hd : a.defers = [{ target := .fn (.func 45) #[], args := #[.pointer (some ⟨o, 0, none⟩), .pointer (some ⟨p, 0, none⟩), .pointer (some ⟨q, 0, none⟩)] }])
   (h0 : a.tmps.getD 4 undef = .pointer (some ⟨o, 0, none⟩)) (h1 : a.tmps.getD 5 undef = .pointer (some ⟨p, 0, none⟩)) (h2 : a.tmps.getD 6 undef = .pointer (some ⟨q, 0, none⟩)) (hq : UnQ w W o p q v n 0) (hR : R (.returned (.tuple #[v, .int .i64 n, .int .i64 0])) W) :
   bodyPostD Tryz.prog Tryz.f19 R .ret a W := by
 show Leaves Tryz.prog Tryz.f19 a.tmps R a.defers .returning W
 rw [hd]
 refine leaves_cons (f := 45) (args := #[.pointer (some ⟨o, 0, none⟩), .pointer (some ⟨p, 0, none⟩), .pointer (some ⟨q, 0, none⟩)]) (by simp) (by simp [go_sem]) ?_
 refine (none_ok .returning hq.cells.2.2.1).mono ?_
 rintro e u' w' ⟨rfl, rfl, rfl⟩
 exact ⟨_, results3 rfl _ h0 h1 h2 hq, hR⟩
theorem zcG {a : Act} {R : Ending → World → Prop} {w W : World} {o p q : Nat} {v : Value} {n e : Int} (hd : a.defers = [{ target := .fn (.func 45) #[], args := #[.pointer (some ⟨o, 0, none⟩), .pointer (some ⟨p, 0, none⟩), .pointer (some ⟨q, 0, none⟩)] }])
   (h0 : a.tmps.getD 4 undef = .pointer (some ⟨o, 0, none⟩)) (h1 : a.tmps.getD 5 undef = .pointer (some ⟨p, 0, none⟩)) (h2 : a.tmps.getD 6 undef = .pointer (some ⟨q, 0, none⟩)) (he : e ≠ 0) (hq : UnQ w W o p q v n e) (hR : ∀ W', Below w.heap.size w W' → R (.returned (.tuple #[.slice none 0 0, .int .i64 0, .int .i64 e])) W') :
   bodyPostD Tryz.prog Tryz.f19 R .ret a W := by
 show Leaves Tryz.prog Tryz.f19 a.tmps R a.defers .returning W
 rw [hd]
 obtain ⟨c0, c1, c2, f0, f1, -⟩ := hq.cells
 refine leaves_cons (f := 45) (args := #[.pointer (some ⟨o, 0, none⟩), .pointer (some ⟨p, 0, none⟩), .pointer (some ⟨q, 0, none⟩)]) (by simp) (by simp [go_sem]) ?_
 refine (none_bad .returning he c0 c1 c2 f0 f1 (fun h => hq.op h.symm)).mono ?_
 rintro e u' w' ⟨rfl, rfl, rfl⟩
 have hq2 := (hq.set0 (.slice none 0 0)).set1 0
 exact ⟨_, results3 rfl _ h0 h1 h2 hq2, hR _ hq2.below⟩
theorem bequal_z {w : World} {a a2 : Option Addr} {cap c2 : Nat} {bs sep : List UInt8} (hr : Row w 1 a bs.length cap (bs.map u8C)) (hs : Row w 1 a2 sep.length c2 (sep.map u8C)) :
   Calls Tryz.prog 46 #[.slice a bs.length cap, .slice a2 sep.length c2] w fun e w' => e = .returned (.bool (decide (bs = sep))) ∧ w = w' := by
 have h1 := zfa hr
 have h2 := zfa hs
 have hq := eq_mkB7 bs sep
 clear hr hs
 generalize mkB7 bs = x at *
 generalize mkB7 sep = y at *
 generalize decide (bs = sep) = d at *
 go_enter Tryz.func46, Tryz.ntmps46
 go_wp2
 go_ret
 exact ⟨rfl, rfl⟩
theorem heldU {w2 W W' : World} {p o : Nat} {x y : Value} (h : W.cell? ⟨p, 0, none⟩ = some x ∧ W.cell? ⟨o, 0, none⟩ = some y ∧ Below w2.heap.size w2 W) (hb : Below W.heap.size W W') : W'.cell? ⟨p, 0, none⟩ = some x ∧ W'.cell? ⟨o, 0, none⟩ = some y ∧ Below w2.heap.size w2 W' :=
 ⟨cell?_keep hb h.1, cell?_keep hb h.2.1, h.2.2.trans (hb.mono h.2.2.size)⟩
theorem zfh {w : World} {a : Option Addr} {cap : Nat} {b : List UInt8} (most : Int) (hr : Row w 1 a b.length cap (b.map u8C)) (hal : ∀ x, a = some x → x.block < w.heap.size) (hbl : b.length ≤ 100000) (hsm : ∀ M : Nat, most = M → M ≤ 16777216 → (resO (endI (b.drop 2) M)).length ≤ 2000) :
   Calls Tryz.prog 19 #[.slice a b.length cap, .int .i64 most] w (zbB w (unpM b most)) := by
 have HQ := Lib.hid (UnQ.start w)
 have hcapn := hr.2.1
 have hcapm := hr.2.2.1
 unfold maxLen at hcapm
 have HR := Lib.hid (fun W (h : Below w.heap.size w W) => hr.mono h)
 have HAL := Lib.hid hal
 have HSM := Lib.hid hsm
 have HR0 := Lib.hid hr
 have hni : (b.length : Int) ≤ 9223372036854775807 := by omega
 clear hr hal hsm
 go_enter_defers Tryz.func19, Tryz.ntmps19
 go_upto_region 2 with fail
 generalize ((w.alloc (.cells #[.slice none 0 0] 22)).alloc (.cells #[.int .i64 0] 3)).alloc (.cells #[.int .i64 0] 24) = W0 at HQ ⊢
 generalize w.heap.size + 1 + 1 = q at HQ ⊢
 generalize w.heap.size + 1 = p at HQ ⊢
 obtain ⟨o, ho⟩ : ∃ o, o = w.heap.size := ⟨_, rfl⟩
 rw [← ho] at HQ ⊢
 clear ho
 obtain ⟨c0, c1, c2, f0, f1, f2⟩ := HQ.out.cells
 have hop : ¬ o = p := HQ.out.op
 have hoq : ¬ o = q := HQ.out.oq
 have hpq : ¬ p = q := HQ.out.pq
 have hpo : ¬ p = o := fun h => hop h.symm
 have hqo : ¬ q = o := fun h => hoq h.symm
 have hqp : ¬ q = p := fun h => hpq h.symm
 by_cases m1 : most < 0
 · have d1 : decide (most < 0) = true := decide_eq_true m1
   have HV := Lib.hid (show unpM b most = ([], 0, 2) from if_pos (.inl m1))
   have HQ1 := Lib.hid (HQ.out.set3 (.slice none 0 0) 0 2)
   go_wp2_with fail
   refine zcG rfl rfl rfl rfl (by decide) HQ1.out (fun W' hb => ?_)
   rw [HV.out]
   exact zbB.bad hb
 have d1 : decide (most < 0) = false := decide_eq_false m1
 by_cases m2 : 16777216 < most
 · have d2 : decide (most > 16777216) = true := decide_eq_true m2
   have HV := Lib.hid (show unpM b most = ([], 0, 2) from if_pos (.inr m2))
   have HQ1 := Lib.hid (HQ.out.set3 (.slice none 0 0) 0 2)
   go_wp2_with fail
   refine zcG rfl rfl rfl rfl (by decide) HQ1.out (fun W' hb => ?_)
   rw [HV.out]
   exact zbB.bad hb
 have d2 : decide (most > 16777216) = false := decide_eq_false m2
 obtain ⟨M, rfl⟩ : ∃ M : Nat, most = M := ⟨most.toNat, by omega⟩
 have hM : M ≤ 16777216 := by omega
 have HV := Lib.hid (show unpM b M = unpV b M from if_neg (by omega))
 have HCK := Lib.hid (check_any (HR.out W0 HQ.out.below))
 by_cases hck : chkV b = 0
 case neg =>
   have HU := Lib.hid (show unpV b M = ([], 0, chkV b) from if_pos hck)
   generalize chkV b = c at *
   have hb : (c != 0) = true := by simpa using hck
   have hb2 : (c == 0) = false := by simpa using hck
   go_wp2_with fail
   refine HCK.out.mono ?_
   rintro e w1 ⟨rfl, r, rfl⟩
   have HQ1 := Lib.hid ((HQ.out.next (zak (Below.refl _ _) r)).set2 c)
   have HQ2 := Lib.hid (HQ1.out.set3 (.slice none 0 0) 0 c)
   go_wp2_with fail
   refine zcG rfl rfl rfl rfl hck HQ2.out (fun W' hb => ?_)
   rw [HV.out, HU.out]
   exact zbB.bad hb
 have hl2 : 2 ≤ b.length := by
   rcases Nat.lt_or_ge b.length 2 with h | h
   · unfold chkV at hck; rw [if_pos h] at hck; cases hck
   · exact h
 have HU := Lib.hid (show unpV b M = _ from by unfold unpV; rw [if_neg (fun h => h hck)])
 rw [hck] at HCK
 clear hck
 obtain ⟨bb, off, rfl, hbb, -⟩ := HR0.out.at 0 0 (by omega)
 have hI := (fun (W : World) (hb : Below w.heap.size w W) => by
   have h := zc8 W (if cap = 2 then some ⟨bb, off, none⟩ else some ((⟨bb, off, none⟩ : Addr).add 2)) (cap - 2) M (b.drop 2) (by rw [List.length_drop]; exact row_two (HR.out W hb) hl2) (by rw [List.length_drop]; omega) hM
   rw [List.length_drop] at h
   exact h : ∀ (W : World) (hb : Below w.heap.size w W), Calls Tryz.prog 12 #[.slice (if cap = 2 then some ⟨bb, off, none⟩ else some ((⟨bb, off, none⟩ : Addr).add 2)) (b.length - 2) (cap - 2), .int .i64 M] W (zcW (endI (b.drop 2) M) W))
 have hend := zeH (b.drop 2) M
 have hole := HSM.out M rfl hM
 obtain ⟨s, hs⟩ : ∃ s, s = endI (b.drop 2) M := ⟨_, rfl⟩
 rw [← hs] at hI HU hend hole
 have hat := hend.2
 rw [List.length_drop] at hat
 obtain ⟨O, C, D, hOC, HI⟩ : ∃ O C D, ((cap = 2 ∧ O = off ∧ C = 0 ∧ D = 0) ∨ (¬ cap = 2 ∧ O = off + 2 ∧ C = cap - 2 ∧ D = b.length - 2)) ∧ Hid (∀ (W : World), Below w.heap.size w W → Calls Tryz.prog 12 #[.slice (some ⟨bb, O, none⟩) D C, .int .i64 M] W (zcW s W)) := by
   by_cases h : cap = 2
   · refine ⟨off, 0, 0, .inl ⟨h, rfl, rfl, rfl⟩, Lib.hid fun W hb => ?_⟩
     have := hI W hb
     rw [if_pos h, h, show b.length - 2 = 0 from by omega] at this
     exact this
   · refine ⟨off + 2, cap - 2, b.length - 2, .inr ⟨h, rfl, rfl, rfl⟩, Lib.hid fun W hb => ?_⟩
     have := hI W hb
     rw [if_neg h] at this
     exact this
 obtain ⟨L, hL⟩ : ∃ L, L = b.length := ⟨_, rfl⟩
 rw [← hL] at HCK hOC hl2 hcapn hbl hat HU hni ⊢
 have HL := Lib.hid hL
 have HS := Lib.hid hs
 clear hI hend hL hs
 by_cases he : s.e = 0
 case neg =>
   rw [if_pos he] at HU
   have hb : (s.e != 0) = true := by simpa using he
   have hb2 : (s.e == 0) = false := by simpa using he
   clear hat hole
   rcases hOC with ⟨rfl, rfl, rfl, rfl⟩ | ⟨hc2, rfl, rfl, rfl⟩ <;> (
     go_wp2_with fail
     refine HCK.out.mono ?_
     rintro e w1 ⟨rfl, r, rfl⟩
     have HQ1 := Lib.hid ((HQ.out.next (zak (Below.refl _ _) r)).set2 0)
     go_wp2_with fail
     refine (HI.out _ HQ1.out.below).mono ?_
     rintro e w2 ⟨v1, B1, rfl, hO1, hb2⟩
     have HQ2 := Lib.hid (HQ1.out.next hb2)
     obtain ⟨d0, d1, d2, g0, g1, g2⟩ := HQ2.out.cells
     obtain ⟨a1, c1, rfl, -, -⟩ := Row.of_owns hO1
     have HQ3 := Lib.hid ((HQ2.out.set3 (.slice a1 (resO s).length c1) (resN s) s.e).set3 (.slice a1 (resO s).length c1) (resN s) s.e)
     clear hO1 hb2
     go_wp2_with fail
     refine zcG rfl rfl rfl rfl he HQ3.out (fun W' hb => ?_)
     rw [HV.out, HU.out]
     exact zbB.bad hb)
 rw [if_neg (fun h => h he)] at HU
 have hNv : resN s = (s.at_ + 7) / 8 := if_pos he
 have hNl : resN s ≤ L - 2 := by omega
 have HE := Lib.hid he
 have hb : (s.e != 0) = false := by simpa using he
 clear hNv hat he
 obtain ⟨N, hN⟩ : ∃ N, N = resN s := ⟨_, rfl⟩
 rw [← hN] at hNl HU
 have HN := Lib.hid hN.symm
 obtain ⟨out, ho⟩ : ∃ o, o = resO s := ⟨_, rfl⟩
 rw [← ho] at HU hole
 have HO := Lib.hid ho.symm
 clear hN ho
 by_cases hlen : L < N + 6
 case pos =>
   rw [if_pos hlen] at HU
   have hlt : decide ((L : Int) - ((N : Int) + 2) < 4) = true := decide_eq_true (by omega)
   rcases hOC with ⟨rfl, rfl, rfl, rfl⟩ | ⟨hc2, rfl, rfl, rfl⟩ <;> (
     go_wp2_with fail
     refine HCK.out.mono ?_
     rintro e w1 ⟨rfl, r, rfl⟩
     have HQ1 := Lib.hid ((HQ.out.next (zak (Below.refl _ _) r)).set2 0)
     go_wp2_with fail
     refine (HI.out _ HQ1.out.below).mono ?_
     rintro e w2 ⟨v1, B1, rfl, hO1, hb2⟩
     rw [HN.out, HE.out]
     rw [HO.out] at hO1
     have HQ2 := Lib.hid (HQ1.out.next hb2)
     obtain ⟨d0, d1, d2, g0, g1, g2⟩ := HQ2.out.cells
     obtain ⟨a1, c1, rfl, -, -⟩ := Row.of_owns hO1
     have HQ3 := Lib.hid (HQ2.out.set3 (.slice a1 out.length c1) N 0)
     clear hO1 hb2
     go_upto_region 8 with fail
     generalize ((w2.setCell ⟨o, 0, none⟩ (.slice a1 out.length c1)).setCell ⟨p, 0, none⟩ (.int .i64 N)).setCell ⟨q, 0, none⟩ (.int .i64 0) = w3 at HQ3 ⊢
     clear d0 d1 d2 g0 g1 g2 HQ2
     obtain ⟨d0, d1, d2, g0, g1, g2⟩ := HQ3.out.cells
     have HQ4 := Lib.hid (HQ3.out.set1 ((N : Int) + 2))
     go_upto_region 11 with fail
     generalize w3.setCell ⟨p, 0, none⟩ (.int .i64 ((N : Int) + 2)) = w4 at HQ4 ⊢
     clear d0 d1 d2 g0 g1 g2 HQ3
     obtain ⟨d0, d1, d2, g0, g1, g2⟩ := HQ4.out.cells
     have HQ5 := Lib.hid (HQ4.out.set3 (.slice a1 out.length c1) ((N : Int) + 2) 10)
     go_wp2_with fail
     refine zcG rfl rfl rfl rfl (by decide) HQ5.out (fun W' hb => ?_)
     rw [HV.out, HU.out]
     exact zbB.bad hb)
 rw [if_neg hlen] at HU
 have hlt : decide ((L : Int) - ((N : Int) + 2) < 4) = false := decide_eq_false (by omega)
 obtain ⟨hc2, rfl, rfl, rfl⟩ := hOC.resolve_left (fun h => by omega)
 obtain ⟨s4, hs4⟩ : ∃ s4, s4 = (b.drop (N + 2)).take 4 := ⟨_, rfl⟩
 have hl4 : s4.length = 4 := by rw [hs4, List.length_take, List.length_drop]; have := HL.out; omega
 obtain ⟨dd, hdd⟩ : ∃ dd, dd = decide (s4 = by4 (adV out)) := ⟨_, rfl⟩
 have HDD := Lib.hid hdd.symm
 have HEQ := Lib.hid (fun (W : World) (hb : Below w.heap.size w W) (aB : Option Addr) (cB : Nat) (hrB : Row W 1 aB 4 cB ((by4 (adV out)).map u8C)) => show Calls Tryz.prog 46 #[.slice (some ⟨bb, off + (N + 2), none⟩) 4 (cap - (N + 2)), .slice aB 4 cB] W (fun e w' => e = .returned (.bool dd) ∧ W = w') from by
   have h := row_four (N := N) (HR.out W hb) (by have := HL.out; omega)
   rw [← hs4] at h
   have h2 := bequal_z (bs := s4) (sep := by4 (adV out)) (by rw [hl4]; exact h) hrB
   rw [hl4, ← hdd] at h2
   exact h2)
 rw [← hs4] at HU
 clear hs4 hdd hOC
 have i1 : ¬ ((cap : Int) = (N : Int) + 2) := by omega
 have i2 : (N : Int) + 6 ≤ (cap : Int) := by omega
 have i3 : ¬ cap = N + 2 := by omega
 have i4 : IntKind.i64.wrap ((N : Int) + 2) = (N : Int) + 2 := IntWalk.i64_in _ (by omega)
 have i5 : IntKind.i64.wrap ((N : Int) + 2 + 4) = (N : Int) + 6 := by rw [IntWalk.i64_in _ (by omega)]; omega
 have i6 : ((N : Int) + 2).toNat = N + 2 := by omega
 have i7 : ((N : Int) + 6).toNat = N + 6 := by omega
 have i8 : (0 : Int) ≤ (N : Int) + 2 := by omega
 have i9 : (0 : Int) ≤ (N : Int) + 6 := by omega
 have i10 : (N : Int) + 2 ≤ (N : Int) + 6 := by omega
 have i11 : N + 6 - (N + 2) = 4 := by omega
 have i12 : N + 6 ≤ cap := by omega
 go_wp2_with fail
 refine HCK.out.mono ?_
 rintro e w1 ⟨rfl, r, rfl⟩
 have HQ1 := Lib.hid ((HQ.out.next (zak (Below.refl _ _) r)).set2 0)
 go_wp2_with fail
 refine (HI.out _ HQ1.out.below).mono ?_
 rintro e w2 ⟨v1, B1, rfl, hO1, hb2⟩
 rw [HN.out, HE.out]
 rw [HO.out] at hO1
 have HQ2 := Lib.hid (HQ1.out.next hb2)
 obtain ⟨d0, d1, d2, g0, g1, g2⟩ := HQ2.out.cells
 obtain ⟨a1, c1, rfl, hR1, -⟩ := Row.of_owns hO1
 have HQ3 := Lib.hid (HQ2.out.set3 (.slice a1 out.length c1) N 0)
 have HO3 := Lib.hid (HQ2.out.own3 hO1 (.slice a1 out.length c1) (.int .i64 N) (.int .i64 0))
 clear hO1 hb2 hR1 HQ HQ1 HCK HI HAL HR0
 go_upto_region 8 with fail
 generalize ((w2.setCell ⟨o, 0, none⟩ (.slice a1 out.length c1)).setCell ⟨p, 0, none⟩ (.int .i64 N)).setCell ⟨q, 0, none⟩ (.int .i64 0) = w3 at HQ3 HO3 ⊢
 clear d0 d1 d2 g0 g1 g2 HQ2
 obtain ⟨d0, d1, d2, g0, g1, g2⟩ := HQ3.out.cells
 have HQ4 := Lib.hid (HQ3.out.set1 ((N : Int) + 2))
 have HO4 := Lib.hid (zba HO3.out (a := ⟨p, 0, none⟩) (fun h => (HQ3.out.apart HO3.out p h).2.1 rfl) (.int .i64 ((N : Int) + 2)))
 go_upto_region 11 with fail
 generalize w3.setCell ⟨p, 0, none⟩ (.int .i64 ((N : Int) + 2)) = w4 at HQ4 HO4 ⊢
 clear d0 d1 d2 g0 g1 g2 HQ3 HO3
 obtain ⟨d0, d1, d2, g0, g1, g2⟩ := HQ4.out.cells
 have hR4 := (Row.of_own HO4.out).2
 have hA4 : ∀ x, a1 = some x → x.block < w4.heap.size := fun x hx => (HO4.out.lt x.block (by rw [hx]; rfl)).2
 have HSU := Lib.hid (fun W (h : Below w4.heap.size w4 W) => asum_any (hR4.mono h) hole (fun x hx => Nat.lt_of_lt_of_le (hA4 x hx) h.size))
 have HBY := Lib.hid (fun W => zfq (w := W) (adV_lt out))
 have HEQ4 := Lib.hid (fun W (h : Below w4.heap.size w4 W) => HEQ.out W (HQ4.out.below.trans (h.mono HQ4.out.below.size)))
 clear hR4 hA4 HEQ
 go_upto_region 13 with fail
 have e0 : w4.drew.cell? ⟨p, 0, none⟩ = some (.int .i64 ((N : Int) + 2)) := d1
 have e1 : w4.drew.cell? ⟨o, 0, none⟩ = some (.slice a1 out.length c1) := d0
 have e2 : Below w4.heap.size w4 w4.drew := (Below.refl _ _).drew
 go_region_held3 (fun w' => w'.cell? ⟨p, 0, none⟩ = some (.int .i64 ((N : Int) + 2)) ∧ w'.cell? ⟨o, 0, none⟩ = some (.slice a1 out.length c1) ∧ Below w4.heap.size w4 w') (first | assumption | exact ⟨e0, e1, e2⟩ | exact heldU (by assumption) hbS | exact heldU (by assumption) hbB)
   (first
     | (go_at_call 48; refine (HSU.out _ (And.right (And.right (by assumption)))).mono ?_; rintro e wS ⟨rfl, hbS⟩)
     | (go_at_call 47; refine (HBY.out _).mono ?_; rintro e wB ⟨vB, rfl, hOB, hbB⟩; obtain ⟨aB, cB, rfl, hrB, -⟩ := Row.of_owns hOB; clear hOB)
     | (go_at_call 46; refine (HEQ4.out _ (And.right (And.right (by assumption))) aB cB (by first | exact hrB | exact hrB.mono (by assumption))).mono ?_; rintro e wE ⟨rfl, rfl⟩))
 have hb4 : Below w4.heap.size w4 wB := And.right (And.right (by assumption))
 have HQ6 := Lib.hid (HQ4.out.next hb4)
 have HO6 := Lib.hid (zab HO4.out hb4)
 clear d0 d1 d2 g0 g1 g2 HQ4 HO4 hb4 HSU HBY HEQ4 e0 e1 e2
 obtain ⟨d0, d1, d2, g0, g1, g2⟩ := HQ6.out.cells
 cases dd with
 | true =>
   rw [if_neg (fun h => h (of_decide_eq_true HDD.out))] at HU
   have HQ7 := Lib.hid (HQ6.out.set3 (.slice a1 out.length c1) ((N : Int) + 6) 0)
   have HO7 := Lib.hid (HQ6.out.own3 HO6.out (.slice a1 out.length c1) (.int .i64 ((N : Int) + 6)) (.int .i64 0))
   go_wp2_with fail
   refine door_ok rfl rfl rfl rfl HQ7.out ?_
   rw [HV.out, HU.out]
   exact ⟨_, _, rfl, HO7.out, HQ7.out.below⟩
 | false =>
   rw [if_pos (of_decide_eq_false HDD.out)] at HU
   have HQ7 := Lib.hid (HQ6.out.set3 (.slice a1 out.length c1) ((N : Int) + 2) 12)
   go_wp2_with fail
   refine zcG rfl rfl rfl rfl (by decide) HQ7.out (fun W' hb => ?_)
   rw [HV.out, HU.out]
   exact zbB.bad hb
end Go.Proofs.YtkikhmdpcanidaaGreat
namespace Go.Proofs.YtkikhmdpcanidaaGreat
open Go.RowKit Go.Sort
def zipB (p b : List UInt8) : List UInt8 := 0x78 :: 0x9c :: (p ++ by4 (adV b))
theorem zdg (p b : List UInt8) : (zipB p b).length = p.length + 6 := by unfold zipB; simp [zem]
def ZipEnd (w : World) (b : List UInt8) (kind : Nat) (e : Ending) (w' : World) : Prop :=
 Below w.heap.size w w' ∧ ∃ (p : List UInt8) (v : Value) (Z : List Bool) (k : Nat), e = .returned (.tuple #[v, .int .i64 0]) ∧ w'.ownsRow w.heap.size 5 1 v (zipB p b).length ((zipB p b).map u8C) ∧ k ≤ 2 ∧ (kind ≤ 2 → k = kind) ∧ zdI 0 k true b Z ∧ za5 p false Z ∧ Z.length ≤ 60 * b.length + 8000
theorem row_cells {w : World} {t : TypeId} (vs : List Value) (hl : vs.length ≤ 100) : Row (w.alloc (.cells vs.toArray t)) 1 (some ⟨w.heap.size, 0, none⟩) vs.length vs.length vs :=
 ⟨by rw [Nat.mul_one], Nat.le_refl _, by unfold maxLen; omega, fun h => (by cases h), fun _ => ⟨_, 0, rfl, by rw [zad]; exact Nat.lt_succ_self _, fun j u hj => by
   rw [Nat.zero_add, cell_of_row _ _ _ _ _ _ (zah _ rfl), List.getElem?_toArray]; exact hj⟩⟩
theorem zfw (l : List UInt8) : ∀ u ∈ l.map u8C, u.oneCell' = true := fun u hu => by
 obtain ⟨x, -, rfl⟩ := List.mem_map.1 hu
 rfl
theorem head2 : headBy 2 = [0x78, 0x9c] := by decide
theorem zpack_of {w : World} {a : Option Addr} {n cap kind : Nat} {b : List UInt8} (hD : Calls Tryz.prog 11 #[.slice a n cap, .int .i64 kind] w (DefEnd w b kind)) (hr : Row w 1 a n cap (b.map u8C)) (hal : ∀ x, a = some x → x.block < w.heap.size) (hb : n ≤ 2000) :
   Calls Tryz.prog 25 #[.slice a n cap, .int .i64 kind] w (ZipEnd w b kind) := by
 have HD := Lib.hid hD
 have HR := Lib.hid hr
 have HAL := Lib.hid hal
 have hl : b.length = n := hr.len1
 have HL := Lib.hid hl
 have HH := Lib.hid (fun W => head_any 2 W (by omega))
 have HBY := Lib.hid (fun W => zfq (w := W) (adV_lt b))
 clear hD hr hal hl
 go_enter Tryz.func25, Tryz.ntmps25
 go_wp2_with fail
 refine HD.out.mono ?_
 rintro e w1 ⟨hb1, p, v, Z, k, rfl, hO, hk, hkk, hP, hw, hz⟩
 obtain ⟨a1, c1, rfl, hR1, -⟩ := Row.of_owns hO
 have HB1 := Lib.hid hb1
 have HP := Lib.hid (And.intro hk (And.intro hkk (And.intro hP (And.intro hw hz))))
 have hpl : p.length ≤ 200000 := by have := zeI hw; have := HL.out; omega
 have HR1 := Lib.hid hR1
 clear hb1 hO hk hkk hP hw hz hR1 HD
 go_wp2_with fail
 refine (HH.out _).mono ?_
 rintro e w2 ⟨hb2, vh, rfl, hOH⟩
 obtain ⟨ah, ch, rfl, hRH, -⟩ := Row.of_owns hOH
 rw [head2] at hRH
 have HB2 := Lib.hid (HB1.out.trans (hb2.mono HB1.out.size))
 have HRH := Lib.hid hRH
 have HR2 := Lib.hid (HR1.out.mono hb2)
 have HSU := Lib.hid (asum_any (HR.out.mono HB2.out) hb (fun x hx => Nat.lt_of_lt_of_le (HAL.out x hx) HB2.out.size))
 clear hb2 hOH hRH HR1 HB1
 go_wp2_with fail
 refine HSU.out.mono ?_
 rintro e w3 ⟨rfl, hb3⟩
 have HB3 := Lib.hid (HB2.out.trans (hb3.mono HB2.out.size))
 have HRH3 := Lib.hid (HRH.out.mono hb3)
 have HR3 := Lib.hid (HR2.out.mono hb3)
 clear hb3 HB2 HRH HR2 HSU
 go_wp2_with fail
 refine (HBY.out _).mono ?_
 rintro e w4 ⟨vs, rfl, hOS, hb4⟩
 obtain ⟨aS, cS, rfl, hRS, -⟩ := Row.of_owns hOS
 have HB4 := Lib.hid (HB3.out.trans (hb4.mono HB3.out.size))
 have hbA := zai w4 (.cells #[.slice ah 2 ch, .slice a1 p.length c1, .slice aS 4 cS] 22)
 have HB5 := Lib.hid (HB4.out.trans (hbA.mono HB4.out.size))
 have q1 := (HRH3.out.mono hb4).mono hbA
 have q2 := (HR3.out.mono hb4).mono hbA
 have q3 := hRS.mono hbA
 have HCAT := Lib.hid (by
   have h := catB (w := w4.alloc (.cells #[.slice ah 2 ch, .slice a1 p.length c1, .slice aS 4 cS] 22)) (a := some ⟨w4.heap.size, 0, none⟩) (cap := 3) (m := 3) (L := [(ah, ch, ([0x78, 0x9c] : List UInt8).map u8C), (a1, c1, p.map u8C), (aS, cS, (by4 (adV b)).map u8C)])
     (by
       have h := row_cells (w := w4) (t := 22) [.slice ah 2 ch, .slice a1 p.length c1, .slice aS 4 cS] (by simp)
       simpa [CatV, zem] using h)
     (fun r hr => by
       simp only [List.mem_cons, List.not_mem_nil, or_false] at hr
       rcases hr with rfl | rfl | rfl
       · exact q1
       · show Row _ 1 a1 (p.map u8C).length c1 (p.map u8C)
         rw [List.length_map]; exact q2
       · show Row _ 1 aS ((by4 (adV b)).map u8C).length cS ((by4 (adV b)).map u8C)
         rw [List.length_map, zem]; exact q3)
     (fun r hr => by
       simp only [List.mem_cons, List.not_mem_nil, or_false] at hr
       rcases hr with rfl | rfl | rfl
       · exact zfw _
       · exact zfw _
       · exact zfw _)
     (by omega)
     (by simp [CatL, zem]; omega)
   have e : CatL [(ah, ch, ([0x78, 0x9c] : List UInt8).map u8C), (a1, c1, p.map u8C), (aS, cS, (by4 (adV b)).map u8C)] = (zipB p b).map u8C := by
     simp [CatL, zipB]
   rw [e, List.length_map] at h
   exact h)
 clear hb4 hOS hRS hbA q1 q2 q3 HB3 HRH3 HR3 HB4
 go_wp2_with fail
 refine HCAT.out.mono ?_
 rintro e w6 ⟨v6, rfl, hO6, hb6⟩
 have HB6 := Lib.hid (HB5.out.trans (hb6.mono HB5.out.size))
 have HO6 := Lib.hid (zaI hO6 HB5.out.size)
 clear hO6 hb6 HCAT HB5
 go_wp2_with fail
 go_ret2
 obtain ⟨h1, h2, h3, h4, h5⟩ := HP.out
 exact ⟨HB6.out, p, v6, Z, k, rfl, HO6.out, h1, h2, h3, h4, h5⟩
theorem zip_unp {p b : List UInt8} {Z : List Bool} {k most : Nat} (hP : zdI 0 k true b Z) (hw : za5 p false Z) (hm : b.length ≤ most) (h16 : most ≤ 16777216) (behind : List UInt8) : unpM (zipB p b ++ behind) most = (b, (zipB p b).length, 0) := by
 unfold unpM
 rw [if_neg (by omega)]
 have h := unp_back (behind := behind) (most := most) (zbw.one (p := 0) hP) (by simp) hw hm
 rw [zdg]
 show unpV (zipB p b ++ behind) most = _
 rw [show zipB p b ++ behind = 0x78 :: 0x9c :: (p ++ (by4 (adV b) ++ behind)) from by simp [zipB]]
 exact h
theorem row_first2 {w : World} {a : Option Addr} {cap : Nat} {p b : List UInt8} (h : Row w 1 a (zipB p b).length cap ((zipB p b).map u8C)) : Row w 1 a 2 cap (([0x78, 0x9c] : List UInt8).map u8C) := by
 have hl := zdg p b
 obtain ⟨h1, h2, h3, h4, h5⟩ := h
 obtain ⟨bb, off, rfl, hb, hc⟩ := h5 (by omega)
 refine ⟨rfl, by omega, h3, h4, fun _ => ⟨bb, off, rfl, hb, fun j u hj => hc j u ?_⟩⟩
 unfold zipB
 match j, hj with
 | 0, hj => exact hj
 | 1, hj => exact hj
 | j + 2, hj => simp at hj
set_option maxRecDepth 20000 in
theorem works8_any (w : World) : Calls Tryz.prog 18 #[] w fun e w' => e = .returned (.bool true) ∧ Below w.heap.size w w' := by
 have kc := fun (W : World) (C : Array Value) (n c : Nat) => Lib.run_convert_bytes_const (P := Tryz.prog) W 22 5 C n c Tryz.underlying22 Tryz.underlying5
 have hrow : Row (w.alloc (.cells #[.int .u8 97] 5 (1, 2))) 1 (some ⟨w.heap.size, 0, none⟩) 1 1 (([97] : List UInt8).map u8C) :=
   ⟨rfl, Nat.le_refl _, by simp [maxLen], fun h => (by cases h), fun _ => ⟨_, _, rfl, by rw [zad]; omega, fun j u hj => by
     rw [Nat.zero_add, World.cell?_alloc_mark]; simpa [u8C] using hj⟩⟩
 have hal : ∀ x, some (⟨w.heap.size, 0, none⟩ : Addr) = some x → x.block < (w.alloc (.cells #[.int .u8 97] 5 (1, 2))).heap.size := fun x hx => by cases hx; rw [zad]; exact Nat.lt_succ_self _
 have HP := Lib.hid (zpack_of (zck (kind := 1) (b := [97]) (by omega) (fun h => by omega) hrow hal (by omega)) hrow hal (by omega))
 have HB := Lib.hid (zai w (.cells #[.int .u8 97] 5 (1, 2)))
 clear hrow hal
 go_enter Tryz.func18, Tryz.ntmps18
 go_wp2_with fail
 refine HP.out.mono ?_
 rintro e w1 ⟨hb1, p, v, Z, k, rfl, hO, -, hkk, hP, hw, -⟩
 obtain rfl := hkk (by omega)
 have hbl : p.length ≤ 100 := by
   rcases hP with ⟨h, -⟩ | ⟨-, ts, hts, rfl⟩ | ⟨h, -⟩
   · cases h
   · have h1 := fixB_le true (zbW hts)
     have h2 := zdF ts hts
     have h3 := zeI hw
     simp at h2
     omega
   · cases h
 obtain ⟨a1, c1, rfl, hR, -⟩ := Row.of_owns hO
 have hlen := zdg p [97]
 have HU := Lib.hid (zfh (b := zipB p [97]) 9 hR (fun x hx => (hO.lt x.block (by rw [hx]; rfl)).2) (by omega) (fun M hM _ => by
   have h := endI_le ((zipB p [97]).drop 2) M
   omega))
 have hv : unpM (zipB p [97]) 9 = ([97], (zipB p [97]).length, 0) := by
   have h := zip_unp hP hw (most := 9) (by decide) (by decide) []
   rw [List.append_nil] at h
   exact h
 rw [hv] at HU
 have HC1 := Lib.hid (row_first2 hR)
 have HB1 := Lib.hid (HB.out.trans (hb1.mono HB.out.size))
 obtain ⟨P, hPe⟩ : ∃ P, P = (zipB p [97]).length := ⟨_, rfl⟩
 rw [← hPe] at HU hlen ⊢
 have hP6 : 6 ≤ P ∧ P ≤ 200 := by omega
 clear hlen hb1 hO hkk hP hw hR hv hPe HP HB
 go_wp2_with fail
 refine HU.out.mono ?_
 rintro e w2 ⟨v2, B2, rfl, hO2, hb2⟩
 obtain ⟨a2, c2, rfl, -, -⟩ := Row.of_owns hO2
 have hcx : (convert 22 9 (.slice a2 ([97] : List UInt8).length c2)).run Tryz.prog w2 = .ok (.string (mkB7 [97])) w2 := zaW hO2
 have hcy : (convert 22 9 (.slice a1 ([0x78, 0x9c] : List UInt8).length c1)).run Tryz.prog w2 = .ok (.string (mkB7 [0x78, 0x9c])) w2 := zfa (HC1.out.mono hb2)
 have HB2 := Lib.hid (HB1.out.trans (hb2.mono HB1.out.size))
 have HCK := Lib.hid (check_any (Row.nil w2 1) (b := []))
 have hck : chkV [] = 10 := rfl
 rw [hck] at HCK
 have hcap : 2 ≤ c1 := HC1.out.2.1
 have hmin : ¬ ((P : Int) < 2) := by omega
 have hmin2 : (2 : Int) ≤ (P : Int) := by omega
 have hmn2 : min (2 : Int) (P : Int) = 2 := by omega
 have hc2 : (2 : Int) ≤ (c1 : Int) := by omega
 have hd2 : decide ((P : Int) < 2) = false := decide_eq_false (by omega)
 clear hO2 hb2 HU HC1 hck
 dsimp only [List.length_cons, List.length_nil] at hcx hcy ⊢
 have ht : ((mkB7 [97]).toList == [97]) = true := by kernel_rfl
 have ht2 : ((mkB7 [0x78, 0x9c]).toList == [120, 156]) = true := by kernel_rfl
 go_wp2_with fail
 refine HCK.out.mono ?_
 rintro e w3 ⟨rfl, q, rfl⟩
 have HB3 := Lib.hid (zak HB2.out q)
 go_wp2_with fail
 go_ret
 exact ⟨rfl, HB3.out⟩
theorem rzstored_any {w : World} {a : Option Addr} {n cap : Nat} {b : List UInt8} (hr : Row w 1 a n cap (b.map u8C)) (hn : n ≤ 60000) :
   Calls Tryz.prog 26 #[.slice a n cap] w fun e w' => ∃ v, e = .returned v ∧ w'.ownsRow w.heap.size 5 1 v (zipB (zby b) b).length ((zipB (zby b) b).map u8C) ∧ Below w.heap.size w w' := by
 have hl := hr.len1
 have HL := Lib.hid hl
 have HR := Lib.hid hr
 have HH := Lib.hid (fun W => rhead_any 2 W (by omega))
 have HST := Lib.hid (fun W (h : Below w.heap.size w W) => zeA (hr.mono h) hn)
 have HSU := Lib.hid (fun W (h : Below w.heap.size w W) => rsum_any (hr.mono h))
 have HBY := Lib.hid (fun W => zeM (w := W) (adV_lt b))
 have hlit := World.ownsRow_lit (base := w.heap.size) (e := 5) (size := 1) w #[] 0 (Nat.le_refl _) (by simp [maxLen]) (by simp)
 have HO0 := Lib.hid hlit
 have HB0 := Lib.hid (zai w (.cells #[] 5))
 clear hr hl hlit
 go_enter Tryz.func26, Tryz.ntmps26
 go_wp2_with fail
 refine (HH.out _).mono ?_
 rintro e w1 ⟨hb1, vh, rfl, hOH⟩
 obtain ⟨ah, ch, rfl, hRH, -⟩ := Row.of_owns hOH
 rw [head2] at hRH
 have HRH := Lib.hid hRH
 have HO1 := Lib.hid (zab HO0.out hb1)
 have HB1 := Lib.hid (HB0.out.trans (hb1.mono HB0.out.size))
 clear hb1 hOH hRH HO0 HB0
 go_wp2_with (at_builtin; refine zae ETB rfl (.tmp 4) (.tmp 5) rfl w.heap.size _ 0 _ rfl HO1.out _ 2 _ _ rfl HRH.out (zfw _) (by unfold maxLen; omega) (by omega) HB1.out.size ?_; intro v2 w2 hO2 hg2 _; have HO2 := Lib.hid hO2; have HB2 := Lib.hid (HB1.out.grown hg2 HB1.out.size (fun r e => (HO1.out.lt r e).1)); clear hO2 hg2; obtain ⟨av2, cv2, rfl, -, -⟩ := Row.of_owns HO2.out)
 refine (HST.out _ HB2.out).mono ?_
 rintro e w3 ⟨v3, rfl, hO3, hb3⟩
 obtain ⟨a3, c3, rfl, hR3, -⟩ := Row.of_owns hO3
 have HR3 := Lib.hid hR3
 have HO3 := Lib.hid (zab HO2.out hb3)
 have HB3 := Lib.hid (HB2.out.trans (hb3.mono HB2.out.size))
 clear hO3 hb3 hR3 HO2 HB2 HO1 HB1 HRH
 go_wp2_with (at_builtin; refine zae ETB rfl (.tmp 7) (.tmp 9) rfl w.heap.size _ (0 + 2) _ rfl HO3.out _ (n + 5) _ _ rfl HR3.out (zcB _) (by unfold maxLen; omega) (by omega) HB3.out.size ?_; intro v4 w4 hO4 hg4 _; have HO4 := Lib.hid hO4; have HB4 := Lib.hid (HB3.out.grown hg4 HB3.out.size (fun r e => (HO3.out.lt r e).1)); clear hO4 hg4; obtain ⟨av4, cv4, rfl, -, -⟩ := Row.of_owns HO4.out)
 refine (HSU.out _ HB4.out).mono ?_
 rintro e W ⟨rfl, rfl⟩
 go_wp2_with fail
 refine (HBY.out _).mono ?_
 rintro e w5 ⟨v5, rfl, hO5, hb5⟩
 obtain ⟨a5, c5, rfl, hR5, -⟩ := Row.of_owns hO5
 have HR5 := Lib.hid hR5
 have HO5 := Lib.hid (zab HO4.out hb5)
 have HB5 := Lib.hid (HB4.out.trans (hb5.mono HB4.out.size))
 clear hO5 hb5 hR5 HO4 HB4 HO3 HB3 HR3
 go_wp2_with (at_builtin; refine zae ETB rfl (.tmp 11) (.tmp 14) rfl w.heap.size _ (0 + 2 + (n + 5)) _ rfl HO5.out _ 4 _ _ rfl HR5.out (zcB _) (by unfold maxLen; omega) (by omega) HB5.out.size ?_; intro v6 w6 hO6 hg6 _; have HO6 := Lib.hid hO6; have HB6 := Lib.hid (HB5.out.grown hg6 HB5.out.size (fun r e => (HO5.out.lt r e).1)); clear hO6 hg6; obtain ⟨av6, cv6, rfl, -, -⟩ := Row.of_owns HO6.out)
 go_ret
 refine ⟨_, rfl, ?_, HB6.out⟩
 have h := HO6.out
 have e1 : (zipB (zby b) b).length = 0 + 2 + (n + 5) + 4 := by rw [zdg, stoBy_len, HL.out]; omega
 rw [e1]
 have e2 : (zipB (zby b) b).map u8C = (([] ++ ([0x78, 0x9c] : List UInt8).map u8C) ++ (zby b).map (fun x => .int .u8 x.toNat)) ++ (by4 (adV b)).map (fun x => .int .u8 x.toNat) := by
   simp [zipB]
   rfl
 rw [e2]
 exact h
theorem zpack_out {w : World} {a : Option Addr} {n cap : Nat} {kind : Int} (hk : kind < 0 ∨ 3 < kind) :
   Calls Tryz.prog 25 #[.slice a n cap, .int .i64 kind] w fun e w' => e = .returned (.tuple #[.slice none 0 0, .int .i64 2]) ∧ Below w.heap.size w w' := by
 have HD := Lib.hid (zec (w := w) (a := a) (n := n) (cap := cap) hk)
 go_enter Tryz.func25, Tryz.ntmps25
 go_wp2_with fail
 refine HD.out.mono ?_
 rintro e w1 ⟨rfl, hb⟩
 have HB := Lib.hid hb
 clear hb HD
 go_wp2_with fail
 go_ret2
 exact ⟨rfl, HB.out⟩
set_option maxRecDepth 20000 in
theorem law_zback (kind : Int) (a a0 : Option Addr) (cap cap0 : Nat) (b h0 : List UInt8) (w : World) (hr : Row w 1 a b.length cap (b.map u8C)) (hal : ∀ x, a = some x → x.block < w.heap.size) (hr0 : Row w 1 a0 h0.length cap0 (h0.map u8C)) :
   Calls Tryz.prog 7 #[.slice a b.length cap, .slice a0 h0.length cap0, .int .i64 kind] w fun e w' => e = .returned (.bool true) ∧ Below w.heap.size w w' := by
 have HW := Lib.hid (fun W => works8_any W)
 have hni : (b.length : Int) ≤ 9223372036854775807 := hr.i64
 have hni0 : (h0.length : Int) ≤ 9223372036854775807 := hr0.i64
 by_cases h1 : 1500 < b.length
 · have d1 : decide ((b.length : Int) > 1500) = true := decide_eq_true (by omega)
   clear hr hr0
   go_enter Tryz.func7, Tryz.ntmps7
   go_wp2_with fail
   refine (HW.out w).mono ?_
   rintro e w1 ⟨rfl, hb⟩
   have HB := Lib.hid hb
   clear hb
   go_wp2_with fail
   go_ret
   exact ⟨rfl, HB.out⟩
 have d1 : decide ((b.length : Int) > 1500) = false := decide_eq_false (by omega)
 by_cases h2 : 300 < h0.length
 · have d2 : decide ((h0.length : Int) > 300) = true := decide_eq_true (by omega)
   clear hr hr0
   go_enter Tryz.func7, Tryz.ntmps7
   go_wp2_with fail
   refine (HW.out w).mono ?_
   rintro e w1 ⟨rfl, hb⟩
   have HB := Lib.hid hb
   clear hb
   go_wp2_with fail
   go_ret
   exact ⟨rfl, HB.out⟩
 have d2 : decide ((h0.length : Int) > 300) = false := decide_eq_false (by omega)
 by_cases hk : kind < 0 ∨ 3 < kind
 · have HP := Lib.hid (zpack_out (w := w) (a := a) (n := b.length) (cap := cap) hk)
   have d34 : decide (kind < 0) = true ∨ (decide (kind < 0) = false ∧ decide (kind > 3) = true) := by
     by_cases q : kind < 0
     · exact .inl (decide_eq_true q)
     · exact .inr ⟨decide_eq_false q, decide_eq_true (by omega)⟩
   clear hr hr0 hk
   rcases d34 with d3 | ⟨d3, d4⟩ <;> (
     go_enter Tryz.func7, Tryz.ntmps7
     go_wp2_with fail
     refine HP.out.mono ?_
     rintro e w1 ⟨rfl, hb1⟩
     have HB1 := Lib.hid hb1
     clear hb1
     go_wp2_with fail
     refine (HW.out _).mono ?_
     rintro e w2 ⟨rfl, hb⟩
     have HB := Lib.hid (HB1.out.trans (hb.mono HB1.out.size))
     clear hb
     go_wp2_with fail
     go_ret
     exact ⟨rfl, HB.out⟩)
 obtain ⟨K, rfl⟩ : ∃ K : Nat, kind = K := ⟨kind.toNat, by omega⟩
 have d3 : decide ((K : Int) < 0) = false := decide_eq_false (by omega)
 have d4 : decide ((K : Int) > 3) = false := decide_eq_false (by omega)
 have HP := Lib.hid (zpack_of (kind := K) (zek (kind := K) (b := b) (by omega) hr hal (by omega)) hr hal (by omega))
 have HR := Lib.hid hr
 have HR0 := Lib.hid hr0
 obtain ⟨L, hL⟩ : ∃ L, L = b.length := ⟨_, rfl⟩
 obtain ⟨L0, hL0⟩ : ∃ L0, L0 = h0.length := ⟨_, rfl⟩
 rw [← hL] at HP HR d1 h1 hni ⊢
 rw [← hL0] at HR0 d2 h2 hni0 ⊢
 have HL := Lib.hid (And.intro hL hL0)
 clear hr hal hr0 hL hL0
 go_enter Tryz.func7, Tryz.ntmps7
 go_wp2_with fail
 refine HP.out.mono ?_
 rintro e w1 ⟨hb1, p, v, Z, k, rfl, hO, hk2, hkk, hP, hw, hzl⟩
 obtain ⟨a1, c1, rfl, hR, -⟩ := Row.of_owns hO
 have hpl : (zipB p b).length ≤ 20000 := by
   have h := hw.1
   rw [zdg]
   have := HL.out.1
   omega
 have HPF := Lib.hid (And.intro hkk (And.intro hP hw))
 have HO1 := Lib.hid hO
 have HB1 := Lib.hid hb1
 obtain ⟨P, hPe⟩ : ∃ P, P = (zipB p b).length := ⟨_, rfl⟩
 rw [← hPe] at HO1 hpl hR ⊢
 have HPE := Lib.hid hPe
 have hlit := World.ownsRow_lit (base := w1.heap.size) (e := 5) (size := 1) w1 #[] 0 (Nat.le_refl _) (by simp [maxLen]) (by simp)
 have HLIT := Lib.hid hlit
 have hbA := zai w1 (.cells #[] 5)
 have HBA := Lib.hid hbA
 have HRA := Lib.hid (hR.mono hbA)
 have HR0A := Lib.hid (HR0.out.mono (hb1.trans (hbA.mono hb1.size)))
 clear hb1 hO hkk hP hw hzl hR hPe hlit hbA HP
 go_wp2_with (first
   | (at_builtin; refine zae ETB rfl (.tmp 47) (.tmp 48) rfl w1.heap.size _ 0 _ rfl HLIT.out _ P _ _ rfl HRA.out (zfw _) (by unfold maxLen; omega) (by omega) (by rw [zad]; omega) ?_; intro v2 w2 hO2 hg2 _; rw [Nat.zero_add, List.nil_append] at hO2; have HO2 := Lib.hid hO2; have HB2 := Lib.hid (HBA.out.grown hg2 (by rw [zad]; omega) (fun r e => (HLIT.out.lt r e).1)); clear hO2 hg2; obtain ⟨av2, cv2, rfl, -, -⟩ := Row.of_owns HO2.out)
   | (at_builtin; refine zae ETB rfl (.tmp 49) (.tmp 50) rfl w1.heap.size _ P _ rfl HO2.out _ L0 _ _ rfl (HR0.out.mono (HB1.out.trans (HB2.out.mono HB1.out.size))) (zfw _) (by unfold maxLen; omega) (by omega) HB2.out.size ?_; intro v3 w3 hO3 hg3 _; have HO3 := Lib.hid hO3; have HB3 := Lib.hid (HB2.out.grown hg3 HB2.out.size (fun r e => (HO2.out.lt r e).1)); clear hO3 hg3; obtain ⟨av3, cv3, rfl, -, -⟩ := Row.of_owns HO3.out))
 have hq : ((zipB p b).map u8C ++ h0.map u8C) = (zipB p b ++ h0).map u8C := by rw [List.map_append]
 have hR3 := (Row.of_own HO3.out).2
 rw [hq] at hR3
 have hql : (zipB p b ++ h0).length = P + L0 := by rw [List.length_append, ← HPE.out, ← HL.out.2]
 have hR3b : Row w3 1 av3 (zipB p b ++ h0).length cv3 ((zipB p b ++ h0).map u8C) := by rw [hql]; exact hR3
 have hal3 : ∀ x, av3 = some x → x.block < w3.heap.size := fun x hx => (HO3.out.lt x.block (by rw [hx]; rfl)).2
 have hv : unpM (zipB p b ++ h0) (L : Int) = (b, P, 0) := by
   have h := zip_unp HPF.out.2.1 HPF.out.2.2 (most := L) (by have := HL.out.1; omega) (by omega) h0
   rw [h, HPE.out]
 have HU := Lib.hid (by
   have h := zfh (L : Int) hR3b hal3 (by rw [hql]; omega) (fun M hM _ => by
     have h1 := endI_le ((zipB p b ++ h0).drop 2) M
     omega)
   rw [hql, hv] at h
   exact h)
 have HRU := Lib.hid (fun W (hb : Below w3.heap.size w3 W) => by
   have h := runpack_any (w := W) (L : Int) (hR3b.mono hb) (fun x hx => Nat.lt_of_lt_of_le (hal3 x hx) hb.size) (by rw [hql]; omega)
   rw [hql, hv] at h
   exact h)
 have hb13 : Below w1.heap.size w1 w3 := HB3.out
 have HB3' := Lib.hid (HB1.out.trans (hb13.mono HB1.out.size))
 have HO1 := Lib.hid (zab HO1.out hb13)
 clear hq hR3 hql hR3b hal3 hv hb13 HO2 HB2 HO3 HB3 HLIT HBA HRA HR0A HB1
 go_wp2_with fail
 refine HU.out.mono ?_
 rintro e w4 ⟨v4, B4, rfl, hO4, hb4⟩
 obtain ⟨a4, c4, rfl, -, -⟩ := Row.of_owns hO4
 have HO4 := Lib.hid hO4
 have HB4 := Lib.hid hb4
 clear hO4 hb4 HU
 go_wp2_with fail
 refine (HRU.out _ HB4.out).mono ?_
 rintro e w5 ⟨v5, B5, rfl, hO5, hb5⟩
 obtain ⟨a5, c5, rfl, -, -⟩ := Row.of_owns hO5
 have hb35 : Below w3.heap.size w3 w5 := HB4.out.trans (hb5.mono HB4.out.size)
 have HB5 := Lib.hid (HB3'.out.trans (hb35.mono HB3'.out.size))
 have hO4 := zab HO4.out hb5
 have hO1 := zab HO1.out hb35
 dsimp only at hO4 hO5
 rw [HPE.out] at hO1 ⊢
 rw [← HL.out.1] at hO4 hO5 ⊢
 have hRw := HR.out.mono HB5.out
 have hcx : ∀ W, Below w5.heap.size w5 W → (convert 22 9 (.slice a4 L c4)).run Tryz.prog W = .ok (.string (mkB7 b)) W := fun W h => by
   have h2 := zaW (o := b) (by rw [← HL.out.1]; exact zab hO4 h)
   exact h2
 have hcy : ∀ W, Below w5.heap.size w5 W → (convert 22 9 (.slice a5 L c5)).run Tryz.prog W = .ok (.string (mkB7 b)) W := fun W h => by
   have h2 := zaW (o := b) (by rw [← HL.out.1]; exact zab hO5 h)
   exact h2
 have hcb : ∀ W, Below w5.heap.size w5 W → (convert 22 9 (.slice a L cap)).run Tryz.prog W = .ok (.string (mkB7 b)) W := fun W h => by
   have h2 := zfa (bs := b) (a := a) (cap := cap) (by rw [← HL.out.1]; exact hRw.mono h)
   rw [← HL.out.1] at h2
   exact h2
 have hcp : ∀ W, Below w5.heap.size w5 W → (convert 22 9 (.slice a1 (zipB p b).length c1)).run Tryz.prog W = .ok (.string (mkB7 (zipB p b))) W := fun W h => zaW (o := zipB p b) (zab hO1 h)
 have e1 : Below w5.heap.size w5 w5.drew := (Below.refl _ _).drew
 have HWK := Lib.hid (fun W (h : Below w5.heap.size w5 W) => (HW.out W).mono (R' := fun e w' => e = .returned (.bool true) ∧ Below w5.heap.size w5 w') fun e w' ⟨he, hb⟩ => ⟨he, h.trans (hb.mono h.size)⟩)
 have HST := Lib.hid (fun W (h : Below w5.heap.size w5 W) => (rzstored_any (hRw.mono h) (by omega)).mono (R' := fun e w' => Below w5.heap.size w5 w' ∧ Below w'.heap.size w' w' ∧ ∃ aS cS, e = .returned (.slice aS (zipB (zby b) b).length cS) ∧ ∀ W', Below w'.heap.size w' W' → (convert 22 9 (.slice aS (zipB (zby b) b).length cS)).run Tryz.prog W' = .ok (.string (mkB7 (zipB (zby b) b))) W') fun e w' ⟨v, he, hO, hb⟩ => by
   obtain ⟨aS, cS, rfl, -, -⟩ := Row.of_owns hO
   exact ⟨h.trans (hb.mono h.size), Below.refl _ _, aS, cS, he, fun W' h' => zaW (o := zipB (zby b) b) (zab hO h')⟩)
 have HPS := Lib.hid (show K = 0 → p = zby b from fun h => by
   obtain ⟨hkk, hP, hw⟩ := HPF.out
   rw [hkk (by omega)] at hP
   rcases hP with ⟨-, -, rfl⟩ | ⟨h2, -⟩ | ⟨h2, -⟩
   · exact zeh hw (by have := HL.out.1; omega)
   · omega
   · omega)
 clear hO1 hO4 hO5 hb5 hb35 HO1 HO4 HB4 HRU HR HR0 HPF hRw HPE
 by_cases hk0 : K = 0
 · subst hk0
   obtain rfl := HPS.out rfl
   clear HPS
   generalize mkB7 b = x at *
   generalize mkB7 (zipB (zby b) b) = y at *
   generalize (zipB (zby b) b).length = P2 at *
   go_upto_region 9 with fail
   go_cut [6] from 68 (fun v wc => v = .bool true ∧ Hid (Below w5.heap.size w5 wc))
   case first =>
     go_region_held_law (fun w' => Below w5.heap.size w5 w') (first | assumption) (first
       | (go_at_call 26; refine (HST.out _ (by assumption)).mono ?_; rintro e wS ⟨hbS, hbSr, aS, cS, rfl, hcS⟩)
       | (go_at_call 18; refine (HWK.out _ (by assumption)).mono ?_; rintro e wW ⟨rfl, hbW⟩; have HbW := Lib.hid hbW))
     all_goals (try go_wp2_with fail)
     all_goals go_meet
     all_goals exact ⟨rfl, HbW⟩
   case rest =>
   obtain ⟨rfl, HBC⟩ := hcut
   have HB6 := Lib.hid (HB5.out.trans (HBC.out.mono HB5.out.size))
   go_wp2_with fail
   go_ret
   exact ⟨rfl, HB6.out⟩
 · have hk3 : K = 1 ∨ K = 2 ∨ K = 3 := by omega
   clear HPS HST HWK
   have qx := fun q : zbS w5 => hcx q.w q.h
   have qy := fun q : zbS w5 => hcy q.w q.h
   have qb := fun q : zbS w5 => hcb q.w q.h
   clear hcx hcy hcb hcp e1
   generalize mkB7 b = x at *
   generalize (zipB p b).length = P2 at *
   rcases hk3 with rfl | rfl | rfl <;> (
     go_upto_region 9 with fail
     refine zcy (by kernel_rfl) (by kernel_rfl) ?_
     repeat (go_big_quiet_step ((go_at_call 18; with_reducible exact Calls.below_of (HW.out _))))
     refine wpQuiet_nil ?_
     rintro _ ⟨⟨w9, hb9⟩, rfl⟩
     have HB9 := Lib.hid (HB5.out.trans (hb9.mono HB5.out.size))
     clear hb9
     go_wp2_with fail
     go_ret
     exact ⟨rfl, HB9.out⟩)
end Go.Proofs.YtkikhmdpcanidaaGreat
