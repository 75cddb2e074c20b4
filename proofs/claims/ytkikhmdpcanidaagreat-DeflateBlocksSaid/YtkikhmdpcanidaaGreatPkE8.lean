/-
  Our texts Rd7 to Lz5, in one.
-/
import Derived.Test.YtkikhmdpcanidaaGreatPkE7
import Derived.Deep.Cut
import Derived.Deep.CutRange
import Derived.BigQuiet
import Derived.BigRegion
import Derived.Deep.RegionHeld
import Derived.Maps.OwnSet
import Derived.WideKeyArr
set_option maxRecDepth 8000
set_option maxHeartbeats 8000000
namespace Go.Proofs.YtkikhmdpcanidaaGreat
open Go.RowKit Go.Sort
theorem ze4 {w' : World} {base : Nat} {v : Value} {a : Option Addr} {n c : Nat} {xs : List Value} (hO : w'.ownsRow base 3 1 v n xs) (hv : v = .slice a n c) : ∀ x, a = some x → base ≤ x.block ∧ x.block < w'.heap.size := fun x hx => hO.lt x.block (by rw [hv, hx]; rfl)
set_option maxRecDepth 20000 in
theorem rfixed_new (w : World) : Calls Tryz.prog 39 #[] w fun e w' => ∃ a c b f, e = .returned (.tuple #[.slice a 288 c, .slice b 30 f]) ∧ Row w' 1 a 288 c (iV fixL) ∧ Row w' 1 b 30 f (iV fixD) ∧ (∀ x, a = some x → w.heap.size ≤ x.block ∧ x.block < w'.heap.size) ∧ (∀ x, b = some x → w.heap.size ≤ x.block ∧ x.block < w'.heap.size) ∧ Below w.heap.size w w' := by
 go_enter Tryz.func39, Tryz.ntmps39
 go_wp2
 go_loopw [2, 4] (fun vo vk wr => ∃ k : Nat, vk = .int .i64 k ∧ k ≤ 288 ∧ Hid (wr.ownsRow w.heap.size 3 1 vo k (iV (fixA k))) ∧ Hid (Below w.heap.size w wr)) (fun _ vk _ => 288 - (intOf vk).toNat)
 case atStart => exact ⟨0, rfl, Nat.zero_le _, Lib.hid (World.ownsRow_nil _ _ _ _), Lib.hid (Below.refl _ _)⟩
 case round =>
   obtain ⟨k, rfl, hk, HO, HW⟩ := hrel
   obtain ⟨a0, c0, hv, -, -⟩ := Row.of_owns HO.out
   subst hv
   have hsz := HW.out.size
   by_cases hlt : k < 288
   · obtain ⟨v, hv⟩ : ∃ v, (if k < 144 ∨ 279 < k then (8 : Int) else if k < 256 then 9 else 7) = v := ⟨_, rfl⟩
     have HSN := Lib.hid (fixA_snoc k v hv)
     have hway : (k < 144 ∧ v = 8) ∨ (144 ≤ k ∧ k < 256 ∧ v = 9) ∨ (256 ≤ k ∧ k < 280 ∧ v = 7) ∨ (280 ≤ k ∧ v = 8) := by
       by_cases q1 : k < 144
       · exact .inl ⟨q1, by rw [← hv, if_pos (.inl q1)]⟩
       · by_cases q2 : 279 < k
         · exact .inr (.inr (.inr ⟨by omega, by rw [← hv, if_pos (.inr q2)]⟩))
         · by_cases q3 : k < 256
           · exact .inr (.inl ⟨by omega, q3, by rw [← hv, if_neg (by omega), if_pos q3]⟩)
           · exact .inr (.inr (.inl ⟨by omega, by omega, by rw [← hv, if_neg (by omega), if_neg q3]⟩))
     clear hv
     rcases hway with ⟨q1, rfl⟩ | ⟨q1, q2, rfl⟩ | ⟨q1, q2, rfl⟩ | ⟨q1, rfl⟩
     all_goals
       go_wp2_with (at_builtin; refine zae EInt rfl (.tmp 23) (.tmp 25) rfl w.heap.size _ k _ rfl (HO.out.alloc _) _ 1 _ _ rfl (zaS _ _ _) (zfy _) (by unfold maxLen; omega) (by omega) (by rw [zad]; omega) ?_; intro v' w5 hO5 hg5 hnil5; have HO5 := Lib.hid hO5; have HG5 := Lib.hid hg5; clear hO5 hg5 hnil5)
       go_roundw
       case rel => exact ⟨k + 1, by go_num, by omega, Lib.hid (by rw [HSN.out, iV, List.map_append]; exact HO5.out), Lib.hid ((HW.out.alloc hsz _).grown HG5.out (by rw [zad]; omega) (fun q hq => (HO.out.lt q hq).1))⟩
       case measure => simp [intOf]; omega
   · have hk8 : k = 288 := by omega
     have HL := Lib.hid (show fixA k = fixL by rw [hk8, zfX])
     have HK := Lib.hid hk8
     have hki : decide ((k : Int) < 288) = false := decide_eq_false (by omega)
     have hki2 : decide (k < 288) = false := decide_eq_false (by omega)
     clear hk8
     obtain ⟨w1, hw1⟩ : ∃ w1, w1 = wr := ⟨_, rfl⟩
     subst hw1
     go_wp2
     go_loopw [3, 6] (fun vo vk w2 => ∃ k : Nat, vk = .int .i64 k ∧ k ≤ 30 ∧ Hid (w2.ownsRow w1.heap.size 3 1 vo k (iV (List.replicate k 5))) ∧ Hid (Below w1.heap.size w1 w2)) (fun _ vk _ => 30 - (intOf vk).toNat)
     case atStart => exact ⟨0, rfl, Nat.zero_le _, Lib.hid (World.ownsRow_nil _ _ _ _), Lib.hid (Below.refl _ _)⟩
     case round =>
       obtain ⟨j, rfl, hj, HO2, HW2⟩ := hrel
       obtain ⟨a2, c2, hv, -, -⟩ := Row.of_owns HO2.out
       subst hv
       have hsz2 := HW2.out.size
       by_cases hlt2 : j < 30
       · have HSN := Lib.hid (show List.replicate (j + 1) (5 : Int) = List.replicate j 5 ++ [5] from by rw [List.replicate_succ'])
         go_wp2_with (at_builtin; refine zae EInt rfl (.tmp 31) (.tmp 32) rfl w1.heap.size _ j _ rfl (HO2.out.alloc _) _ 1 _ _ rfl (zaS _ _ _) (zfy _) (by unfold maxLen; omega) (by omega) (by rw [zad]; omega) ?_; intro v' w5 hO5 hg5 hnil5; have HO5 := Lib.hid (show w5.ownsRow w1.heap.size 3 1 v' (j + 1) (iV (List.replicate (j + 1) 5)) from by rw [HSN.out, iV, List.map_append]; exact hO5); have HG5 := Lib.hid hg5; clear hO5 hg5 hnil5)
         go_roundw
         case rel => exact ⟨j + 1, by go_num, by omega, HO5, Lib.hid ((HW2.out.alloc hsz2 _).grown HG5.out (by rw [zad]; omega) (fun q hq => (HO2.out.lt q hq).1))⟩
         case measure => simp [intOf]; omega
       · obtain rfl : j = 30 := by omega
         go_wp2
         go_ret2
         have h1 := (Row.of_own (zab HO.out HW2.out)).2
         have h2 := (Row.of_own HO2.out).2
         rw [HL.out] at h1
         have h3 : iV (List.replicate 30 5) = iV fixD := rfl
         rw [h3] at h2
         have hsz := HW2.out.size
         refine ⟨a0, c0, a2, c2, by rw [HK.out]; rfl, by rw [← HK.out]; exact h1, h2, fun x hx => ?_, fun x hx => ?_, HW.out.trans (HW2.out.mono HW.out.size)⟩
         · have := ze4 HO.out rfl x hx; omega
         · have := ze4 HO2.out rfl x hx; have := HW.out.size; omega
theorem numV_bit (bs : List UInt8) (s : IS) : (numV bs 1 s).1 < 2 := zau bs 1 s
theorem num_at {bs : List UInt8} {n : Nat} {s : IS} (h : (numV bs n s).2.e = 0) : (numV bs n s).2.at_ = s.at_ + n := by
 have h0 := zbC h
 have hn0 : ¬ s.e ≠ 0 := by simp [h0]
 unfold numV at h ⊢
 simp only [if_neg hn0] at h ⊢
 split at h
 · cases h
 · rename_i h1; rw [if_neg h1]
theorem MO.coded {bs : List UInt8} {most : Nat} {l d : List Int} : ∀ g s s', zaP bs most l d g s = some s' → MO s s'
 | 0, _, _, h => by cases h
 | g + 1, s, s', h => by
   unfold zaP at h
   split at h
   · exact ((MO.sym _ _ _).trans (MO.code _ _ _ _ _)).trans (MO.coded g _ _ h)
   · cases h; exact (MO.sym _ _ _).trans (MO.code _ _ _ _ _)
theorem MO.lensC_ {bs : List UInt8} {l out : List Int} {s : IS} {k : Nat} {v : Int} {s2 : IS} (h : zdy bs l out s = some (k, v, s2)) : MO s s2 := by
 have h0 := MO.sym bs l s
 unfold zdy at h
 split at h
 · split at h
   · cases h
   · cases h; exact h0.trans (MO.num _ _ _)
 · split at h
   · cases h; exact h0.trans (MO.num _ _ _)
   · split at h
     · cases h; exact h0.trans (MO.num _ _ _)
     · cases h; exact h0
theorem MO.lens {bs : List UInt8} {l : List Int} {n : Nat} : ∀ g out s V, za9 bs l n g out s = some V → MO s V.2
 | 0, _, _, _, h => by cases h
 | g + 1, out, s, V, h => by
   unfold za9 at h
   split at h
   · cases h; exact MO.refl _
   · split at h
     · exact ((MO.sym _ _ _).trans (MO.fail _ (by decide) _)).trans (MO.lens g _ _ V h)
     · rename_i hc
       split at h
       · exact ((MO.lensC_ hc).trans (MO.fail _ (by decide) _)).trans (MO.lens g _ _ V h)
       · exact (MO.lensC_ hc).trans (MO.lens g _ _ V h)
theorem MO.dyn (bs : List UInt8) (s : IS) : MO s (dynS bs s) := by
 have h : MO s (dyn3 bs s).2 := ((MO.num bs 5 s).trans (MO.num bs 5 _)).trans (MO.num bs 4 _)
 unfold dynS
 split
 · exact h.trans (MO.fail _ (by decide) _)
 · exact h
theorem MO.dynL {bs : List UInt8} {g : Nat} {s : IS} {V : List Int × IS} (h : dynL bs g s = some V) : MO s V.2 :=
 (((MO.dyn bs s).trans (MO.of bs _ _)).trans (MO.tab _ _)).trans (MO.lens _ _ _ _ h)
theorem MO.stored (bs : List UInt8) (most : Nat) (s : IS) : MO s (zbe bs most s) := by
 have ma : MO s (alV s) := fun h => ⟨h, by unfold alV; simp only; omega⟩
 unfold zbe
 refine MO.trans ?_ (MO.sto _ _ _ _)
 split
 · exact (ma.trans (MO.num _ _ _)).trans (MO.num _ _ _)
 · exact ((ma.trans (MO.num _ _ _)).trans (MO.num _ _ _)).trans (MO.fail _ (by decide) _)
theorem MO.kind {bs : List UInt8} {most g kind : Nat} {s s' : IS} (h : zbU bs most g kind s = some s') : MO s s' := by
 unfold zbU at h
 split at h
 · cases h; exact MO.refl _
 · split at h
   · cases h; exact MO.stored _ _ _
   · split at h
     · exact MO.coded _ _ _ h
     · split at h
       · unfold dynB at h
         split at h
         · cases h
         · rename_i V hV
           exact ((MO.dynL hV).trans (MO.tabs _ _)).trans (MO.coded _ _ _ h)
       · cases h; exact MO.fail _ (by decide) _
theorem rat_block {bs : List UInt8} {most g : Nat} {s s2 : IS} (h : zbU bs most g (numV bs 2 (numV bs 1 s).2).1 (numV bs 2 (numV bs 1 s).2).2 = some s2) (he : s2.e = 0) : s.at_ + 1 ≤ s2.at_ := by
 have h1 := MO.kind h he
 have h2 := num_at h1.1
 have h3 := num_at (zbC h1.1)
 omega
theorem bitsL_bl5 (bs : List UInt8) (m : Nat) : bitsL bs false m = (bl bs false 0 m).map Value.bool := by simp [bitsL, bl]
theorem infl_step {bs : List UInt8} {most g n : Nat} {s1 s : IS} (h : zbV bs most g n s1 = some s) : ∃ n' S3, zbU bs most g (numV bs 2 (numV bs 1 s1).2).1 (numV bs 2 (numV bs 1 s1).2).2 = some S3 ∧ ((numV bs 1 s1).1 = 0 ∧ S3.e = 0 → zbV bs most g n' S3 = some s) ∧ (¬ ((numV bs 1 s1).1 = 0 ∧ S3.e = 0) → s = S3) := by
 cases n with
 | zero => cases h
 | succ n =>
   unfold zbV zbM at h
   cases hk : zbU bs most g (numV bs 2 (numV bs 1 s1).2).1 (numV bs 2 (numV bs 1 s1).2).2 with
   | none => rw [hk] at h; cases h
   | some S3 =>
     rw [hk] at h
     simp only [Option.map_some] at h
     have hb := numV_bit bs s1
     refine ⟨n, S3, rfl, fun ⟨h1, h2⟩ => ?_, fun hn => ?_⟩
     · rw [if_neg (by unfold endV; simp [h1, h2])] at h
       exact h
     · have ht : (endV (numV bs 1 s1).1 S3).1 = true := by
         unfold endV
         by_cases h2 : S3.e = 0
         · have h1 : (numV bs 1 s1).1 = 1 := by
             have : ¬ (numV bs 1 s1).1 = 0 := fun h1 => hn ⟨h1, h2⟩
             omega
           simp [h1]
         · simp [h2]
       rw [if_pos ht] at h
       exact (Option.some.inj h).symm
set_option maxRecDepth 100000 in
theorem rinflate_any (w : World) (a : Option Addr) (cap most : Nat) (bs : List UInt8) (hr : Row w 1 a bs.length cap (bs.map u8C)) (hbl : bs.length ≤ 100000) (hm : most ≤ 16777216) (g n : Nat) {s : IS} (hg : zbV bs most g n ⟨0, 0, []⟩ = some s) :
   Calls Tryz.prog 13 #[.slice a bs.length cap, .int .i64 most] w (zcW s w) := by
 have HB := Lib.hid (bits_any a cap bs false w hr (by omega))
 have hd1 : decide ((most : Int) < 0) = false := decide_eq_false (by omega)
 have hd2 : decide ((16777216 : Int) < most) = false := decide_eq_false (by omega)
 have hd3 : decide (16777216 < most) = false := decide_eq_false (by omega)
 have HG := Lib.hid hg
 clear hr hg
 go_enter Tryz.func13, Tryz.ntmps13
 go_wp2_with fail
 refine HB.out.mono ?_
 rintro e w1 ⟨v, rfl, hO, hb⟩
 obtain ⟨aB, cB, hv, hrow, -⟩ := Row.of_owns hO
 subst hv
 rw [bitsL_bl5] at hrow hO
 obtain ⟨rb, hrb⟩ : ∃ rb, rb = w1.heap.size := ⟨_, rfl⟩
 have HST := Lib.hid (show IsR (w1.alloc (.cells #[.slice aB (8 * bs.length) cB, .int .i64 0, .int .i64 0, .slice none 0 0, .int .i64 most] 66)) (fun b => b = rb) rb aB cB bs most ⟨0, 0, []⟩ from
   ⟨⟨.slice none 0 0, zah _ hrb, World.ownsRow_nil _ _ _ _, fun b hb => (by cases hb)⟩, hrow.mono (zai _ _), fun x hx => by rw [hrb]; exact (hO.lt x.block (by rw [hx]; rfl)).2, Nat.zero_le _, rfl, fun b hb => by rw [zad]; omega⟩)
 have HBE := Lib.hid (hb.trans ((zai w1 (.cells #[.slice aB (8 * bs.length) cB, .int .i64 0, .int .i64 0, .slice none 0 0, .int .i64 most] 66)).mono hb.size))
 have HRB := Lib.hid (show w.heap.size ≤ rb by rw [hrb]; exact hb.size)
 clear hO hb hrow
 go_wp2_with fail
 rw [← hrb]
 generalize w1.alloc (.cells #[.slice aB (8 * bs.length) cB, .int .i64 0, .int .i64 0, .slice none 0 0, .int .i64 most] 66) = W2 at *
 clear hrb
 go_loopw [8, 9] (fun vl vn wr => ∃ (k lst : Nat) (U1 : Nat → Prop) (s1 : IS), vl = .int .i64 lst ∧ vn = .int .i64 k ∧ lst < 2 ∧ Hid (IsR wr U1 rb aB cB bs most s1) ∧ Hid (Below w.heap.size w wr) ∧ Hid (∀ b, U1 b → w.heap.size ≤ b) ∧ Hid (s1.out.length ≤ most) ∧ Hid (lst = 0 ∧ s1.e = 0 → k ≤ s1.at_ ∧ ∃ n, zbV bs most g n s1 = some s) ∧ Hid (¬ (lst = 0 ∧ s1.e = 0) → s = s1)) (fun _ vn _ => 8 * bs.length + 1 - (intOf vn).toNat)
 case atStart => exact ⟨0, 0, _, ⟨0, 0, []⟩, rfl, rfl, by omega, HST, HBE, Lib.hid (fun b hb => by rw [hb]; exact HRB.out), Lib.hid (Nat.zero_le _), Lib.hid (fun _ => ⟨Nat.le_refl _, n, HG.out⟩), Lib.hid (fun h => absurd ⟨rfl, rfl⟩ h)⟩
 case round =>
   obtain ⟨k, lst, U1, s1, rfl, rfl, hl2, HS, HB1, HU1, HO1, HRUN, HEND⟩ := hrel
   clear HST HBE HG
   obtain ⟨c0, c1, c2, c4, f1, f2, f3⟩ := HS.out.cells
   have hat := HS.out.le
   obtain ⟨L, hL⟩ : ∃ L, L = 8 * bs.length := ⟨_, rfl⟩
   have HL := Lib.hid hL
   rw [← hL] at hat
   have j1 : (8 : Int) * (bs.length : Int) = (L : Int) := by omega
   have j2 : IntKind.i64.wrap (L : Int) = (L : Int) := IntWalk.i64_in _ (by omega)
   by_cases hact : lst = 0 ∧ s1.e = 0
   · obtain ⟨rfl, he⟩ := hact
     obtain ⟨hk, n', hn'⟩ := HRUN.out ⟨rfl, he⟩
     obtain ⟨n2, S3, hS3, hgo, hst⟩ := infl_step hn'
     have HAT := Lib.hid (fun h0 : S3.e = 0 => rat_block hS3 h0)
     have HLE := Lib.hid (kindO_le hS3 (by rw [zaB, zaB]; exact HO1.out))
     have hd : decide ((k : Int) ≤ (L : Int)) = true := decide_eq_true (by omega)
     have hdn : decide (k ≤ L) = true := decide_eq_true (by omega)
     have HKL := Lib.hid (show k ≤ 8 * bs.length by omega)
     have HKA := Lib.hid hk
     have HN1 := Lib.hid (zaY HS.out 1 (by omega) (by omega))
     have HN2 := Lib.hid (fun (W : World) (hW : IsR W U1 rb aB cB bs most (numV bs 1 s1).2) => zaY hW 2 (by omega) (by omega))
     have hb1 := numV_bit bs s1
     have hb2 := zau bs 2 (numV bs 1 s1).2
     have ho2 : (numV bs 2 (numV bs 1 s1).2).2.out.length ≤ most := by rw [zaB, zaB]; exact HO1.out
     change Hid (Calls _ _ #[_, .int .i64 1] wr fun x w' => x = .returned (.int .i64 ((numV bs 1 s1).1 : Nat)) ∧ IsR w' U1 rb aB cB bs most (numV bs 1 s1).2 ∧ zaa U1 wr w') at HN1
     change Hid (∀ W, _ → Calls _ _ #[_, .int .i64 2] W fun x w' => x = .returned (.int .i64 ((numV bs 2 (numV bs 1 s1).2).1 : Nat)) ∧ IsR w' U1 rb aB cB bs most (numV bs 2 (numV bs 1 s1).2).2 ∧ zaa U1 W w') at HN2
     generalize numV bs 2 (numV bs 1 s1).2 = x2 at *
     generalize numV bs 1 s1 = x1 at *
     obtain ⟨a1, sA⟩ := x1
     obtain ⟨kd, sB⟩ := x2
     dsimp only at *
     have HGO := Lib.hid hgo
     have HSTOP := Lib.hid hst
     have HS3 := Lib.hid hS3
     have HO2 := Lib.hid ho2
     rw [he] at c2
     clear hn' hS3 hgo hst hk ho2 hL HRUN HEND hat
     go_wp2_with fail
     refine HN1.out.mono ?_
     rintro e w3 ⟨rfl, p1, k1⟩
     have HN2 := Lib.hid (HN2.out _ p1)
     have HK1 := Lib.hid k1
     clear p1 k1
     go_wp2_with fail
     refine HN2.out.mono ?_
     rintro e w4 ⟨rfl, p2, k2⟩
     have HS4 := Lib.hid p2
     have HK4 := Lib.hid (HK1.out.trans k2 (fun _ hb => .inl hb))
     have HX := Lib.hid (fun (W : World) (h : zbk w4 U1 rb aB cB bs most S3 W) => zbk.trans HK4.out (fun _ hb => .inl hb) h)
     obtain ⟨d0, d1, d2, d4, g1, g2, g3⟩ := p2.cells
     clear p2 k2 c0 c1 c2 c4 f1 f2 f3 HN1 HN2 HK1
     by_cases he : sB.e = 0
     · rw [he] at d2
       have hs3 := HS3.out
       unfold zbU at hs3
       rw [if_neg (by simp [he])] at hs3
       have HE := Lib.hid he
       clear he
       by_cases k0 : kd = 0
       · subst k0
         rw [if_pos rfl] at hs3
         have HST := Lib.hid (rsto_any HS4.out (by omega) (by omega) HO2.out)
         rw [Option.some.inj hs3] at HST
         clear hs3
         go_wp2_with fail
         refine HST.out.mono ?_
         rintro e w5 ⟨rfl, h5⟩
         have H5 := Lib.hid h5
         clear h5
         obtain ⟨U2, z1, z2, z3⟩ := H5.out
         have hk9 := HK4.out.trans z2 (fun _ hb => .inl hb)
         have HZ1 := Lib.hid z1
         have HZ2 := Lib.hid (HB1.out.trans (hk9.below HB1.out.size HU1.out))
         have HZ3 := Lib.hid (show ∀ b, U2 b → w.heap.size ≤ b from fun b hb => (z3 b hb).elim (HU1.out b) (fun h => by have := HB1.out.size; have := HK4.out.size; omega))
         have hkl := HKL.out
         clear d0 d1 d2 d4 g1 g2 g3 z1 z2 z3 hk9
         go_wp2
         go_roundw
         case rel => exact ⟨k + 1, a1, U2, S3, rfl, by go_num, hb1, HZ1, HZ2, HZ3, HLE, Lib.hid (fun h => ⟨by have h1 := HAT.out h.2; have h2 := HKA.out; omega, n2, HGO.out h⟩), Lib.hid (fun h => HSTOP.out h)⟩
         case measure => simp [intOf]; omega
       · by_cases k1 : kd = 1
         · subst k1
           rw [if_neg k0, if_pos rfl] at hs3
           have HC3 := Lib.hid hs3
           have HFX := Lib.hid (rfixed_new w4)
           clear hs3
           go_wp2_with fail
           refine HFX.out.mono ?_
           rintro e w5 ⟨a5, c5, b5, f5, rfl, hra, hrb, ha, hb, hbel⟩
           have HCD := Lib.hid (zfd (s' := S3) (HS4.out.mono hbel) hra hrb (fun x hx => ⟨(ha x hx).2, fun hu => by have h1 := (ha x hx).1; have h2 := HS4.out.blt hu; omega⟩) (fun x hx => ⟨(hb x hx).2, fun hu => by have h1 := (hb x hx).1; have h2 := HS4.out.blt hu; omega⟩) (by rw [fixL_len]; omega) (by rw [fixD_len]; omega) (by omega) HO2.out (by omega) g (by rw [tabV_fixL, tabV_fixD]; exact HC3.out))
           have HK5 := Lib.hid (zaa.any (S := U1) hbel)
           clear hra hrb ha hb hbel
           go_wp2_with fail
           refine HCD.out.mono ?_
           rintro e w6 ⟨rfl, h6⟩
           have H6 := Lib.hid (zbk.trans HK5.out (fun _ hb => .inl hb) h6)
           clear h6
           obtain ⟨U2, z1, z2, z3⟩ := H6.out
           have hk9 := HK4.out.trans z2 (fun _ hb => .inl hb)
           have HZ1 := Lib.hid z1
           have HZ2 := Lib.hid (HB1.out.trans (hk9.below HB1.out.size HU1.out))
           have HZ3 := Lib.hid (show ∀ b, U2 b → w.heap.size ≤ b from fun b hb => (z3 b hb).elim (HU1.out b) (fun h => by have := HB1.out.size; have := HK4.out.size; omega))
           have hkl := HKL.out
           clear d0 d1 d2 d4 g1 g2 g3 z1 z2 z3 hk9
           go_wp2
           go_roundw
           case rel => exact ⟨k + 1, a1, U2, S3, rfl, by go_num, hb1, HZ1, HZ2, HZ3, HLE, Lib.hid (fun h => ⟨by have h1 := HAT.out h.2; have h2 := HKA.out; omega, n2, HGO.out h⟩), Lib.hid (fun h => HSTOP.out h)⟩
           case measure => simp [intOf]; omega
         · by_cases k2 : kd = 2
           · subst k2
             rw [if_neg k0, if_neg k1, if_pos rfl] at hs3
             have HDY := Lib.hid (rdyn_any HS4.out (by omega) HO2.out (by omega) g hs3)
             clear hs3
             go_wp2_with fail
             refine HDY.out.mono ?_
             rintro e w5 ⟨rfl, h5⟩
             have H5 := Lib.hid h5
             clear h5
             obtain ⟨U2, z1, z2, z3⟩ := H5.out
             have hk9 := HK4.out.trans z2 (fun _ hb => .inl hb)
             have HZ1 := Lib.hid z1
             have HZ2 := Lib.hid (HB1.out.trans (hk9.below HB1.out.size HU1.out))
             have HZ3 := Lib.hid (show ∀ b, U2 b → w.heap.size ≤ b from fun b hb => (z3 b hb).elim (HU1.out b) (fun h => by have := HB1.out.size; have := HK4.out.size; omega))
             have hkl := HKL.out
             clear d0 d1 d2 d4 g1 g2 g3 z1 z2 z3 hk9
             go_wp2
             go_roundw
             case rel => exact ⟨k + 1, a1, U2, S3, rfl, by go_num, hb1, HZ1, HZ2, HZ3, HLE, Lib.hid (fun h => ⟨by have h1 := HAT.out h.2; have h2 := HKA.out; omega, n2, HGO.out h⟩), Lib.hid (fun h => HSTOP.out h)⟩
             case measure => simp [intOf]; omega
           · rw [if_neg k0, if_neg k1, if_neg k2] at hs3
             have HF := Lib.hid (zaF HS4.out 11)
             rw [Option.some.inj hs3] at HF
             have q0 : ((kd : Int) == 0) = false := by rw [beq_eq_false_iff_ne]; omega
             have q1 : ((kd : Int) == 1) = false := by rw [beq_eq_false_iff_ne]; omega
             have q2 : ((kd : Int) == 2) = false := by rw [beq_eq_false_iff_ne]; omega
             clear hs3
             go_wp2_with fail
             refine HF.out.mono ?_
             rintro e w5 ⟨rfl, h5, k5⟩
             have H5 := Lib.hid (IsR.next ⟨h5, k5⟩)
             clear h5 k5
             obtain ⟨U2, z1, z2, z3⟩ := H5.out
             have hk9 := HK4.out.trans z2 (fun _ hb => .inl hb)
             have HZ1 := Lib.hid z1
             have HZ2 := Lib.hid (HB1.out.trans (hk9.below HB1.out.size HU1.out))
             have HZ3 := Lib.hid (show ∀ b, U2 b → w.heap.size ≤ b from fun b hb => (z3 b hb).elim (HU1.out b) (fun h => by have := HB1.out.size; have := HK4.out.size; omega))
             have hkl := HKL.out
             clear d0 d1 d2 d4 g1 g2 g3 z1 z2 z3 hk9
             go_wp2
             go_roundw
             case rel => exact ⟨k + 1, a1, U2, S3, rfl, by go_num, hb1, HZ1, HZ2, HZ3, HLE, Lib.hid (fun h => ⟨by have h1 := HAT.out h.2; have h2 := HKA.out; omega, n2, HGO.out h⟩), Lib.hid (fun h => HSTOP.out h)⟩
             case measure => simp [intOf]; omega
     · have hs3 := HS3.out
       unfold zbU at hs3
       rw [if_pos he] at hs3
       have H5 := Lib.hid (show zbk w4 U1 rb aB cB bs most S3 w4 from IsR.next ⟨by rw [← Option.some.inj hs3]; exact HS4.out, zaa.refl _ _⟩)
       have heb : (sB.e != 0) = true := by rw [bne_iff_ne]; exact he
       clear hs3
       obtain ⟨U2, z1, z2, z3⟩ := H5.out
       have hk9 := HK4.out.trans z2 (fun _ hb => .inl hb)
       have HZ1 := Lib.hid z1
       have HZ2 := Lib.hid (HB1.out.trans (hk9.below HB1.out.size HU1.out))
       have HZ3 := Lib.hid (show ∀ b, U2 b → w.heap.size ≤ b from fun b hb => (z3 b hb).elim (HU1.out b) (fun h => by have := HB1.out.size; have := HK4.out.size; omega))
       have hkl := HKL.out
       clear z1 z2 z3 hk9
       go_wp2
       go_roundw
       case rel => exact ⟨k + 1, a1, U2, S3, rfl, by go_num, hb1, HZ1, HZ2, HZ3, HLE, Lib.hid (fun h => ⟨by have h1 := HAT.out h.2; have h2 := HKA.out; omega, n2, HGO.out h⟩), Lib.hid (fun h => HSTOP.out h)⟩
       case measure => simp [intOf]; omega
   · have hs := HEND.out hact
     have hres : ∀ (v : Value) (B : Nat), v = v ∧ B = B := fun _ _ => ⟨rfl, rfl⟩
     clear hres HRUN HEND
     by_cases he : s1.e = 0
     · have hl1 : lst = 1 := by
         have : ¬ lst = 0 := fun h => hact ⟨h, he⟩
         omega
       subst hl1
       rw [he] at c2
       obtain ⟨vq, hvq, hOq, hUq⟩ := HS.out.ex
       obtain ⟨a7, cap7, hva, -, -⟩ := Row.of_owns hOq
       subst hva
       have c3 : wr.cell? ⟨rb, 3, none⟩ = some (.slice a7 s1.out.length cap7) := by rw [cell_of_row wr rb _ _ _ _ hvq]; rfl
       have HOQ := Lib.hid hOq
       obtain ⟨q, hq⟩ : ∃ q, q = (s1.at_ + 7) / 8 := ⟨_, rfl⟩
       have HRES := Lib.hid (show ∀ W : World, Below wr.heap.size wr W → zcW s w (.returned (.tuple #[.slice a7 s1.out.length cap7, .int .i64 (q : Nat), .int .i64 0])) W from fun W hW => by
         have e1 : resO s = s1.out := by rw [hs]; exact if_pos he
         have e2 : resN s = q := by rw [hs, hq]; exact if_pos he
         exact ⟨_, rb + 1, by rw [e2, hs, he], by rw [e1]; exact zab HOQ.out hW, HB1.out.trans (hW.mono HB1.out.size)⟩)
       have i1 : IntKind.i64.wrap ((s1.at_ : Int) + 7) = (s1.at_ : Int) + 7 := IntWalk.i64_in _ (by omega)
       have hq1 : ((s1.at_ : Int) + 7) / 8 = (q : Int) := by omega
       have hq2 : ((s1.at_ : Int) + 7).tdiv 8 = (q : Int) := by rw [Int.tdiv_eq_ediv_of_nonneg (by omega)]; exact hq1
       have i2 : IntKind.i64.wrap (q : Int) = (q : Int) := IntWalk.i64_in _ (by omega)
       clear hvq hOq hUq hq hs hact hat hL
       by_cases hkL : k ≤ L
       · have hd : decide ((k : Int) ≤ (L : Int)) = true := decide_eq_true (by omega)
         go_wp2_with fail
         go_quiet (fail)
         all_goals (try go_wp2)
         all_goals go_ret3
         all_goals exact HRES.out _ (zaD (Below.refl _ _) _)
       · have hd : decide ((k : Int) ≤ (L : Int)) = false := decide_eq_false (by omega)
         go_wp2_with fail
         go_quiet (fail)
         all_goals (try go_wp2)
         all_goals go_ret3
         all_goals exact HRES.out _ (zaD (Below.refl _ _) _)
     · have heb : (s1.e != 0) = true := by rw [bne_iff_ne]; exact he
       have heb2 : (s1.e == 0) = false := by rw [beq_eq_false_iff_ne]; exact he
       have HRES := Lib.hid (show ∀ W : World, Below wr.heap.size wr W → zcW s w (.returned (.tuple #[.slice none 0 0, .int .i64 0, .int .i64 s1.e])) W from fun W hW => by
         have e1 : resO s = [] := by rw [hs]; exact if_neg he
         have e2 : resN s = 0 := by rw [hs]; exact if_neg he
         exact ⟨_, 0, by rw [e2, hs]; rfl, by rw [e1]; exact World.ownsRow_nil _ _ _ _, HB1.out.trans (hW.mono HB1.out.size)⟩)
       clear hs hact hat hL
       by_cases hkL : k ≤ L
       · have hd : decide ((k : Int) ≤ (L : Int)) = true := decide_eq_true (by omega)
         by_cases hl0 : lst = 0
         · subst hl0
           go_wp2_with fail
           go_quiet (fail)
           all_goals (try go_wp2)
           all_goals go_ret3
           all_goals exact HRES.out _ (zaD (Below.refl _ _) _)
         · have hlb : ((lst : Int) == 0) = false := by rw [beq_eq_false_iff_ne]; omega
           go_wp2_with fail
           go_quiet (fail)
           all_goals (try go_wp2)
           all_goals go_ret3
           all_goals exact HRES.out _ (zaD (Below.refl _ _) _)
       · have hd : decide ((k : Int) ≤ (L : Int)) = false := decide_eq_false (by omega)
         go_wp2_with fail
         go_quiet (fail)
         all_goals (try go_wp2)
         all_goals go_ret3
         all_goals exact HRES.out _ (zaD (Below.refl _ _) _)
end Go.Proofs.YtkikhmdpcanidaaGreat
namespace Go.Proofs.YtkikhmdpcanidaaGreat
open Go.RowKit
theorem byteB_one (x : UInt8) : zbq [x] = putL x.toNat false 8 8 := by simp [zbq]
theorem ze9 (b : List UInt8) {i : Nat} (h : i < b.length) : zbq (b.take (i + 1)) = zbq (b.take i) ++ putL (b.getD i 0).toNat false 8 8 := by
 rw [List.take_add_one, zer, List.getElem?_eq_getElem h, List.getD_eq_getElem?_getD, List.getElem?_eq_getElem h, Option.getD_some, ← byteB_one]; rfl
theorem pad_is (n : Nat) : (n + 3 + 7) / 8 * 8 - (n + 3) = (n + 10) / 8 * 8 - (n + 3) := by omega
def boolN : Value → Nat
 | .bool true => 1
 | _ => 0
theorem stored_any {w : World} {S : Nat → Prop} {wb cap : Nat} {a : Option Addr} {B : List Bool} {b : List UInt8} (last : Bool) (h : WrQ w S wb false B) (hr : Row w 1 a b.length cap (b.map fun x => .int .u8 x.toNat)) (ha : ∀ x, a = some x → ¬ S x.block) (hb : b.length ≤ 65535) (hlt : B.length < 137438953472) :
   Calls Tryz.prog 52 #[wrA wb, .slice a b.length cap, .bool last] w fun e w' => e = .returned (.tuple #[]) ∧ zac w S wb false (B ++ stoB B.length last b) w' := by
 have hc : (w.alloc (.cells #[.pointer (some ⟨wb, 0, none⟩)] 48)).cell? ⟨w.heap.size, 0, none⟩ = some (.pointer (some ⟨wb, 0, none⟩)) := by
   rw [cell_of_row _ _ 0 _ _ _ (heap_alloc_new w _)]; rfl
 have hno : ¬ S w.heap.size := h.out
 have HN := Lib.hid (zac.refl (h.alloc (.cells #[.pointer (some ⟨wb, 0, none⟩)] 48)))
 have HE := Lib.hid (fun (B' : List Bool) (w' : World) (hn : zac (w.alloc (.cells #[.pointer (some ⟨wb, 0, none⟩)] 48)) S wb false B' w') => zac.trans (S := S) ((zaa.refl S w).alloc (.cells #[.pointer (some ⟨wb, 0, none⟩)] 48)) (fun b hb => .inl hb) hn)
 have HX := Lib.hid hno
 have HR := Lib.hid (hr.mono (zai w (.cells #[.pointer (some ⟨wb, 0, none⟩)] 48)))
 have HA := Lib.hid ha
 have hcap := hr.2.1
 have hcapm := hr.2.2.1
 unfold maxLen at hcapm
 obtain ⟨n, hn⟩ : ∃ n, n = b.length := ⟨_, rfl⟩
 rw [← hn] at hcap hb ⊢
 have HL := Lib.hid hn
 clear h hno hr ha hn
 unfold wrA
 have hmin : min (n : Int) 65535 = (n : Int) := by omega
 obtain ⟨lb, hlb⟩ : ∃ lb, lb = last := ⟨_, rfl⟩
 have hgoal : stoB B.length last b = stoB B.length lb b := by rw [hlb]
 rw [hgoal]
 have HLB := Lib.hid hlb
 clear hgoal hlb
 have hw0 : w.heap.size + 1 = (w.alloc (.cells #[.pointer (some ⟨wb, 0, none⟩)] 48)).heap.size := (zad _ _).symm
 have H1 := Lib.hid (fun (W : World) (B' : List Bool) (hn : zac (w.alloc (.cells #[.pointer (some ⟨wb, 0, none⟩)] 48)) S wb false B' W) => hn.cell hc HX.out)
 have H2 := Lib.hid (fun (W : World) (B' : List Bool) (hn : zac (w.alloc (.cells #[.pointer (some ⟨wb, 0, none⟩)] 48)) S wb false B' W) => show Row W 1 a n cap (b.map fun x => .int .u8 x.toNat) from by
   obtain ⟨S1, -, k1, -⟩ := hn
   rw [HL.out]
   exact HR.out.keeps k1 HA.out)
 clear hc
 cases last
 case false =>
   go_enter Tryz.func52, Tryz.ntmps52
   go_wp2_with fail
   generalize w.alloc (.cells #[.pointer (some ⟨wb, 0, none⟩)] 48) = w0 at HN HE HR hw0 H1 H2 ⊢
   go_loopw [1, 6] (fun v1 v6 wr => (v6 = .bool true ∧ v1 = .slice a n cap ∧ Hid (zac w0 S wb false B wr)) ∨ (v6 = .bool false ∧ Hid (zac w0 S wb false (B ++ stoB B.length lb b) wr))) (fun _ v6 _ => boolN v6)
   case atStart => exact .inl ⟨rfl, rfl, HN⟩
   case round =>
     rcases hrel with ⟨rfl, rfl, HW⟩ | ⟨rfl, HW⟩
     case inr =>
       go_wp2_with fail
       go_end0
       exact ⟨rfl, HE.out _ _ HW.out⟩
     have c1 := H1.out _ _ HW.out
     have c2 := H2.out _ _ HW.out
     go_upto_region 5 with fail
     go_cut [1] from 11 to 56 (fun v1 wx => (∃ a', v1 = .slice a' 0 (cap - n)) ∧ wr = wx)
     case first =>
       by_cases hcn : cap = n
       · subst hcn
         go_wp2_with fail
         go_meet
         exact ⟨⟨a, by rw [Nat.sub_self]⟩, rfl⟩
       · go_wp2_with fail
         go_meet
         exact ⟨⟨_, rfl⟩, rfl⟩
     case rest =>
     obtain ⟨⟨a', rfl⟩, rfl⟩ := hcut
     go_wp2_with fail
     obtain ⟨S1, q1, k1, s1⟩ := HW.out
     refine (zdh (kind := 0) _ q1 (by omega) (by omega)).mono ?_
     rintro e w1 ⟨rfl, hn1⟩
     have hn1 := zac.trans k1 s1 hn1
     have c3 := H1.out _ _ hn1
     have HN1 := Lib.hid hn1
     clear c1 c2 q1 k1 s1 hn1 HW
     go_wp2_with fail
     obtain ⟨S2, q2, k2, s2⟩ := HN1.out
     refine (zfk q2 (by rw [List.length_append, zap]; omega)).mono ?_
     rintro e w2 ⟨rfl, hn2⟩
     have hn2 := zac.trans k2 s2 hn2
     have c4 := H1.out _ _ hn2
     have HN2 := Lib.hid hn2
     clear c3 q2 k2 s2 hn2 HN1
     go_wp2_with fail
     have hx16 := zd6 n (by omega)
     refine (zaK HN2.out 16 n (by rw [List.length_append, List.length_append, zap, List.length_replicate]; omega) (by omega) (by omega)).mono ?_
     rintro e w3 ⟨rfl, hn3⟩
     have c5 := H1.out _ _ hn3
     have HN3 := Lib.hid hn3
     clear c4 hn3 HN2
     have hx17 : 65535 - n < 65536 := by omega
     go_wp2_with fail
     refine (zaK HN3.out 16 (65535 - n) (by rw [List.length_append, List.length_append, List.length_append, zap, List.length_replicate, zag]; omega) (by omega) (by omega)).mono ?_
     rintro e w4 ⟨rfl, hn4⟩
     have HN4 := Lib.hid hn4
     clear c5 hn4 HN3 hx16
     go_wp2_with fail
     obtain ⟨B4, hB4⟩ : ∃ B4, B4 = B ++ zcs false 0 ++ List.replicate (((B ++ zcs false 0).length + 7) / 8 * 8 - (B ++ zcs false 0).length) false ++ putL n false 16 16 ++ putL (65535 - n) false 16 16 := ⟨_, rfl⟩
     have hB4l : B4.length ≤ B.length + 50 := by
       rw [hB4]
       simp only [List.length_append, zap, List.length_replicate, zag]; omega
     have hfin : B4 ++ zbq b = B ++ stoB B.length lb b := by
       rw [hB4, HLB.out]
       unfold stoB
       simp only [List.length_append, zap, pad_is, List.append_assoc, HL.out]
     rw [← hB4] at HN4
     have HF := Lib.hid hfin
     clear hB4 hfin
     go_loopw [47] (fun v wr => ∃ i : Nat, v = .int .i64 i ∧ i ≤ n ∧ Hid (zac w0 S wb false (B4 ++ zbq (b.take i)) wr)) (fun v _ => n - (intOf v).toNat)
     case atStart => exact ⟨0, rfl, Nat.zero_le _, by rw [List.take_zero, show zbq [] = [] from rfl, List.append_nil]; exact HN4⟩
     case round =>
       clear HN4
       obtain ⟨i, rfl, hi, HNi⟩ := hrel
       by_cases hlt : i < n
       · have hcd : decide ((i : Int) < (n : Int)) = true := decide_eq_true (by omega)
         have hin : (i : Int) < (n : Int) := by omega
         obtain ⟨bb, off, rfl, -, hcc⟩ := (H2.out _ _ HNi.out).at 0 i hlt
         have z1 := hcc i hlt
         have c6 := H1.out _ _ HNi.out
         have HB := Lib.hid (ze9 b (i := i) (by rw [← HL.out]; exact hlt))
         generalize b.getD i 0 = x at z1 HB
         have hx := x.toNat_lt
         clear hcc
         go_wp2_with fail
         refine (zaK HNi.out 8 x.toNat (by rw [List.length_append, zb7, List.length_take]; omega) (by omega) hx).mono ?_
         rintro e w5 ⟨rfl, hn5⟩
         rw [List.append_assoc, ← HB.out] at hn5
         have HN5 := Lib.hid hn5
         clear hn5
         go_wp2_with fail
         go_roundw
         case rel => exact ⟨i + 1, by go_num, by omega, HN5⟩
         case measure => simp [intOf]; omega
       · have hie : i = n := by omega
         subst hie
         have HN6 := Lib.hid (show zac w0 S wb false (B ++ stoB B.length lb b) wr from by
           have h := HNi.out
           rw [List.take_of_length_le (by rw [← HL.out]; exact Nat.le_refl _), HF.out] at h
           exact h)
         go_wp2_with fail
         go_roundw
         case rel => exact .inr ⟨rfl, HN6⟩
         case measure => exact Nat.zero_lt_one
 case true =>
   go_enter Tryz.func52, Tryz.ntmps52
   go_wp2_with fail
   generalize w.alloc (.cells #[.pointer (some ⟨wb, 0, none⟩)] 48) = w0 at HN HE HR hw0 H1 H2 ⊢
   go_loopw [1, 6] (fun v1 v6 wr => (v6 = .bool true ∧ v1 = .slice a n cap ∧ Hid (zac w0 S wb false B wr)) ∨ (v6 = .bool false ∧ Hid (zac w0 S wb false (B ++ stoB B.length lb b) wr))) (fun _ v6 _ => boolN v6)
   case atStart => exact .inl ⟨rfl, rfl, HN⟩
   case round =>
     rcases hrel with ⟨rfl, rfl, HW⟩ | ⟨rfl, HW⟩
     case inr =>
       go_wp2_with fail
       go_end0
       exact ⟨rfl, HE.out _ _ HW.out⟩
     have c1 := H1.out _ _ HW.out
     have c2 := H2.out _ _ HW.out
     go_upto_region 5 with fail
     go_cut [1] from 11 to 56 (fun v1 wx => (∃ a', v1 = .slice a' 0 (cap - n)) ∧ wr = wx)
     case first =>
       by_cases hcn : cap = n
       · subst hcn
         go_wp2_with fail
         go_meet
         exact ⟨⟨a, by rw [Nat.sub_self]⟩, rfl⟩
       · go_wp2_with fail
         go_meet
         exact ⟨⟨_, rfl⟩, rfl⟩
     case rest =>
     obtain ⟨⟨a', rfl⟩, rfl⟩ := hcut
     go_wp2_with fail
     obtain ⟨S1, q1, k1, s1⟩ := HW.out
     refine (zdh (kind := 0) _ q1 (by omega) (by omega)).mono ?_
     rintro e w1 ⟨rfl, hn1⟩
     have hn1 := zac.trans k1 s1 hn1
     have c3 := H1.out _ _ hn1
     have HN1 := Lib.hid hn1
     clear c1 c2 q1 k1 s1 hn1 HW
     go_wp2_with fail
     obtain ⟨S2, q2, k2, s2⟩ := HN1.out
     refine (zfk q2 (by rw [List.length_append, zap]; omega)).mono ?_
     rintro e w2 ⟨rfl, hn2⟩
     have hn2 := zac.trans k2 s2 hn2
     have c4 := H1.out _ _ hn2
     have HN2 := Lib.hid hn2
     clear c3 q2 k2 s2 hn2 HN1
     go_wp2_with fail
     have hx16 := zd6 n (by omega)
     refine (zaK HN2.out 16 n (by rw [List.length_append, List.length_append, zap, List.length_replicate]; omega) (by omega) (by omega)).mono ?_
     rintro e w3 ⟨rfl, hn3⟩
     have c5 := H1.out _ _ hn3
     have HN3 := Lib.hid hn3
     clear c4 hn3 HN2
     have hx17 : 65535 - n < 65536 := by omega
     go_wp2_with fail
     refine (zaK HN3.out 16 (65535 - n) (by rw [List.length_append, List.length_append, List.length_append, zap, List.length_replicate, zag]; omega) (by omega) (by omega)).mono ?_
     rintro e w4 ⟨rfl, hn4⟩
     have HN4 := Lib.hid hn4
     clear c5 hn4 HN3 hx16
     go_wp2_with fail
     obtain ⟨B4, hB4⟩ : ∃ B4, B4 = B ++ zcs true 0 ++ List.replicate (((B ++ zcs true 0).length + 7) / 8 * 8 - (B ++ zcs true 0).length) false ++ putL n false 16 16 ++ putL (65535 - n) false 16 16 := ⟨_, rfl⟩
     have hB4l : B4.length ≤ B.length + 50 := by
       rw [hB4]
       simp only [List.length_append, zap, List.length_replicate, zag]; omega
     have hfin : B4 ++ zbq b = B ++ stoB B.length lb b := by
       rw [hB4, HLB.out]
       unfold stoB
       simp only [List.length_append, zap, pad_is, List.append_assoc, HL.out]
     rw [← hB4] at HN4
     have HF := Lib.hid hfin
     clear hB4 hfin
     go_loopw [47] (fun v wr => ∃ i : Nat, v = .int .i64 i ∧ i ≤ n ∧ Hid (zac w0 S wb false (B4 ++ zbq (b.take i)) wr)) (fun v _ => n - (intOf v).toNat)
     case atStart => exact ⟨0, rfl, Nat.zero_le _, by rw [List.take_zero, show zbq [] = [] from rfl, List.append_nil]; exact HN4⟩
     case round =>
       clear HN4
       obtain ⟨i, rfl, hi, HNi⟩ := hrel
       by_cases hlt : i < n
       · have hcd : decide ((i : Int) < (n : Int)) = true := decide_eq_true (by omega)
         have hin : (i : Int) < (n : Int) := by omega
         obtain ⟨bb, off, rfl, -, hcc⟩ := (H2.out _ _ HNi.out).at 0 i hlt
         have z1 := hcc i hlt
         have c6 := H1.out _ _ HNi.out
         have HB := Lib.hid (ze9 b (i := i) (by rw [← HL.out]; exact hlt))
         generalize b.getD i 0 = x at z1 HB
         have hx := x.toNat_lt
         clear hcc
         go_wp2_with fail
         refine (zaK HNi.out 8 x.toNat (by rw [List.length_append, zb7, List.length_take]; omega) (by omega) hx).mono ?_
         rintro e w5 ⟨rfl, hn5⟩
         rw [List.append_assoc, ← HB.out] at hn5
         have HN5 := Lib.hid hn5
         clear hn5
         go_wp2_with fail
         go_roundw
         case rel => exact ⟨i + 1, by go_num, by omega, HN5⟩
         case measure => simp [intOf]; omega
       · have hie : i = n := by omega
         subst hie
         have HN6 := Lib.hid (show zac w0 S wb false (B ++ stoB B.length lb b) wr from by
           have h := HNi.out
           rw [List.take_of_length_le (by rw [← HL.out]; exact Nat.le_refl _), HF.out] at h
           exact h)
         go_wp2_with fail
         go_roundw
         case rel => exact .inr ⟨rfl, HN6⟩
         case measure => exact Nat.zero_lt_one
def zeU (x : Int) : Int × Int × Int := if 258 < x then (0, 0, 0) else refS x 29
def zeR (x : Int) : Int × Int × Int := if 32768 < x then (-1, 0, 0) else refF x 30
def Tri (V : Int × Int × Int) (w : World) (e : Ending) (w' : World) : Prop := e = .returned (.tuple #[.int .i64 V.1, .int .i64 V.2.1, .int .i64 V.2.2]) ∧ w' = w
theorem lenV_bd : ∀ i, i < 29 → 3 ≤ (zaA (257 + i : Nat)).1 ∧ (zaA (257 + i : Nat)).1 ≤ 258 ∧ 0 ≤ (zaA (257 + i : Nat)).2.1 ∧ (zaA (257 + i : Nat)).2.1 ≤ 13 := fun i hi => by
 have : ∀ k : Fin 29, 3 ≤ (zaA (257 + k.1 : Nat)).1 ∧ (zaA (257 + k.1 : Nat)).1 ≤ 258 ∧ 0 ≤ (zaA (257 + k.1 : Nat)).2.1 ∧ (zaA (257 + k.1 : Nat)).2.1 ≤ 13 := by decide +kernel
 have h := this ⟨i, hi⟩
 dsimp only at h
 exact h
theorem lenV_first {i : Nat} (h : i = 0) : (zaA (257 + i : Nat)).1 = 3 := by subst h; simp [zaA]
theorem disV7_bd : ∀ i, i < 30 → 1 ≤ (disV (i : Nat)).1 ∧ (disV (i : Nat)).1 ≤ 32768 ∧ 0 ≤ (disV (i : Nat)).2.1 ∧ (disV (i : Nat)).2.1 ≤ 13 := fun i hi => by
 have : ∀ k : Fin 30, 1 ≤ (disV (k.1 : Nat)).1 ∧ (disV (k.1 : Nat)).1 ≤ 32768 ∧ 0 ≤ (disV (k.1 : Nat)).2.1 ∧ (disV (k.1 : Nat)).2.1 ≤ 13 := by decide +kernel
 have h := this ⟨i, hi⟩
 dsimp only at h
 exact h
theorem disV_first {i : Nat} (h : i = 0) : (disV (i : Nat)).1 = 1 := by
 have : ∀ k : Fin 30, k.1 = 0 → (disV (k.1 : Nat)).1 = 1 := by decide +kernel
 exact this ⟨i, by omega⟩ h
theorem dsym_any (x : Int) (w : World) (hx : -9223372036854775808 ≤ x ∧ x ≤ 9223372036854775807) : Calls Tryz.prog 114 #[.int .i64 x] w (Tri (zeU x) w) := by
 by_cases h1 : x < 3
 · have HV := Lib.hid (show zeU x = (0, 0, 0) by unfold zeU; rw [if_neg (by omega), refS_low h1 29 (Nat.le_refl _)])
   go_enter Tryz.func114, Tryz.ntmps114
   go_wp2
   go_ret3
   exact ⟨by rw [HV.out]; rfl, rfl⟩
 by_cases h2 : 258 < x
 · have HV := Lib.hid (show zeU x = (0, 0, 0) by unfold zeU; rw [if_pos h2])
   go_enter Tryz.func114, Tryz.ntmps114
   go_wp2
   go_ret3
   exact ⟨by rw [HV.out]; rfl, rfl⟩
 have HV := Lib.hid (show zeU x = refS x 29 by unfold zeU; rw [if_neg h2])
 go_enter Tryz.func114, Tryz.ntmps114
 go_wp2_with fail
 go_loopw [5] (fun v wr => ∃ i : Nat, v = .int .i64 (257 + i : Nat) ∧ i < 29 ∧ Hid (zeU x = refS x (i + 1)) ∧ w = wr) (fun v _ => (intOf v - 257).toNat)
 case atStart => exact ⟨28, rfl, by omega, HV, rfl⟩
 case round =>
   obtain ⟨i, rfl, hi, HI, rfl⟩ := hrel
   have hb := lenV_bd i hi
   have HL := Lib.hid (zfg ((257 + i : Nat) : Int) w (by omega))
   have HR := Lib.hid (show refS x (i + 1) = if (zaA (257 + i : Nat)).1 ≤ x then (((257 + i : Nat) : Int), x - (zaA (257 + i : Nat)).1, (zaA (257 + i : Nat)).2.1) else refS x i from rfl)
   have H0 := Lib.hid (show i = 0 → (zaA (257 + i : Nat)).1 ≤ x from fun e => by rw [lenV_first e]; omega)
   generalize zaA ((257 + i : Nat) : Int) = V at hb HL HR H0
   obtain ⟨v1, v2, v3⟩ := V
   dsimp only at hb HL HR H0
   by_cases hle : v1 ≤ x
   · have hd : decide (v1 ≤ x) = true := decide_eq_true hle
     go_wp2_with (go_at_call 99; refine HL.out.mono ?_; rintro e w' ⟨rfl, rfl⟩)
     go_ret3
     refine ⟨?_, rfl⟩
     rw [HI.out, HR.out, if_pos hle]; rfl
   · have hd : decide (v1 ≤ x) = false := decide_eq_false hle
     have hi0 : i ≠ 0 := fun e => hle (H0.out e)
     go_wp2_with (go_at_call 99; refine HL.out.mono ?_; rintro e w' ⟨rfl, rfl⟩)
     go_roundw
     case rel =>
       refine ⟨i - 1, ?_, by omega, Lib.hid ?_, by first | rfl | trivial⟩
       · go_num
       · rw [HI.out, HR.out, if_neg (by omega), show i - 1 + 1 = i from by omega]
     case measure => simp [intOf]; omega
theorem dfar_any (x : Int) (w : World) (hx : -9223372036854775808 ≤ x ∧ x ≤ 9223372036854775807) : Calls Tryz.prog 115 #[.int .i64 x] w (Tri (zeR x) w) := by
 by_cases h1 : x < 1
 · have HV := Lib.hid (show zeR x = (-1, 0, 0) by unfold zeR; rw [if_neg (by omega), refF_low h1 30 (Nat.le_refl _)])
   go_enter Tryz.func115, Tryz.ntmps115
   go_wp2
   go_ret3
   exact ⟨by rw [HV.out]; rfl, rfl⟩
 by_cases h2 : 32768 < x
 · have HV := Lib.hid (show zeR x = (-1, 0, 0) by unfold zeR; rw [if_pos h2])
   go_enter Tryz.func115, Tryz.ntmps115
   go_wp2
   go_ret3
   exact ⟨by rw [HV.out]; rfl, rfl⟩
 have HV := Lib.hid (show zeR x = refF x 30 by unfold zeR; rw [if_neg h2])
 go_enter Tryz.func115, Tryz.ntmps115
 go_wp2_with fail
 go_loopw [5] (fun v wr => ∃ i : Nat, v = .int .i64 (i : Nat) ∧ i < 30 ∧ Hid (zeR x = refF x (i + 1)) ∧ w = wr) (fun v _ => (intOf v).toNat)
 case atStart => exact ⟨29, rfl, by omega, HV, rfl⟩
 case round =>
   obtain ⟨i, rfl, hi, HI, rfl⟩ := hrel
   have hb := disV7_bd i hi
   have HL := Lib.hid (zdM ((i : Nat) : Int) w (by omega))
   have HR := Lib.hid (show refF x (i + 1) = if (disV (i : Nat)).1 ≤ x then (((i : Nat) : Int), x - (disV (i : Nat)).1, (disV (i : Nat)).2.1) else refF x i from rfl)
   have H0 := Lib.hid (show i = 0 → (disV (i : Nat)).1 ≤ x from fun e => by rw [disV_first e]; omega)
   generalize disV ((i : Nat) : Int) = V at hb HL HR H0
   obtain ⟨v1, v2, v3⟩ := V
   dsimp only at hb HL HR H0
   by_cases hle : v1 ≤ x
   · have hd : decide (v1 ≤ x) = true := decide_eq_true hle
     go_wp2_with (go_at_call 100; refine HL.out.mono ?_; rintro e w' ⟨rfl, rfl⟩)
     go_ret3
     refine ⟨?_, rfl⟩
     rw [HI.out, HR.out, if_pos hle]; rfl
   · have hd : decide (v1 ≤ x) = false := decide_eq_false hle
     have hi0 : i ≠ 0 := fun e => hle (H0.out e)
     go_wp2_with (go_at_call 100; refine HL.out.mono ?_; rintro e w' ⟨rfl, rfl⟩)
     go_roundw
     case rel =>
       refine ⟨i - 1, ?_, by omega, Lib.hid ?_, by first | rfl | trivial⟩
       · go_num
       · rw [HI.out, HR.out, if_neg (by omega), show i - 1 + 1 = i from by omega]
     case measure => simp [intOf]; omega
def tokV : List LT → List Value
 | [] => []
 | t :: l => .int .u8 t.b.toNat :: .int .i64 t.len :: .int .i64 t.far :: tokV l
theorem zf7 : ∀ a b : List LT, tokV (a ++ b) = tokV a ++ tokV b
 | [], _ => rfl
 | t :: a, b => by simp only [List.cons_append, tokV, zf7 a b]
theorem tokV_at : ∀ (l : List LT) (i : Nat) (t : LT), l[i]? = some t → (tokV l)[i * 3]? = some (.int .u8 t.b.toNat) ∧ (tokV l)[i * 3 + 1]? = some (.int .i64 t.len) ∧ (tokV l)[i * 3 + 2]? = some (.int .i64 t.far)
 | [], i, t, h => by simp at h
 | x :: l, 0, t, h => by
   have h : x = t := by simpa using h
   subst h
   exact ⟨rfl, rfl, rfl⟩
 | x :: l, i + 1, t, h => by
   have := tokV_at l i t (by simpa using h)
   rw [show (i + 1) * 3 = i * 3 + 1 + 1 + 1 from by omega]
   simpa [tokV] using this
noncomputable def tokC (l d : List Int) : List LT → List Bool
 | [] => []
 | t :: ts => t.bits l d ++ tokC l d ts
theorem tokC_snoc (l d : List Int) : ∀ (ts : List LT) (t : LT), tokC l d (ts ++ [t]) = tokC l d ts ++ t.bits l d
 | [], t => by simp [tokC]
 | x :: ts, t => by simp only [List.cons_append, tokC, tokC_snoc l d ts t, List.append_assoc]
theorem zfR (l d : List Int) : ∀ ts : List LT, tokB l d ts = tokC l d ts ++ za8 l 256 (lenN l 256)
 | [] => rfl
 | t :: ts => by simp only [tokB, tokC, zfR l d ts, List.append_assoc]
theorem LT.bits_le {l d : List Int} (hl : ∀ s, lenN l s ≤ 15) (hd : ∀ s, lenN d s ≤ 15) {t : LT} (ht : t.may) : (t.bits l d).length ≤ 60 := by
 unfold LT.bits
 unfold LT.may at ht
 by_cases h0 : t.len = 0
 · rw [if_pos h0, zax]
   have := hl t.b.toNat
   unfold lenN at this ⊢; omega
 · rw [if_neg h0] at ht ⊢
   have h1 := zdj ht.2.1 ht.2.2.1
   have h2 := zdu ht.2.2.2.1 ht.2.2.2.2
   simp only [List.length_append, zax, zag]
   have a := hl (symN t.len)
   have b := hd (farN t.far)
   unfold lenN at a b ⊢; omega
theorem tokC_le {l d : List Int} (hl : ∀ s, lenN l s ≤ 15) (hd : ∀ s, lenN d s ≤ 15) : ∀ {ts : List LT}, (∀ t ∈ ts, t.may) → (tokC l d ts).length ≤ 60 * ts.length
 | [], _ => by simp [tokC]
 | t :: ts, h => by
   have h1 := LT.bits_le hl hd (h t (List.mem_cons_self ..))
   have h2 := tokC_le hl hd (ts := ts) fun u hu => h u (List.mem_cons_of_mem _ hu)
   simp only [tokC, List.length_append, List.length_cons]; omega
theorem symV7_is {x : Nat} (h3 : 3 ≤ x) (h8 : x ≤ 258) : zeU x = ((symN x : Int), (symR x : Int), (symB x : Int)) := by unfold zeU; rw [if_neg (by omega), refS_is h3 h8]
theorem farV7_is {x : Nat} (h1 : 1 ≤ x) (h2 : x ≤ 32768) : zeR x = ((farN x : Int), (farR x : Int), (farB x : Int)) := by unfold zeR; rw [if_neg (by omega), refF_is h1]
theorem zfm {w : World} {S Bt Bd : Nat → Prop} {wb cap pt pd : Nat} {a : Option Addr} {B : List Bool} {ts : List LT} {l d : List Int} (h : WrQ w S wb false B) (hr : Row w 3 a ts.length cap (tokV ts)) (ha : ∀ x, a = some x → ¬ S x.block)
   (hT : IsTb w Bt pt l) (hBt : ∀ b, Bt b → ¬ S b ∧ b < w.heap.size) (hD : IsTb w Bd pd d) (hBd : ∀ b, Bd b → ¬ S b ∧ b < w.heap.size) (hts : ∀ t ∈ ts, t.may ∧ CodT l d t) (h256 : 0 < l.getD 256 0) (hlen : ts.length ≤ 100000) (hlt : B.length < 68719476736) :
   Calls Tryz.prog 83 #[wrA wb, .slice a ts.length cap, .pointer (some ⟨pt, 0, none⟩), .pointer (some ⟨pd, 0, none⟩)] w fun e w' => e = .returned (.tuple #[]) ∧ zac w S wb false (B ++ tokB l d ts) w' := by
 have hc : (w.alloc (.cells #[.pointer (some ⟨wb, 0, none⟩)] 48)).cell? ⟨w.heap.size, 0, none⟩ = some (.pointer (some ⟨wb, 0, none⟩)) := by
   rw [cell_of_row _ _ 0 _ _ _ (heap_alloc_new w _)]; rfl
 have hno : ¬ S w.heap.size := h.out
 have HN := Lib.hid (zac.refl (h.alloc (.cells #[.pointer (some ⟨wb, 0, none⟩)] 48)))
 have HE := Lib.hid (fun (B' : List Bool) (w' : World) (hn : zac (w.alloc (.cells #[.pointer (some ⟨wb, 0, none⟩)] 48)) S wb false B' w') => zac.trans (S := S) ((zaa.refl S w).alloc (.cells #[.pointer (some ⟨wb, 0, none⟩)] 48)) (fun b hb => .inl hb) hn)
 have hb0 := zai w (.cells #[.pointer (some ⟨wb, 0, none⟩)] 48)
 have HR := Lib.hid (hr.mono hb0)
 have HT := Lib.hid (hT.mono hb0)
 have HD := Lib.hid (hD.mono hb0)
 have hsz : (w.alloc (.cells #[.pointer (some ⟨wb, 0, none⟩)] 48)).heap.size = w.heap.size + 1 := zad _ _
 have HBT := Lib.hid (show ∀ b, Bt b → ¬ S b ∧ b < (w.alloc (.cells #[.pointer (some ⟨wb, 0, none⟩)] 48)).heap.size from fun b hb => ⟨(hBt b hb).1, by have := (hBt b hb).2; omega⟩)
 have HBD := Lib.hid (show ∀ b, Bd b → ¬ S b ∧ b < (w.alloc (.cells #[.pointer (some ⟨wb, 0, none⟩)] 48)).heap.size from fun b hb => ⟨(hBd b hb).1, by have := (hBd b hb).2; omega⟩)
 have H256 := Lib.hid h256
 have hb0w : w.heap.size < (w.alloc (.cells #[.pointer (some ⟨wb, 0, none⟩)] 48)).heap.size := by omega
 have hl15 : ∀ s, lenN l s ≤ 15 := zc7 (zar hT.room).2.2.1
 have hd15 : ∀ s, lenN d s ≤ 15 := zc7 (zar hD.room).2.2.1
 have HTS := Lib.hid hts
 have HCL := Lib.hid (show ∀ i, (tokC l d (ts.take i)).length ≤ 6000000 from fun i => by
   have h1 := tokC_le hl15 hd15 (ts := ts.take i) fun t ht => (hts t (List.mem_of_mem_take ht)).1
   have h2 : (ts.take i).length ≤ ts.length := by simp; omega
   have h3 := Nat.mul_le_mul_left 60 (Nat.le_trans h2 hlen)
   omega)
 have hcapm := hr.2.2.1
 have hcapn := hr.2.1
 unfold maxLen at hcapm
 have hno2 := Lib.hid hno
 have HA := Lib.hid ha
 have HC := Lib.hid hc
 obtain ⟨n, hn⟩ : ∃ n, n = ts.length := ⟨_, rfl⟩
 rw [← hn] at HR hlen hcapn ⊢
 have HLN := Lib.hid hn
 clear hr hT hD hBt hBd hts h256 hb0 hsz h hc hno ha hn
 unfold wrA
 go_enter Tryz.func83, Tryz.ntmps83
 go_wp2_with fail
 generalize w.alloc (.cells #[.pointer (some ⟨wb, 0, none⟩)] 48) = w0 at HN HE HR HT HD HBT HBD hb0w HC ⊢
 go_loopw [15] (fun v wr => ∃ i : Nat, v = .int .i64 i ∧ i ≤ n ∧ Hid (zac w0 S wb false (B ++ tokC l d (ts.take i)) wr)) (fun v _ => n - (intOf v).toNat)
 case atStart => exact ⟨0, rfl, Nat.zero_le _, by rw [List.take_zero, tokC, List.append_nil]; exact HN⟩
 case round =>
   obtain ⟨i, rfl, hi, HW⟩ := hrel
   by_cases hlt2 : i < n
   case neg =>
     have hie : i = n := by omega
     subst hie
     have hcd : decide ((i : Int) < (i : Int)) = false := decide_eq_false (by omega)
     have c1 := HW.out.cell HC.out hno2.out
     have hs := HCL.out i
     have HP := Lib.hid (zcp (s := 256) HW.out HT.out HBT.out (by rw [List.length_append]; omega) (by
       have h := H256.out
       rcases Nat.lt_or_ge 256 l.length with h1 | h1
       · exact h1
       · rw [List.getD_eq_getElem?_getD, List.getElem?_eq_none h1] at h; exact absurd h (by decide)) H256.out)
     go_wp2_with fail
     refine HP.out.mono ?_
     rintro e w2 ⟨rfl, hn2⟩
     have HN2 := Lib.hid (show zac w0 S wb false (B ++ tokB l d ts) w2 from by
       rw [List.take_of_length_le (by rw [← HLN.out]; exact Nat.le_refl _), List.append_assoc, ← zfR] at hn2
       exact hn2)
     clear hn2 HP
     go_wp2_with fail
     go_end0
     exact ⟨rfl, HE.out _ _ HN2.out⟩
   have hcd : decide ((i : Int) < (n : Int)) = true := decide_eq_true (by omega)
   have hin : (i : Int) < (n : Int) := by omega
   obtain ⟨t, ht⟩ : ∃ t, ts[i]? = some t := ⟨_, List.getElem?_eq_getElem (by rw [← HLN.out]; exact hlt2)⟩
   obtain ⟨hmay, hcod⟩ := HTS.out t (List.mem_of_getElem? ht)
   obtain ⟨S1, q1, k1, s1⟩ := HW.out
   have hrow : Row wr 3 a n cap (tokV ts) := HR.out.keeps k1 HA.out
   obtain ⟨bb, off, rfl, hbb, hcc⟩ := hrow.2.2.2.2 (by omega)
   obtain ⟨t0, t1, t2⟩ := tokV_at ts i t ht
   have z0 := hcc _ _ t0
   have z1 := hcc _ _ t1
   have z2 := hcc _ _ t2
   rw [← Nat.add_assoc] at z1 z2
   have c1 := k1.cell HC.out hno2.out
   have HSN := Lib.hid (show tokC l d (ts.take (i + 1)) = tokC l d (ts.take i) ++ t.bits l d from by
     rw [List.take_add_one, ht]; exact tokC_snoc l d _ _)
   have hS1 : ∀ b, b < w0.heap.size → ¬ S b → ¬ S1 b := fun b hb hn h1 => by
     rcases s1 b h1 with h2 | h2
     · exact hn h2
     · omega
   have hk : ∀ o, zaa (fun _ => False) wr (wr.alloc o) := fun o => (zaa.refl _ wr).alloc o
   have hlt1 : ∀ b, S1 b → b < wr.heap.size := fun b hb => (q1.lt b hb).2
   have hszw := k1.size
   obtain ⟨o, ho⟩ : ∃ o : Obj, o = .cells #[.int .u8 t.b.toNat, .int .i64 t.len, .int .i64 t.far] 123 := ⟨_, rfl⟩
   have hnew : (wr.alloc o).heap[wr.heap.size]? = some (.cells #[.int .u8 t.b.toNat, .int .i64 t.len, .int .i64 t.far] 123 (0, 0)) := by rw [ho]; exact heap_alloc_new wr _
   have HNi := Lib.hid (zac.refl (q1.alloc o))
   have HEND := Lib.hid (fun (B' : List Bool) (W' : World) (hn : zac (wr.alloc o) S1 wb false B' W') => zac.trans (k1.trans (hk o) (fun _ h => h.elim)) s1 hn)
   have HCE := Lib.hid (fun (B' : List Bool) (W' : World) (hn : zac (wr.alloc o) S1 wb false B' W') => hn.cell ((hk o).cell c1 id) (hS1 _ hb0w hno2.out))
   have HC0 := Lib.hid (fun (B' : List Bool) (W' : World) (hn : zac (wr.alloc o) S1 wb false B' W') => hn.cell (b := wr.heap.size) (k := 0) (by rw [cell_of_row _ _ 0 _ _ _ hnew]; rfl) (fun h => by have := hlt1 _ h; omega))
   have HC1 := Lib.hid (fun (B' : List Bool) (W' : World) (hn : zac (wr.alloc o) S1 wb false B' W') => hn.cell (b := wr.heap.size) (k := 1) (by rw [cell_of_row _ _ 1 _ _ _ hnew]; rfl) (fun h => by have := hlt1 _ h; omega))
   have HC2 := Lib.hid (fun (B' : List Bool) (W' : World) (hn : zac (wr.alloc o) S1 wb false B' W') => hn.cell (b := wr.heap.size) (k := 2) (by rw [cell_of_row _ _ 2 _ _ _ hnew]; rfl) (fun h => by have := hlt1 _ h; omega))
   have HTi := Lib.hid ((HT.out.keeps k1 (fun b hb => (HBT.out b hb).1)).mono (zai wr o))
   have HDi := Lib.hid ((HD.out.keeps k1 (fun b hb => (HBD.out b hb).1)).mono (zai wr o))
   have hwi : (wr.alloc o).heap.size = wr.heap.size + 1 := zad wr o
   have HBTi := Lib.hid (show ∀ b, Bt b → ¬ S1 b ∧ b < (wr.alloc o).heap.size from fun b hb => by
     obtain ⟨h1, h2⟩ := HBT.out b hb
     exact ⟨hS1 b h2 h1, by omega⟩)
   have HBDi := Lib.hid (show ∀ b, Bd b → ¬ S1 b ∧ b < (wr.alloc o).heap.size from fun b hb => by
     obtain ⟨h1, h2⟩ := HBD.out b hb
     exact ⟨hS1 b h2 h1, by omega⟩)
   have hsL := HCL.out i
   have hbl : (B ++ tokC l d (ts.take i)).length ≤ 68800000000 := by rw [List.length_append]; omega
   have HSN2 := Lib.hid (show B ++ tokC l d (ts.take (i + 1)) = (B ++ tokC l d (ts.take i)) ++ t.bits l d from by rw [HSN.out, List.append_assoc])
   generalize (B ++ tokC l d (ts.take i)) = Bi at HNi HSN2 hbl
   rw [ho] at HNi HEND HCE HC0 HC1 HC2 HTi HDi HBTi HBDi
   clear hcc hrow t0 t1 t2 hS1 hk hlt1 hnew hwi q1 k1 s1 HW HSN hsL HCL HTS HR HT HD HBT HBD HN ho
   unfold LT.may at hmay
   unfold CodT at hcod
   unfold LT.bits at HSN2
   by_cases h0 : t.len = 0
   · rw [if_pos h0] at hcod HSN2
     have he : decide ((t.len : Int) = 0) = true := decide_eq_true (by omega)
     have heb : ((t.len : Int) == 0) = true := he
     have c00 := HC0.out _ _ HNi.out
     have c01 := HC1.out _ _ HNi.out
     have cE := HCE.out _ _ HNi.out
     have hbt := t.b.toNat_lt
     have HP := Lib.hid (zcp (s := t.b.toNat) HNi.out HTi.out HBTi.out (by omega) (by
       rcases Nat.lt_or_ge t.b.toNat l.length with h1 | h1
       · exact h1
       · rw [List.getD_eq_getElem?_getD, List.getElem?_eq_none h1] at hcod; exact absurd hcod (by decide)) hcod)
     clear h0 hmay hcod HC0 HC1 HC2 HCE HTi HDi HBTi HBDi HNi
     generalize t.len = ln at *
     generalize t.far = fa at *
     generalize t.b.toNat = bt at *
     go_wp2_with fail
     refine HP.out.mono ?_
     rintro e w2 ⟨rfl, hn2⟩
     rw [← HSN2.out] at hn2
     have HN2 := Lib.hid (HEND.out _ _ hn2)
     clear hn2 HP HEND
     go_wp2_with fail
     go_roundw
     case rel => exact ⟨i + 1, by go_num, by omega, HN2⟩
     case measure => simp [intOf]; omega
   · rw [if_neg h0] at hcod HSN2 hmay
     obtain ⟨-, m3, m8, f1, f2⟩ := hmay
     obtain ⟨hc1, hc2⟩ := hcod
     obtain ⟨y1, y2, -, -, y5, y6, -, -⟩ := zdj m3 m8
     obtain ⟨g1, -, -, g4, g5, -, -⟩ := zdu f1 f2
     have he : decide ((t.len : Int) = 0) = false := decide_eq_false (by omega)
     have heb : ((t.len : Int) == 0) = false := he
     have HSY := Lib.hid (fun W : World => by have h := dsym_any (t.len : Int) W (by omega); rw [symV7_is m3 m8] at h; exact h)
     have HFY := Lib.hid (fun W : World => by have h := dfar_any (t.far : Int) W (by omega); rw [farV7_is f1 f2] at h; exact h)
     have c01 := HC1.out _ _ HNi.out
     clear h0 m3 m8 f1 f2 HC0
     generalize t.len = ln at *
     generalize t.far = fa at *
     generalize t.b.toNat = bt at *
     have hl1 : symN ln < l.length := by
       rcases Nat.lt_or_ge (symN ln) l.length with h1 | h1
       · exact h1
       · rw [List.getD_eq_getElem?_getD, List.getElem?_eq_none h1] at hc1; exact absurd hc1 (by decide)
     have hd1 : farN fa < d.length := by
       rcases Nat.lt_or_ge (farN fa) d.length with h1 | h1
       · exact h1
       · rw [List.getD_eq_getElem?_getD, List.getElem?_eq_none h1] at hc2; exact absurd hc2 (by decide)
     have hq1 : (za8 l (symN ln) (lenN l (symN ln))).length ≤ 15 := by
       rw [zax]; have := hl15 (symN ln); unfold lenN at this ⊢; omega
     have hq2 : (za8 d (farN fa) (lenN d (farN fa))).length ≤ 15 := by
       rw [zax]; have := hd15 (farN fa); unfold lenN at this ⊢; omega
     have HP1 := Lib.hid (zcp (s := symN ln) HNi.out HTi.out HBTi.out (by omega) hl1 hc1)
     generalize za8 l (symN ln) (lenN l (symN ln)) = L1 at HP1 HSN2 hq1
     have HP3 := Lib.hid (fun (W : World) (B' : List Bool) (hn : zac (wr.alloc (.cells #[.int .u8 bt, .int .i64 ln, .int .i64 fa] 123)) S1 wb false B' W) (hb : B'.length ≤ 68800000100) => zcp (s := farN fa) hn HDi.out HBDi.out (by omega) hd1 hc2)
     generalize za8 d (farN fa) (lenN d (farN fa)) = L3 at HP3 HSN2 hq2
     generalize symN ln = sN at *
     generalize symR ln = sR at *
     generalize symB ln = sB at *
     generalize farN fa = fN at *
     generalize farR fa = fR at *
     generalize farB fa = fB at *
     have hsR : sR < 32 := Nat.lt_of_lt_of_le y5 (Nat.pow_le_pow_right (by omega) y6 : 2 ^ sB ≤ 2 ^ 5)
     have hfR : fR < 8192 := Nat.lt_of_lt_of_le g4 (Nat.pow_le_pow_right (by omega) g5 : 2 ^ fB ≤ 2 ^ 13)
     clear HTi HDi HBTi HBDi hl1 hd1 hc1 hc2 hl15 hd15
     go_wp2_with fail
     refine (HSY.out _).mono ?_
     rintro e W ⟨rfl, rfl⟩
     have cE := HCE.out _ _ HNi.out
     go_wp2_with fail
     refine HP1.out.mono ?_
     rintro e w2 ⟨rfl, hn2⟩
     have cE2 := HCE.out _ _ hn2
     have HN2 := Lib.hid hn2
     clear hn2 HP1 HSY cE c01
     go_wp2_with fail
     refine (zaK HN2.out sB sR (by rw [List.length_append]; omega) (by omega) y5).mono ?_
     rintro e w3 ⟨rfl, hn3⟩
     have cE3 := HCE.out _ _ hn3
     have c03 := HC2.out _ _ hn3
     have HN3 := Lib.hid hn3
     clear hn3 HN2 cE2
     go_wp2_with fail
     refine (HFY.out _).mono ?_
     rintro e W ⟨rfl, rfl⟩
     go_wp2_with fail
     refine (HP3.out _ _ HN3.out (by rw [List.length_append, List.length_append, zag]; omega)).mono ?_
     rintro e w4 ⟨rfl, hn4⟩
     have cE4 := HCE.out _ _ hn4
     have HN4 := Lib.hid hn4
     clear hn4 HN3 cE3 c03 HP3 HFY
     go_wp2_with fail
     refine (zaK HN4.out fB fR (by rw [List.length_append, List.length_append, List.length_append, zag]; omega) (by omega) g4).mono ?_
     rintro e w5 ⟨rfl, hn5⟩
     have HN5 := Lib.hid (show zac w0 S wb false (B ++ tokC l d (ts.take (i + 1))) w5 from by
       have h := HEND.out _ _ hn5
       rw [HSN2.out]
       simp only [List.append_assoc] at h ⊢
       exact h)
     clear hn5 HN4 cE4 HEND
     go_wp2_with fail
     go_roundw
     case rel => exact ⟨i + 1, by go_num, by omega, HN5⟩
     case measure => simp [intOf]; omega
end Go.Proofs.YtkikhmdpcanidaaGreat
namespace Go.Proofs.YtkikhmdpcanidaaGreat
open Go.RowKit Go.Sort
theorem WrQ.blw {w w' : World} {wb : Nat} {B : List Bool} {S1 : Nat → Prop} (q : WrQ w S1 wb false B) (hb : Below w.heap.size w w') : WrQ w' S1 wb false B :=
 q.keeps (T := fun b => w.heap.size ≤ b) (zaa.of_below hb fun b hb => hb) (fun b hb h => by have := (q.lt b hb).2; omega)
theorem fixed_blk {w : World} {S : Nat → Prop} {wb cap : Nat} {a : Option Addr} {B : List Bool} {ts : List LT} (last : Bool) (h : WrQ w S wb false B) (hr : Row w 3 a ts.length cap (tokV ts)) (ha : ∀ x, a = some x → ¬ S x.block) (hal : ∀ x, a = some x → x.block < w.heap.size) (hts : ∀ t ∈ ts, t.may)
   (hlen : ts.length ≤ 100000) (hlt : B.length < 34359738368) :
   Calls Tryz.prog 53 #[wrA wb, .slice a ts.length cap, .bool last] w fun e w' => e = .returned (.tuple #[]) ∧ zac w S wb false (B ++ fixB last ts) w' := by
 have hc : (w.alloc (.cells #[.pointer (some ⟨wb, 0, none⟩)] 48)).cell? ⟨w.heap.size, 0, none⟩ = some (.pointer (some ⟨wb, 0, none⟩)) := by
   rw [cell_of_row _ _ 0 _ _ _ (heap_alloc_new w _)]; rfl
 have hno : ¬ S w.heap.size := h.out
 have HQ := Lib.hid (h.alloc (.cells #[.pointer (some ⟨wb, 0, none⟩)] 48))
 have HE := Lib.hid (fun (B' : List Bool) (w' : World) (hn : zac (w.alloc (.cells #[.pointer (some ⟨wb, 0, none⟩)] 48)) S wb false B' w') => zac.trans (S := S) ((zaa.refl S w).alloc (.cells #[.pointer (some ⟨wb, 0, none⟩)] 48)) (fun b hb => .inl hb) hn)
 have HR := Lib.hid (hr.mono (zai w (.cells #[.pointer (some ⟨wb, 0, none⟩)] 48)))
 have hb0w : w.heap.size < (w.alloc (.cells #[.pointer (some ⟨wb, 0, none⟩)] 48)).heap.size := by rw [zad]; omega
 have HA := Lib.hid ha
 have HTS := Lib.hid hts
 have HX := Lib.hid hno
 have halt : ∀ x, a = some x → x.block < (w.alloc (.cells #[.pointer (some ⟨wb, 0, none⟩)] 48)).heap.size := fun x hx => by have := hal x hx; omega
 have HAL := Lib.hid halt
 have hcapm := hr.2.2.1
 have hcapn := hr.2.1
 unfold maxLen at hcapm
 obtain ⟨n, hn⟩ : ∃ n, n = ts.length := ⟨_, rfl⟩
 have HLN := Lib.hid hn
 rw [← hn] at hlen hcapn ⊢
 clear h hr ha hal hts hno halt hn
 unfold wrA
 have HST := Lib.hid (zdh (kind := 1) last HQ.out (by omega) (by omega))
 unfold wrA at HST
 go_enter Tryz.func53, Tryz.ntmps53
 go_wp2_with fail
 generalize w.alloc (.cells #[.pointer (some ⟨wb, 0, none⟩)] 48) = w0 at HQ HE HR hb0w HST hc HAL ⊢
 refine HST.out.mono ?_
 rintro e w1 ⟨rfl, hn1⟩
 have c1 := hn1.cell hc HX.out
 obtain ⟨S1, q1, k1, s1⟩ := hn1
 have hs1 := k1.size
 go_wp2_with fail
 refine (fixed_any w1).mono ?_
 rintro e w2 ⟨a2, cA, b2, cB, rfl, hrA, hrB, hnA, hnB, hb2, -⟩
 have hs2 := hb2.size
 have HRA := Lib.hid hrA
 have HRB := Lib.hid hrB
 go_wp2_with fail
 have hNA := zfv 320 zbQ a2 288 cA fixL w2 HRA.out zcA (by omega) hnA
 refine hNA.mono ?_
 rintro e w3 ⟨p3, rfl, hT3, hb3⟩
 have hs3 := hb3.size
 have hrB3 := HRB.out.mono hb3
 clear hNA
 go_wp2_with fail
 have hNB := zfv 320 zbQ b2 30 cB Go.Proofs.YtkikhmdpcanidaaGreat.fixD w3 hrB3 zco (by omega) hnB
 refine hNB.mono ?_
 rintro e w4 ⟨p4, rfl, hT4, hb4⟩
 have hs4 := hb4.size
 clear hNB
 have hb14 : Below w1.heap.size w1 w4 := (hb2.trans (hb3.mono hs2)).trans (hb4.mono (by omega))
 have c4 := zam hb14 (World.block_lt_of_cell? w1 _ c1) c1
 have q4 := WrQ.blw q1 hb14
 have k4 : zaa S w0 w4 := k1.trans (zaa.of_below hb14 fun b hb => hb) (fun b hb => .inr (by omega))
 have s4 : ∀ b, S1 b → b < w1.heap.size := fun b hb => (q1.lt b hb).2
 have HTK := Lib.hid (zfm (ts := ts) (a := a) (cap := cap) q4 (HR.out.keeps k4 HA.out) (fun x hx h1 => by
   rcases s1 _ h1 with h2 | h2
   · exact HA.out x hx h2
   · have := HAL.out x hx; omega)
   (hT3.mono hb4) (fun b hb => ⟨fun h1 => by have := s4 b h1; have := hb.1; omega, Nat.lt_of_lt_of_le hb.2 hs4⟩) hT4 (fun b hb => ⟨fun h1 => by have := s4 b h1; have := hb.1; omega, hb.2⟩) (fun t ht => ⟨HTS.out t ht, fix_cod (HTS.out t ht)⟩) (zdW (by decide)) (by rw [← HLN.out]; exact hlen) (by rw [List.length_append, zap]; omega))
 rw [← HLN.out] at HTK
 unfold wrA at HTK
 have HEND := Lib.hid (fun (w5 : World) (hn : zac w4 S1 wb false (B ++ zcs last 1 ++ tokB fixL Go.Proofs.YtkikhmdpcanidaaGreat.fixD ts) w5) => show zac w S wb false (B ++ fixB last ts) w5 from by
   have h := HE.out _ _ (zac.trans k4 s1 hn)
   rw [List.append_assoc] at h
   exact h)
 clear q1 k1 s1 q4 k4 s4 hb14 hT3 hT4 hb2 hb3 hb4 hrA hrB hrB3 c1 hc HRA HRB
 go_wp2_with fail
 refine HTK.out.mono ?_
 rintro e w5 ⟨rfl, hn5⟩
 have HN5 := Lib.hid (HEND.out _ hn5)
 clear hn5 HTK HEND
 go_wp2_with fail
 go_end0
 exact ⟨rfl, HN5.out⟩
end Go.Proofs.YtkikhmdpcanidaaGreat
namespace Go.Proofs.YtkikhmdpcanidaaGreat
open Go.RowKit
theorem zcR (w : World) (p q : Nat) : (w.drewN p).drewN q = w.drewN (p + q) := by simp [World.drewN, Nat.add_assoc]
def zc3 (b : List UInt8) (at_ : Nat) (far : Int) (k : Nat) : Prop := k ≤ 258 ∧ (0 < k → 1 ≤ far ∧ far ≤ at_ ∧ at_ + k ≤ b.length ∧ ∀ j, j < k → b.getD (at_ + j) 0 = b.getD (at_ + j - far.toNat) 0)
theorem zc3.zero (b : List UInt8) (at_ : Nat) (far : Int) : zc3 b at_ far 0 := ⟨by omega, fun h => by omega⟩
theorem match_any {w : World} {a : Option Addr} {n cap : Nat} {b : List UInt8} (hr : Row w 1 a n cap (b.map fun x => .int .u8 x.toNat)) (at_ : Nat) (far : Int) (hat : at_ < 1000000000) (hfar : -1000000000 ≤ far ∧ far ≤ 1000000000) :
   Calls Tryz.prog 117 #[.slice a n cap, .int .i64 at_, .int .i64 far, .int .i64 258] w fun e w' => ∃ k : Nat, e = .returned (.int .i64 k) ∧ (∃ q, w' = w.drewN q) ∧ zc3 b at_ far k := by
 have hl : b.length = n := by have := hr.1; simpa using this
 have hcapm := hr.2.2.1
 have hcapn := hr.2.1
 unfold maxLen at hcapm
 have HR := Lib.hid hr
 have HL := Lib.hid hl
 have hno : ∀ w', (∃ q, w' = w.drewN q) → ∃ k : Nat, Ending.returned (.int .i64 0) = .returned (.int .i64 k) ∧ (∃ q, w' = w.drewN q) ∧ zc3 b at_ far k := fun w' h => ⟨0, rfl, h, zc3.zero b at_ far⟩
 have HNO := Lib.hid hno
 clear hr hl hno
 by_cases h1 : (at_ : Int) ≥ n
 · go_enter Tryz.func117, Tryz.ntmps117
   go_wp2
   go_ret
   exact HNO.out _ ⟨0, rfl⟩
 by_cases h2 : far < 1
 · go_enter Tryz.func117, Tryz.ntmps117
   go_wp2
   go_ret
   exact HNO.out _ ⟨0, rfl⟩
 by_cases h3 : far > (at_ : Int)
 · go_enter Tryz.func117, Tryz.ntmps117
   go_wp2
   go_ret
   exact HNO.out _ ⟨0, rfl⟩
 obtain ⟨f, rfl⟩ : ∃ f : Nat, far = (f : Int) := ⟨far.toNat, by omega⟩
 go_enter Tryz.func117, Tryz.ntmps117
 go_wp2_with fail
 go_loopw [9] (fun v wr => ∃ m : Nat, v = .int .i64 m ∧ m ≤ 258 ∧ at_ + m ≤ n ∧ Hid (∀ j, j < m → b.getD (at_ + j) 0 = b.getD (at_ + j - f) 0) ∧ Hid (∃ q, wr = w.drewN q)) (fun v _ => 258 - (intOf v).toNat)
 case atStart => exact ⟨0, rfl, by omega, by omega, Lib.hid (fun j hj => by omega), Lib.hid ⟨0, rfl⟩⟩
 case round =>
   obtain ⟨m, rfl, hm, hmn, HJ, HQ⟩ := hrel
   obtain ⟨q, hq⟩ := HQ.out
   have HE := Lib.hid (show ∀ W, (∃ q, W = w.drewN q) → ∃ k : Nat, Ending.returned (.int .i64 (m : Nat)) = .returned (.int .i64 k) ∧ (∃ q, W = w.drewN q) ∧ zc3 b at_ f k from fun W hW => ⟨m, rfl, hW, hm, fun _ => ⟨by omega, by omega, by rw [HL.out]; exact hmn, HJ.out⟩⟩)
   have HQQ := Lib.hid hq
   clear hq HQ
   by_cases c1 : m < 258
   case neg =>
     have d1 : decide ((m : Int) < 258) = false := decide_eq_false (by omega)
     have d1b : ¬ (m : Int) < 258 := by omega
     clear HJ
     go_wp2_with fail
     go_quiet (fail)
     go_wp2
     go_ret
     exact HE.out _ ⟨q + nq, by rw [HQQ.out]; exact zcR _ _ _⟩
   have d1 : decide ((m : Int) < 258) = true := decide_eq_true (by omega)
   by_cases c2 : at_ + m < n
   case neg =>
     have d2 : decide ((at_ : Int) + (m : Int) < (n : Int)) = false := decide_eq_false (by omega)
     clear HJ
     go_wp2_with fail
     go_quiet (fail)
     go_wp2
     go_ret
     exact HE.out _ ⟨q + nq, by rw [HQQ.out]; exact zcR _ _ _⟩
   have d2 : decide ((at_ : Int) + (m : Int) < (n : Int)) = true := decide_eq_true (by omega)
   obtain ⟨bb, off, rfl, -, hcc⟩ := HR.out.at 0 0 (by omega)
   have z1 : wr.cell? ⟨bb, off + (at_ + m), none⟩ = some (.int .u8 (b.getD (at_ + m) 0).toNat) := by rw [HQQ.out]; exact hcc (at_ + m) c2
   have z2 : wr.cell? ⟨bb, off + (at_ + m - f), none⟩ = some (.int .u8 (b.getD (at_ + m - f) 0).toNat) := by rw [HQQ.out]; exact hcc (at_ + m - f) (by omega)
   have HJS := Lib.hid (show b.getD (at_ + m) 0 = b.getD (at_ + m - f) 0 → ∀ j, j < m + 1 → b.getD (at_ + j) 0 = b.getD (at_ + j - f) 0 from fun h j hj => by
     rcases Nat.lt_or_eq_of_le (Nat.le_of_lt_succ hj) with h1 | h1
     · exact HJ.out j h1
     · rw [h1]; exact h)
   clear hcc
   generalize b.getD (at_ + m) 0 = x at z1 HJS
   generalize b.getD (at_ + m - f) 0 = y at z2 HJS
   obtain ⟨A, hA⟩ : ∃ A, at_ + m = A := ⟨_, rfl⟩
   have e1 : (at_ : Int) + (m : Int) = (A : Int) := by omega
   have e2 : ((A : Int) - (f : Int)) = ((A - f : Nat) : Int) := by omega
   have hAf : A - f < n := by omega
   have hAn : A < n := by omega
   rw [hA] at z1 z2
   rw [e1] at d2
   have HAA := Lib.hid hA
   clear hA
   generalize A - f = A2 at z2 e2 hAf
   have hA2i : (A2 : Int) < (n : Int) := by omega
   have hAi : (A : Int) < (n : Int) := by omega
   by_cases hxy : x = y
   · have d3 : ((x.toNat : Int) == (y.toNat : Int)) = true := by rw [hxy]; simp
     have d3b : decide ((x.toNat : Int) = (y.toNat : Int)) = true := decide_eq_true (by rw [hxy])
     have HJ2 := Lib.hid (HJS.out hxy)
     clear HJ HJS hxy
     generalize (x.toNat : Int) = X at z1 d3 d3b
     generalize (y.toNat : Int) = Y at z2 d3 d3b
     go_wp2_with fail
     go_quiet (fail)
     go_wp2_with fail
     go_roundw
     case rel => exact ⟨m + 1, by go_num, by omega, by have := HAA.out; omega, HJ2, Lib.hid ⟨q + nq, by rw [HQQ.out]; exact zcR _ _ _⟩⟩
     case measure => simp [intOf]; omega
   · have hne : x.toNat ≠ y.toNat := fun h => hxy (UInt8.toNat_inj.1 h)
     have d3b : decide ((x.toNat : Int) = (y.toNat : Int)) = false := decide_eq_false (by omega)
     have d3 : ((x.toNat : Int) == (y.toNat : Int)) = false := d3b
     clear HJ HJS hxy hne
     generalize (x.toNat : Int) = X at z1 d3 d3b
     generalize (y.toNat : Int) = Y at z2 d3 d3b
     go_wp2_with fail
     go_quiet (fail)
     go_wp2
     go_ret
     exact HE.out _ ⟨q + nq, by rw [HQQ.out]; exact zcR _ _ _⟩
def thV (x y z : Nat) : Value := .agg #[.int .u8 x, .int .u8 y, .int .u8 z]
def AtEnd (w : World) (e : Ending) (w' : World) : Prop := Below w.heap.size w w' ∧ ∃ (x y z : Nat) (is : Bool), e = .returned (.tuple #[thV x y z, .bool is]) ∧ x < 256 ∧ y < 256 ∧ z < 256
theorem at_any {w : World} {a : Option Addr} {n cap fb i : Nat} {b : List UInt8} (hr : Row w 1 a n cap (b.map fun x => .int .u8 x.toNat)) (c0 : w.cell? ⟨fb, 0, none⟩ = some (.slice a n cap)) (hi : i < 1000000000) :
   Calls Tryz.prog 116 #[.pointer (some ⟨fb, 0, none⟩), .int .i64 i] w (AtEnd w) := by
 have hcapm := hr.2.2.1
 have hcapn := hr.2.1
 unfold maxLen at hcapm
 have hfb := World.block_lt_of_cell? w _ c0
 have hb0 := zai w (.cells #[.int .u8 0, .int .u8 0, .int .u8 0] 159)
 have c1 := cell?_keep hb0 c0
 have HR := Lib.hid (hr.mono hb0)
 have HB := Lib.hid hb0
 clear hr c0 hb0
 by_cases h3 : (i : Int) + 3 > n
 · have d : decide ((i : Int) + 3 > n) = true := decide_eq_true h3
   go_enter Tryz.func116, Tryz.ntmps116
   go_wp2_with fail
   have hnew := heap_alloc_new w (.cells #[.int .u8 0, .int .u8 0, .int .u8 0] 159)
   have q0 := cell_of_row _ _ 0 _ _ _ hnew
   have q1 := cell_of_row _ _ 1 _ _ _ hnew
   have q2 := cell_of_row _ _ 2 _ _ _ hnew
   refine bodyPost_ret (v := .tuple #[thV 0 0 0, .bool false]) (by simp [results, Tryz.results116, go_sem, q0, q1, q2, thV]) rfl ⟨HB.out, 0, 0, 0, false, rfl, by omega, by omega, by omega⟩
 · have d : decide ((i : Int) + 3 > n) = false := decide_eq_false h3
   obtain ⟨bb, off, rfl, -, hcc⟩ := HR.out.at 0 0 (by omega)
   obtain ⟨i1, hi1⟩ : ∃ i1, i1 = i + 1 := ⟨_, rfl⟩
   obtain ⟨i2, hi2⟩ : ∃ i2, i2 = i + 2 := ⟨_, rfl⟩
   have z0 := hcc i (by omega)
   have z1 := hcc i1 (by omega)
   have z2 := hcc i2 (by omega)
   have b0 := (b.getD i 0).toNat_lt
   have b1 := (b.getD i1 0).toNat_lt
   have b2 := (b.getD i2 0).toNat_lt
   generalize (b.getD i 0).toNat = x0 at z0 b0
   generalize (b.getD i1 0).toNat = x1 at z1 b1
   generalize (b.getD i2 0).toNat = x2 at z2 b2
   have j1 : (i : Int) + 1 = (i1 : Int) := by omega
   have j2 : (i : Int) + 2 = (i2 : Int) := by omega
   have l0 : (i : Int) < (n : Int) := by omega
   have l1 : (i1 : Int) < (n : Int) := by omega
   have l2 : (i2 : Int) < (n : Int) := by omega
   clear hi1 hi2
   clear hcc
   go_enter Tryz.func116, Tryz.ntmps116
   go_wp2_with fail
   go_region
   go_wp2_with fail
   have hnew := heap_alloc_new w (.cells #[.int .u8 x0, .int .u8 x1, .int .u8 x2] 159)
   have q0 := cell_of_row _ _ 0 _ _ _ hnew
   have q1 := cell_of_row _ _ 1 _ _ _ hnew
   have q2 := cell_of_row _ _ 2 _ _ _ hnew
   refine bodyPost_ret (v := .tuple #[thV x0 x1 x2, .bool true]) (by simp [results, Tryz.results116, go_sem, q0, q1, q2, thV]) rfl ⟨((Below.refl _ w).alloc (Nat.le_refl _) _).drew, x0, x1, x2, true, rfl, b0, b1, b2⟩
end Go.Proofs.YtkikhmdpcanidaaGreat
namespace Go.Proofs.YtkikhmdpcanidaaGreat
open Go.RowKit Go.Maps Go.ChangeMaps
theorem wf_u8 {x : Nat} (h : x < 256) : (Lit.int .u8 (x : Int)).wf = true := by
 simp [Lit.wf, IntKind.min, IntKind.max, IntKind.signed, IntKind.bits]; omega
theorem arrK : Go.WideMaps.ArrKey Tryz.prog 159 5 3 := ⟨Tryz.underlying159, by kernel_rfl, by kernel_rfl, by kernel_rfl⟩
theorem keyedT : Keyed Tryz.prog 159 := Keyed.of_law arrK.law
theorem typesT : ∃ m, Tryz.prog.types.size = m + 1 := ⟨Tryz.prog.types.size - 1, by kernel_rfl⟩
theorem lits_u8 {d x : Nat} (h : x < 256) : Tryz.prog.keyLits (d + 1) 5 [.int .u8 x] = some [.int .u8 x] := by
 unfold Program.keyLits
 rw [Tryz.underlying5]
 simp only
 simp [wf_u8 h]
theorem key_th {x y z : Nat} (hx : x < 256) (hy : y < 256) (hz : z < 256) : ∃ kl, keyOf Tryz.prog 159 (thV x y z) = some kl := by
 obtain ⟨m, hm⟩ := typesT
 have hk : Tryz.prog.keyType 159 = true := arrK.keyType ⟨m, hm⟩
 have hf : (thV x y z).formed Tryz.prog 159 = true := by
   unfold thV Value.formed
   rw [Tryz.underlying159]
   simp only
   rw [show Tryz.prog.cellsOf 159 = 3 from arrK.size]; rfl
 have hl : Tryz.prog.keyLits (Tryz.prog.types.size + 1) 159 (thV x y z).cells.toList = some [.int .u8 x, .int .u8 y, .int .u8 z] := by
   have hc : (thV x y z).cells.toList = [.int .u8 x, .int .u8 y, .int .u8 z] := rfl
   rw [hm, hc]
   unfold Program.keyLits
   rw [Tryz.underlying159]
   simp only
   rw [if_pos (by rw [show Tryz.prog.cellsOf 159 = 3 from arrK.size]; rfl), show Tryz.prog.cellsOf 5 = 1 from arrK.one]
   have e : List.range 3 = [0, 1, 2] := rfl
   rw [e]
   simp [lits_u8 hx, lits_u8 hy, lits_u8 hz]
 refine ⟨.string (keyBytes [.int .u8 x, .int .u8 y, .int .u8 z]), ?_⟩
 unfold keyOf
 rw [Tryz.underlying159]
 simp only
 rw [hk, hf, hl]
 rfl
theorem zeroT (w : World) : (zeroValue 3).run Tryz.prog w = .ok (.int .i64 0) w := by kernel_rfl
def MapT (w : World) (mb n N : Nat) : Prop :=
 ∃ D : DataW Nat, w.ownsMap Tryz.prog 159 (plainElem Tryz.prog 3) mb n D ∧ IsMap D ∧ ∀ kl c, WideAt.IsKeyLit kl → D.atKey kl .nil = .lit (.int .i64 c) → 0 ≤ c ∧ c < N
theorem MapT.made (w : World) (N : Nat) : MapT (w.alloc (.map #[] 0)) w.heap.size 0 N :=
 ⟨.map [], World.ownsMap_made w _ _ _, isMap_empty, fun k c _ h => by simp [DataW.atKey] at h⟩
theorem MapT.lt {w : World} {mb n N : Nat} (h : MapT w mb n N) : mb < w.heap.size := by obtain ⟨D, h, -⟩ := h; exact h.lt
theorem MapT.mono {w : World} {mb n m N M : Nat} (h : MapT w mb n N) (hm : n ≤ m) (hN : N ≤ M) : MapT w mb m M := by
 obtain ⟨D, h, r, s⟩ := h
 exact ⟨D, h.mono hm, r, fun kl c h1 h2 => by have := s kl c h1 h2; omega⟩
theorem MapT.keep {w w' : World} {mb n N : Nat} (h : MapT w mb n N) (hb : w'.heap[mb]? = w.heap[mb]?) : MapT w' mb n N := by
 obtain ⟨D, ⟨es, clock, h1, h2⟩, r⟩ := h
 exact ⟨D, ⟨es, clock, hb.trans h1, h2⟩, r⟩
theorem MapT.look {w : World} {mb n N : Nat} (h : MapT w mb n N) {x y z : Nat} (hx : x < 256) (hy : y < 256) (hz : z < 256) :
   ∃ (c : Int) (is : Bool), (Instr.lookup 119 (.map (some mb)) (thV x y z) true).run Tryz.prog w = .ok (.tuple #[.int .i64 c, .bool is]) w ∧ (is = true → 0 ≤ c ∧ c < N) ∧ (is = false → c = 0) := by
 obtain ⟨D, ⟨es, clock, hb, F, hs, rfl⟩, hm, hD⟩ := h
 obtain ⟨kl, hk⟩ := key_th hx hy hz
 rcases Maps.fit_look true keyedT Tryz.underlying119 (zeroT w) hb F hk with ⟨hrun, -, h0⟩ | ⟨e0, u, -, -, hrun, hRv, h1, -⟩
 · exact ⟨0, false, by rw [hrun]; rfl, ⟨fun h => by simp at h, fun _ => rfl⟩⟩
 · obtain ⟨c, hv, hu⟩ := plainElem_int_inv Tryz.underlying3 hRv
   refine ⟨c, true, by rw [hrun, hv]; rfl, ⟨fun _ => hD kl c (keyedT.key hk) ?_, fun h => by simp at h⟩⟩
   rw [h1 .nil, hu.1]
theorem MapT.store {w : World} {mb n N : Nat} (h : MapT w mb n N) {x y z : Nat} (hx : x < 256) (hy : y < 256) (hz : z < 256) {i : Nat} (hi : i < N) (hN : N ≤ 1000000000) (hn : n < maxLen) :
   ∃ w', (Instr.mapUpdate 119 (.map (some mb)) (thV x y z) (.int .i64 i)).run Tryz.prog w = .ok () w' ∧ MapT w' mb (n + 1) N ∧ w.grownBy w' (some mb) ∧ w'.heap.size = w.heap.size := by
 obtain ⟨D, ho, hm, hD⟩ := h
 obtain ⟨kl, hk⟩ := key_th hx hy hz
 obtain ⟨es, clock, hb, F, hs, hDe⟩ := ho
 have hR : plainElem (H := Nat) Tryz.prog 3 (.int .i64 (i : Int)) = some (.lit (.int .i64 (i : Int)), []) := plainElem_int Tryz.underlying3 (by simp [Lit.wf, IntKind.min, IntKind.max, IntKind.signed, IntKind.bits]; omega)
 obtain ⟨es', clock', hrun, F', hput, _⟩ := Maps.fit_store (R' := plainElem Tryz.prog 3) keyedT Tryz.underlying119 hb F (Nat.lt_of_le_of_lt hs hn) (fun _ _ _ _ hz => hz) hk hR
 obtain ⟨w1, hrun1, ho1, hg1⟩ := World.ownsMap.update (R := plainElem Tryz.prog 3) ⟨es, clock, hb, F, hs, hDe⟩ keyedT Tryz.underlying119 hn hk hR
 have hw1 : w1 = setBlock w mb (.map es' clock') := by
   rw [hrun] at hrun1
   simp only [Result.ok.injEq] at hrun1
   exact hrun1.2.symm
 refine ⟨w1, hrun1, ⟨D.put kl (.lit (.int .i64 i)), ho1, hm.put _ _, fun kj c hj hc => ?_⟩, hg1, by rw [hw1]; simp [setBlock]⟩
 by_cases he : kj = kl
 · subst he
   rw [atKey_put_same hm hj] at hc
   cases hc
   omega
 · rw [atKey_put_other he] at hc
   exact hD kj c hj hc
structure FinQ (w : World) (fb pb mb : Nat) (a : Option Addr) (n cap cnt : Nat) (b : List UInt8) : Prop where
 c0 : w.cell? ⟨fb, 0, none⟩ = some (.slice a n cap)
 c1 : w.cell? ⟨fb, 1, none⟩ = some (.map (some mb))
 c2 : w.cell? ⟨fb, 2, none⟩ = some (.slice (some ⟨pb, 0, none⟩) n n)
 row : Row w 1 a n cap (b.map fun x => .int .u8 x.toNat)
 m : MapT w mb cnt n
 p : ∃ f : Nat → Int, w.heap[pb]? = some (.cells (fl n fun j => .int .i64 (f j)).toArray 3 (0, 0)) ∧ ∀ j, j < n → -1 ≤ f j ∧ f j < n
 pm : pb ≠ mb
 fp : fb ≠ pb
 fm : fb ≠ mb
 ap : ∀ x, a = some x → x.block ≠ pb ∧ x.block ≠ mb
theorem FinQ.plt {w : World} {fb pb mb : Nat} {a : Option Addr} {n cap cnt : Nat} {b : List UInt8} (h : FinQ w fb pb mb a n cap cnt b) : pb < w.heap.size := by
 obtain ⟨f, hf, -⟩ := h.p
 exact (Array.getElem?_eq_some_iff.1 hf).1
theorem FinQ.keeps {w w' : World} {fb pb mb : Nat} {a : Option Addr} {n cap cnt : Nat} {b : List UInt8} {S : Nat → Prop} (h : FinQ w fb pb mb a n cap cnt b) (hk : zaa S w w') (h1 : ¬ S fb) (h2 : ¬ S pb) (h3 : ¬ S mb) (h4 : ∀ x, a = some x → ¬ S x.block) : FinQ w' fb pb mb a n cap cnt b where
 c0 := hk.cell h.c0 h1
 c1 := hk.cell h.c1 h1
 c2 := hk.cell h.c2 h1
 row := h.row.keeps hk h4
 m := h.m.keep (hk.block _ h.m.lt h3)
 p := by
   obtain ⟨f, hf, r⟩ := h.p
   exact ⟨f, hk.obj hf h2, r⟩
 pm := h.pm
 fp := h.fp
 fm := h.fm
 ap := h.ap
theorem FinQ.below {w w' : World} {fb pb mb : Nat} {a : Option Addr} {n cap cnt : Nat} {b : List UInt8} (h : FinQ w fb pb mb a n cap cnt b) (hb : Below w.heap.size w w') : FinQ w' fb pb mb a n cap cnt b where
 c0 := cell?_keep hb h.c0
 c1 := cell?_keep hb h.c1
 c2 := cell?_keep hb h.c2
 row := h.row.mono hb
 m := h.m.keep (hb.block _ h.m.lt)
 p := by
   obtain ⟨f, hf, r⟩ := h.p
   exact ⟨f, za3 hb hf, r⟩
 pm := h.pm
 fp := h.fp
 fm := h.fm
 ap := h.ap
theorem FinQ.setP {w : World} {fb pb mb : Nat} {a : Option Addr} {n cap cnt : Nat} {b : List UInt8} (h : FinQ w fb pb mb a n cap cnt b) (i : Nat) (c : Int) (hc : -1 ≤ c ∧ c < n) : FinQ (w.setCell ⟨pb, i, none⟩ (.int .i64 c)) fb pb mb a n cap cnt b := by
 have hk : zaa (fun b => b = pb) w (w.setCell ⟨pb, i, none⟩ (.int .i64 c)) := (zaa.refl (fun b => b = pb) w).setCell (a := ⟨pb, i, none⟩) (.inl rfl) _
 exact {
   c0 := hk.cell h.c0 h.fp
   c1 := hk.cell h.c1 h.fp
   c2 := hk.cell h.c2 h.fp
   row := h.row.keeps hk fun x hx => (h.ap x hx).1
   m := h.m.keep (hk.block _ h.m.lt (Ne.symm h.pm))
   p := by
     obtain ⟨f, hf, r⟩ := h.p
     refine ⟨fun j => if j = i then c else f j, ?_, fun j hj => ?_⟩
     · rw [zaM hf]
       exact congrArg (fun x => some (Obj.cells (List.toArray x) _ _)) (zal fun j _ => by by_cases h0 : j = i <;> simp [h0])
     · by_cases h0 : j = i
       · simp only [h0, if_true]; exact hc
       · simp only [h0, if_false]; exact r j hj
   pm := h.pm
   fp := h.fp
   fm := h.fm
   ap := h.ap }
theorem FinQ.setM {w w' : World} {fb pb mb : Nat} {a : Option Addr} {n cap cnt : Nat} {b : List UInt8} (h : FinQ w fb pb mb a n cap cnt b) (hm : MapT w' mb (cnt + 1) n) (hk : zaa (fun b => b = mb) w w') : FinQ w' fb pb mb a n cap (cnt + 1) b where
 c0 := hk.cell h.c0 h.fm
 c1 := hk.cell h.c1 h.fm
 c2 := hk.cell h.c2 h.fm
 row := h.row.keeps hk fun x hx => (h.ap x hx).2
 m := hm
 p := by
   obtain ⟨f, hf, r⟩ := h.p
   exact ⟨f, hk.obj hf h.pm, r⟩
 pm := h.pm
 fp := h.fp
 fm := h.fm
 ap := h.ap
theorem FinQ.drew {w : World} {fb pb mb : Nat} {a : Option Addr} {n cap cnt : Nat} {b : List UInt8} (h : FinQ w fb pb mb a n cap cnt b) : FinQ w.drew fb pb mb a n cap cnt b :=
 h.keeps (S := fun _ => False) ⟨rfl, rfl, rfl, Nat.le_refl _, fun _ _ _ => rfl⟩ id id id fun _ _ => id
theorem zaa.drew {S : Nat → Prop} {w w' : World} (h : zaa S w w') : zaa S w w'.drew := ⟨h.os, h.tape, h.output, h.size, h.block⟩
theorem FinQ.more {w : World} {fb pb mb : Nat} {a : Option Addr} {n cap cnt m : Nat} {b : List UInt8} (h : FinQ w fb pb mb a n cap cnt b) (hm : cnt ≤ m) : FinQ w fb pb mb a n cap m b := { h with m := h.m.mono hm (Nat.le_refl _) }
def NoteEnd (w : World) (fb pb mb : Nat) (a : Option Addr) (n cap cnt : Nat) (b : List UInt8) (e : Ending) (w' : World) : Prop := e = .returned (.tuple #[]) ∧ FinQ w' fb pb mb a n cap (cnt + 1) b ∧ zaa (fun b => b = pb ∨ b = mb) w w'
theorem zaa.of_below2 {w w' : World} {S : Nat → Prop} (h : Below w.heap.size w w') : zaa S w w' := ⟨h.os, h.tape, h.output, h.size, fun b hb _ => h.block b hb⟩
theorem note_any {w : World} {fb pb mb : Nat} {a : Option Addr} {n cap cnt i : Nat} {b : List UInt8} (h : FinQ w fb pb mb a n cap cnt b) (hi : i < n) (hn : n ≤ 100000000) (hcnt : cnt ≤ 1000000000) :
   Calls Tryz.prog 86 #[.pointer (some ⟨fb, 0, none⟩), .int .i64 i] w (NoteEnd w fb pb mb a n cap cnt b) := by
 have HAT := Lib.hid (at_any h.row h.c0 (i := i) (by omega))
 have HQ := Lib.hid h
 clear h
 go_enter Tryz.func86, Tryz.ntmps86
 go_wp2_with fail
 refine HAT.out.mono ?_
 rintro e w1 ⟨hb, x, y, z, is, rfl, hx, hy, hz⟩
 unfold thV
 have hq1 := HQ.out.below hb
 have k1 : zaa (fun b => b = pb ∨ b = mb) w w1 := zaa.of_below2 hb
 have hbA := zai w1 (.cells #[.int .u8 x, .int .u8 y, .int .u8 z] 159)
 have HN := Lib.hid (show FinQ (w1.alloc (.cells #[.int .u8 x, .int .u8 y, .int .u8 z] 159)) fb pb mb a n cap cnt b ∧ zaa (fun b => b = pb ∨ b = mb) w (w1.alloc (.cells #[.int .u8 x, .int .u8 y, .int .u8 z] 159)) from ⟨hq1.below hbA, k1.alloc _⟩)
 have hnew := heap_alloc_new w1 (.cells #[.int .u8 x, .int .u8 y, .int .u8 z] 159)
 have hqb := hq1.plt
 have t0 := cell_of_row _ _ 0 _ _ _ hnew
 have t1 := cell_of_row _ _ 1 _ _ _ hnew
 have t2 := cell_of_row _ _ 2 _ _ _ hnew
 obtain ⟨tb, htb⟩ : ∃ tb, tb = w1.heap.size := ⟨_, rfl⟩
 rw [← htb] at t0 t1 t2 hqb
 simp at t0 t1 t2
 have HB := Lib.hid htb
 have hsz : tb < (w1.alloc (.cells #[.int .u8 x, .int .u8 y, .int .u8 z] 159)).heap.size := by rw [zad]; omega
 have hfp := HQ.out.fp
 have hptb : pb ≠ tb := by have := hq1.plt; omega
 have hftb : fb ≠ tb := by have : fb < w1.heap.size := World.block_lt_of_cell? w1 _ hq1.c0; omega
 have hmtb : mb ≠ tb := by have := hq1.m.lt; omega
 clear hnew hbA k1 hq1 htb hb
 go_upto_region 1 with fail
 generalize w1.alloc (.cells #[.int .u8 x, .int .u8 y, .int .u8 z] 159) = w2 at HN t0 t1 t2 hsz ⊢
 rw [← HB.out]
 obtain ⟨hq2, hk2⟩ := HN.out
 have d2 := hq2.c2
 obtain ⟨f, hpf, hf⟩ := hq2.p
 have p2 := zan hpf i hi
 have p3 := zaT hpf i
 have HQ3 := Lib.hid (hq2.setP i (-1) ⟨by omega, by omega⟩)
 have HK3 := Lib.hid (hk2.setCell (a := ⟨pb, i, none⟩) (.inl (.inl rfl)) (.int .i64 (-1)))
 clear hq2 hk2 hpf hf HQ HN
 have hin : (i : Int) < (n : Int) := by omega
 go_upto_region 2 with fail
 have t03 : (w2.setCell ⟨pb, i, none⟩ (.int .i64 (-1))).cell? ⟨tb, 0, none⟩ = some (.int .u8 x) := by rw [← t0]; exact World.cell?_setCell_far _ _ _ _ hptb
 have t13 : (w2.setCell ⟨pb, i, none⟩ (.int .i64 (-1))).cell? ⟨tb, 1, none⟩ = some (.int .u8 y) := by rw [← t1]; exact World.cell?_setCell_far _ _ _ _ hptb
 have t23 : (w2.setCell ⟨pb, i, none⟩ (.int .i64 (-1))).cell? ⟨tb, 2, none⟩ = some (.int .u8 z) := by rw [← t2]; exact World.cell?_setCell_far _ _ _ _ hptb
 clear t0 t1 t2 d2 p2 p3
 generalize w2.setCell ⟨pb, i, none⟩ (.int .i64 (-1)) = w3 at HQ3 HK3 t03 t13 t23 ⊢
 cases is with
 | false =>
   go_wp2_with fail
   go_end0
   exact ⟨rfl, HQ3.out.more (by omega), HK3.out⟩
 | true =>
   have d1 := HQ3.out.c1
   have d2 := HQ3.out.c2
   obtain ⟨c, is, hrun, hc1, hc0⟩ := (HQ3.out.m.keep (w' := w3.drew) rfl).look hx hy hz
   unfold thV at hrun
   have HC1 := Lib.hid hc1
   have HC0 := Lib.hid hc0
   clear hc1 hc0
   go_wp2_with fail
   go_region
   have HEND := Lib.hid (show ∀ w4, FinQ w4 fb pb mb a n cap cnt b → zaa (fun b => b = pb ∨ b = mb) w w4 → ∃ w5, (Instr.mapUpdate 119 (.map (some mb)) (.agg #[.int .u8 x, .int .u8 y, .int .u8 z]) (.int .i64 i)).run Tryz.prog w4.drew = .ok () w5 ∧ NoteEnd w fb pb mb a n cap cnt b (.returned (.tuple #[])) w5 from by
     intro w4 hq hk
     obtain ⟨w5, hr, hm, hg, -⟩ := hq.drew.m.store hx hy hz hi (by omega) (by unfold maxLen; omega)
     have hk5 : zaa (fun b => b = mb) w4.drew w5 := zaa.of_grown hg fun k hk => by injection hk with hk; exact hk.symm
     exact ⟨w5, hr, rfl, hq.drew.setM hm hk5, hk.drew.trans hk5 fun b hb => .inl (.inr hb)⟩)
   cases is with
   | false =>
     obtain ⟨w5, hrun5, hend⟩ := HEND.out w3.drew HQ3.out.drew HK3.out.drew
     have HE5 := Lib.hid hend
     clear hrun hend
     go_wp2_with fail
     go_region
     go_end0
     exact HE5.out
   | true =>
     obtain ⟨f, hpf, hf⟩ := HQ3.out.drew.p
     have p2 := zan hpf i hi
     have p3 := zaT hpf i
     have hcc := HC1.out rfl
     have hq4 := (HQ3.out.setP i c ⟨by omega, by omega⟩).drew
     have hk4 := (HK3.out.setCell (a := ⟨pb, i, none⟩) (.inl (.inl rfl)) (.int .i64 c)).drew
     obtain ⟨w5, hrun5, hend⟩ := HEND.out _ hq4 hk4
     have HE5 := Lib.hid hend
     clear hrun hend hq4 hk4 hpf hf hcc
     go_wp2_with fail
     go_region
     go_end0
     exact HE5.out
theorem tsize_any {w : World} (y l : Nat) (f : Int) (hl : l ≤ 100000) :
   Calls Tryz.prog 85 #[.agg #[.int .u8 y,   .int .i64 (l : Nat), .int .i64 f]] w fun e w' => e = .returned (.int .i64 ((max 1 l : Nat) : Int)) ∧ Below w.heap.size w w' := by
 have hb := zai w (.cells #[.int .u8 y, .int .i64 (l : Nat), .int .i64 f] 123)
 go_enter Tryz.func85, Tryz.ntmps85
 go_wp2_with fail
 · go_ret
   exact ⟨zav (by omega), hb⟩
 · go_ret
   exact ⟨zav (by omega), hb⟩
def RepOk (b : List UInt8) (i k : Nat) (far : Int) : Prop := (k = 0 ∧ far = 0) ∨ (0 < k ∧ zc3 b i far k ∧ far ≤ 32768)
def zfZ (w : World) (b : List UInt8) (i : Nat) (e : Ending) (w' : World) : Prop := Below w.heap.size w w' ∧ ∃ (k : Nat) (far : Int), e = .returned (.tuple #[.int .i64 k, .int .i64 far]) ∧ RepOk b i k far ∧ (0 < k → 3 ≤ k)
theorem best_any {w : World} {fb pb mb : Nat} {a : Option Addr} {n cap cnt i : Nat} {b : List UInt8} (h : FinQ w fb pb mb a n cap cnt b) (hi : i < n) (hn : n ≤ 100000000) :
   Calls Tryz.prog 84 #[.pointer (some ⟨fb, 0, none⟩), .int .i64 i] w (zfZ w b i) := by
 have HAT := Lib.hid (at_any h.row h.c0 (i := i) (by omega))
 have HQ := Lib.hid h
 clear h
 go_enter Tryz.func84, Tryz.ntmps84
 go_wp2
 go_step3
 go_wp2_with fail
 refine HAT.out.mono ?_
 rintro e w1 ⟨hb, x, y, z, is, rfl, hx, hy, hz⟩
 unfold thV
 have hq1 := HQ.out.below hb
 have hbA := zai w1 (.cells #[.int .u8 x, .int .u8 y, .int .u8 z] 159)
 have HN := Lib.hid (show FinQ (w1.alloc (.cells #[.int .u8 x, .int .u8 y, .int .u8 z] 159)) fb pb mb a n cap cnt b ∧ Below w.heap.size w (w1.alloc (.cells #[.int .u8 x, .int .u8 y, .int .u8 z] 159)) from ⟨hq1.below hbA, hb.alloc hb.size _⟩)
 have hnew := heap_alloc_new w1 (.cells #[.int .u8 x, .int .u8 y, .int .u8 z] 159)
 have t0 := cell_of_row _ _ 0 _ _ _ hnew
 have t1 := cell_of_row _ _ 1 _ _ _ hnew
 have t2 := cell_of_row _ _ 2 _ _ _ hnew
 obtain ⟨tb, htb⟩ : ∃ tb, tb = w1.heap.size := ⟨_, rfl⟩
 rw [← htb] at t0 t1 t2
 simp at t0 t1 t2
 clear hnew hbA hq1 hb
 go_upto_region 3 with fail
 generalize w1.alloc (.cells #[.int .u8 x, .int .u8 y, .int .u8 z] 159) = w2 at HN t0 t1 t2 ⊢
 rw [← htb]
 clear htb
 have d1 := HN.out.1.c1
 obtain ⟨c, was, hrun, hc1, hc0⟩ := (HN.out.1.m.keep (w' := w2.drew) rfl).look hx hy hz
 unfold thV at hrun
 have HC1 := Lib.hid hc1
 clear hc1 hc0
 have HNO := Lib.hid (show ∀ q, zfZ w b i (.returned (.tuple #[.int .i64 0, .int .i64 0])) (w2.drewN q) from fun q => ⟨HN.out.2.trans (zak (Below.refl _ _) q), 0, 0, rfl, .inl ⟨rfl, rfl⟩, fun h => by omega⟩)
 go_upto_region 4 with fail
 go_region
 by_cases hcase : is = true ∧ was = true
 case neg =>
   have hor : is = false ∨ was = false := by
     cases is <;> cases was <;> simp at hcase ⊢
   clear hrun
   rcases hor with rfl | rfl
   · go_wp2_with fail
     go_ret2
     exact HNO.out 1
   · cases is with
     | false =>
       go_wp2_with fail
       go_ret2
       exact HNO.out 1
     | true =>
       go_wp2_with fail
       go_ret2
       exact HNO.out 1
 obtain ⟨rfl, rfl⟩ := hcase
 have hcc := HC1.out rfl
 have HQ2 := Lib.hid HN.out.1.drew
 have HB2 := Lib.hid (show Below w.heap.size w w2.drew from HN.out.2.trans (zak (Below.refl _ _) 1))
 clear hrun HN HNO t0 t1 t2 d1 HAT HQ HC1
 generalize w2.drew = w3 at HQ2 HB2 ⊢
 have HE := Lib.hid (show ∀ (L : Nat) (F : Int) (W : World), Below w3.heap.size w3 W → RepOk b i L F → 3 ≤ L → zfZ w b i (.returned (.tuple #[.int .i64 L, .int .i64 F])) W from fun L F W hW hr h3 => ⟨HB2.out.trans (hW.mono HB2.out.size), L, F, rfl, hr, fun _ => h3⟩)
 have HE0 := Lib.hid (show ∀ (W : World), Below w3.heap.size w3 W → zfZ w b i (.returned (.tuple #[.int .i64 0, .int .i64 0])) W from fun W hW => ⟨HB2.out.trans (hW.mono HB2.out.size), 0, 0, rfl, .inl ⟨rfl, rfl⟩, fun h => by omega⟩)
 go_wp2_with fail
 go_step3
 go_wp2_with fail
 go_loopw [6, 7, 10, 12, 13] (fun vl vf vp vn vk wr => ∃ (p : Int) (m L : Nat) (F : Int), vp = .int .i64 p ∧ vn = .int .i64 m ∧ vl = .int .i64 L ∧ vf = .int .i64 F ∧ m ≤ 32 ∧ (-1 ≤ p ∧ p < n) ∧ L ≤ 258 ∧ Hid (RepOk b i L F) ∧ Hid (Below w3.heap.size w3 wr)) (fun _ _ _ vn _ _ => 32 - (intOf vn).toNat)
 case atStart => exact ⟨c, 0, 0, 0, rfl, rfl, rfl, rfl, by omega, by omega, by omega, Lib.hid (.inl ⟨rfl, rfl⟩), Lib.hid (Below.refl _ _)⟩
 case round =>
   obtain ⟨p, m, L, F, rfl, rfl, rfl, rfl, hm, hp, hL, HR, HW⟩ := hrel
   have hq := HQ2.out.below HW.out
   have e0 := hq.c0
   have e2 := hq.c2
   have HROW := Lib.hid hq.row
   have HP := Lib.hid hq.p
   clear hq
   by_cases c1 : 0 ≤ p
   case neg =>
     have d1 : decide (p ≥ 0) = false := decide_eq_false (by omega)
     have d1b : ¬ (0 ≤ p) := c1
     by_cases h3 : L < 3
     · have d3 : decide ((L : Int) < 3) = true := decide_eq_true (by omega)
       go_wp2_with fail
       try rw [Exit.noGoto_ret]
       go_ret2
       exact HE0.out _ HW.out
     · have d3 : decide ((L : Int) < 3) = false := decide_eq_false (by omega)
       go_wp2_with fail
       try rw [Exit.noGoto_ret]
       go_ret2
       exact HE.out _ _ _ HW.out HR.out (by omega)
   have d1 : decide (p ≥ 0) = true := decide_eq_true (by omega)
   by_cases c2 : (i : Int) - p ≤ 32768
   case neg =>
     have d2 : decide ((i : Int) - p ≤ 32768) = false := decide_eq_false (by omega)
     by_cases h3 : L < 3
     · have d3 : decide ((L : Int) < 3) = true := decide_eq_true (by omega)
       go_wp2_with fail
       try rw [Exit.noGoto_ret]
       go_ret2
       exact HE0.out _ HW.out
     · have d3 : decide ((L : Int) < 3) = false := decide_eq_false (by omega)
       go_wp2_with fail
       try rw [Exit.noGoto_ret]
       go_ret2
       exact HE.out _ _ _ HW.out HR.out (by omega)
   have d2 : decide ((i : Int) - p ≤ 32768) = true := decide_eq_true c2
   have HM := Lib.hid (match_any HROW.out i ((i : Int) - p) (by omega) (by omega))
   go_wp2_with fail
   refine HM.out.mono ?_
   rintro e wq ⟨k, rfl, ⟨q, rfl⟩, hmk⟩
   have HWq := Lib.hid (zak HW.out q)
   have HMK := Lib.hid hmk
   obtain ⟨f, hpf, hf⟩ := HP.out
   obtain ⟨pn, rfl⟩ : ∃ pn : Nat, p = pn := ⟨p.toNat, by omega⟩
   have g2 : (wr.drewN q).cell? ⟨pb, pn, none⟩ = some (.int .i64 (f pn)) := zan (w := wr.drewN q) hpf pn (by omega)
   have e2q : (wr.drewN q).cell? ⟨fb, 2, none⟩ = some (.slice (some ⟨pb, 0, none⟩) n n) := e2
   have hfp := hf pn (by omega)
   have hpn : (pn : Int) < (n : Int) := by omega
   have hk258 : k ≤ 258 := hmk.1
   generalize f pn = fp at g2 hfp
   clear hmk hpf hf HM HP HROW HW e0 e2 d1 d2
   generalize wr.drewN q = w4 at HWq g2 e2q ⊢
   have hfar : (i : Int) - pn ≤ 32768 := c2
   have HF := Lib.hid (show ∀ K' : Nat, K' = k → L < k → RepOk b i k ((i : Int) - pn) from fun _ _ h => .inr ⟨by omega, HMK.out, hfar⟩)
   by_cases hkl : L < k
   · have dk : decide ((k : Int) > (L : Int)) = true := decide_eq_true (by omega)
     have dk2 : (L : Int) < (k : Int) := by omega
     have HR2 := Lib.hid (HF.out k rfl hkl)
     clear HF HMK HR c2 c1
     go_upto_region 12 with fail
     by_cases m32 : m = 32
     · have dm : ((m : Int) == 32) = true := by rw [m32]; rfl
       have dm2 : decide ((m : Int) = 32) = true := decide_eq_true (by omega)
       clear m32
       by_cases h3 : k < 3
       · have d3 : decide ((k : Int) < 3) = true := decide_eq_true (by omega)
         go_wp2_with fail
         try rw [Exit.noGoto_ret]
         go_ret2
         exact HE0.out _ HWq.out
       · have d3 : decide ((k : Int) < 3) = false := decide_eq_false (by omega)
         go_wp2_with fail
         try rw [Exit.noGoto_ret]
         go_ret2
         exact HE.out _ _ _ HWq.out HR2.out (by omega)
     have dm : ((m : Int) == 32) = false := by simp; omega
     have dm2 : decide ((m : Int) = 32) = false := decide_eq_false (by omega)
     by_cases l258 : k = 258
     · have dl : ((k : Int) == 258) = true := by rw [l258]; rfl
       have dl2 : decide ((k : Int) = 258) = true := decide_eq_true (by omega)
       have h3 : ¬ k < 3 := by omega
       have d3 : decide ((k : Int) < 3) = false := decide_eq_false (by omega)
       clear l258
       go_wp2_with fail
       try rw [Exit.noGoto_ret]
       go_ret2
       exact HE.out _ _ _ HWq.out HR2.out (by omega)
     have dl : ((k : Int) == 258) = false := by simp; omega
     have dl2 : decide ((k : Int) = 258) = false := decide_eq_false (by omega)
     go_wp2_with fail
     go_roundw
     case rel => exact ⟨fp, m + 1, k, _, rfl, by go_num, rfl, rfl, by omega, hfp, hk258, HR2, HWq⟩
     case measure => simp [intOf]; omega
   · have dk : decide ((k : Int) > (L : Int)) = false := decide_eq_false (by omega)
     have dk2 : ¬ (L : Int) < (k : Int) := by omega
     have HR2 := HR
     clear HF HMK HR c2 c1
     go_upto_region 12 with fail
     by_cases m32 : m = 32
     · have dm : ((m : Int) == 32) = true := by rw [m32]; rfl
       have dm2 : decide ((m : Int) = 32) = true := decide_eq_true (by omega)
       clear m32
       by_cases h3 : L < 3
       · have d3 : decide ((L : Int) < 3) = true := decide_eq_true (by omega)
         go_wp2_with fail
         try rw [Exit.noGoto_ret]
         go_ret2
         exact HE0.out _ HWq.out
       · have d3 : decide ((L : Int) < 3) = false := decide_eq_false (by omega)
         go_wp2_with fail
         try rw [Exit.noGoto_ret]
         go_ret2
         exact HE.out _ _ _ HWq.out HR2.out (by omega)
     have dm : ((m : Int) == 32) = false := by simp; omega
     have dm2 : decide ((m : Int) = 32) = false := decide_eq_false (by omega)
     by_cases l258 : L = 258
     · have dl : ((L : Int) == 258) = true := by rw [l258]; rfl
       have dl2 : decide ((L : Int) = 258) = true := decide_eq_true (by omega)
       have h3 : ¬ L < 3 := by omega
       have d3 : decide ((L : Int) < 3) = false := decide_eq_false (by omega)
       clear l258
       go_wp2_with fail
       try rw [Exit.noGoto_ret]
       go_ret2
       exact HE.out _ _ _ HWq.out HR2.out (by omega)
     have dl : ((L : Int) == 258) = false := by simp; omega
     have dl2 : decide ((L : Int) = 258) = false := decide_eq_false (by omega)
     go_wp2_with fail
     go_roundw
     case rel => exact ⟨fp, m + 1, L, _, rfl, by go_num, rfl, rfl, by omega, hfp, hL, HR2, HWq⟩
     case measure => simp [intOf]; omega
end Go.Proofs.YtkikhmdpcanidaaGreat
