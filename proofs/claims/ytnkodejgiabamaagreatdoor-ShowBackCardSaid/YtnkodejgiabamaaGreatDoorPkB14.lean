/-
  Our texts Dv3 to Dw1, in one.
-/
import Derived.Test.YtnkodejgiabamaaGreatDoorPkB13
import Derived.Deep.RegionLaw
import Derived.Deep.AppendLies
set_option maxRecDepth 8000
set_option maxHeartbeats 8000000
namespace Go.Proofs.YtnkodejgiabamaaGreatDoor
open Go.RowKit
mutual
theorem IsV.lt {w : World} {F : Nat → Prop} : ∀ (v : PV) {sl : Value}, IsV w F v sl → IsV w (fun b => F b ∧ b < w.heap.size) v sl
 | .mk _ _ _ l, _, ⟨a, cap, cs, h, hr, hF, hs⟩ => ⟨a, cap, cs, h, hr, fun h0 x hx => ⟨hF h0 x hx, by
     obtain ⟨b, off, ha, hb, _⟩ := hr.2.2.2.2 h0
     rw [ha] at hx
     cases hx
     exact hb⟩, IsVs.lt l hs⟩
theorem IsVs.lt {w : World} {F : Nat → Prop} : ∀ (l : List PV) {cs : List Value}, IsVs w F l cs → IsVs w (fun b => F b ∧ b < w.heap.size) l cs
 | [], _, h => h
 | v :: l, _, ⟨sl, t, h, hv, ht⟩ => ⟨sl, t, h, IsV.lt v hv, IsVs.lt l ht⟩
end
theorem Stays.weakenF {F G : Nat → Prop} {w w' : World} (h : Stays F w w') (hG : ∀ b, G b → F b) : Stays G w w' := ⟨h.1, fun b hb hf => h.2 b hb (hG b hf)⟩
def ArrM (Q : Nat) (w : World) (v : Value) (n : Nat) (l : List PV) : Prop := ∃ cs, w.ownsRow Q 24 4 v n cs ∧ IsVs w (fun b => Q ≤ b ∧ b < w.heap.size ∧ v.ownBlock ≠ some b) l cs
theorem ArrM.keep {Q : Nat} {w W : World} {v : Value} {n : Nat} {l : List PV} (h : ArrM Q w v n l) (hb : Below w.heap.size w W) : ArrM Q W v n l :=
 let ⟨cs, h1, h2⟩ := h
 ⟨cs, ownsRow_keep h1 hb, IsVs.keep (Stays.of_below hb) (fun _ h => ⟨h.1, Nat.lt_of_lt_of_le h.2.1 hb.size, h.2.2⟩) _ h2⟩
theorem ArrM.push {Q : Nat} {w w' : World} {v v' : Value} {n : Nat} {l : List PV} {cs : List Value} (h2 : IsVs w (fun b => Q ≤ b ∧ b < w.heap.size ∧ v.ownBlock ≠ some b) l cs) {x : PV} {sx : Value} (hx : IsV w (fun b => Q ≤ b ∧ b < w.heap.size ∧ v.ownBlock ≠ some b) x sx) {o : Obj}
   (hO : w'.ownsRow Q 24 4 v' (n + 1) (cs ++ pvC x sx)) (hg : (w.alloc o).grownBy w' v.ownBlock) (hn : NewAt (w.alloc o) v v') : ArrM Q w' v' (n + 1) (l ++ [x]) := by
 have hs : w.heap.size ≤ w'.heap.size := Nat.le_trans (by rw [sizeA]; omega) hg.size
 refine ⟨_, hO, IsVs.keep (F := fun b => Q ≤ b ∧ b < w.heap.size ∧ v.ownBlock ≠ some b) ⟨hs, fun b hb hF => ?_⟩ (fun b hF => ⟨hF.1, Nat.lt_of_lt_of_le hF.2.1 hs, fun e => ?_⟩) _ (h2.snoc hx)⟩
 · rw [hg.block b (by rw [sizeA]; omega) (fun e => hF.2.2 e.symm)]
   exact (belowA w o).block b hb
 · rcases hn b e with e | e
   · exact hF.2.2 e
   · rw [sizeA] at e; omega
def ValD (bs : List UInt8) (last : Bool) (d : Nat) : Prop := ∀ (w : World) (a : Option Addr) (cap : Nat), Row w 1 a bs.length cap (bs.map u8C) → ∀ (x : Tk) (f tt : Int),
 Calls Tryz.prog 42 #[.slice a bs.length cap, .agg (tokN x f tt), .bool last, .int .i64 (64 - (d : Int))] w (DocEnd w (vlD bs last d x tt))
theorem array_doc {w : World} {a : Option Addr} {cap : Nat} {bs : List UInt8} (hr : Row w 1 a bs.length cap (bs.map u8C)) (hn : bs.length ≤ 400000) (last : Bool) (d : Nat) (k0 : Int) (hv : ValD bs last d) :
   Calls Tryz.prog 76 #[.slice a bs.length cap, .int .i64 k0, .bool last, .int .i64 (64 - (d : Int))] w (DocEnd w (arrD bs last (vlD bs last d) (bs.length + 1) [] k0)) := by
 have HN := Lib.hid (fun (W : World) (h : Below w.heap.size w W) (k : Int) => rnext_any (hr.mono h) hn k last)
 have HVL := Lib.hid (fun (W : World) (h : Below w.heap.size w W) (x : Tk) (f tt : Int) => hv W a cap (hr.mono h) x f tt)
 obtain ⟨fn, hfn⟩ : ∃ fn, fn = vlD bs last d := ⟨_, rfl⟩
 rw [← hfn] at HVL ⊢
 obtain ⟨R, hR⟩ : ∃ R, R = arrD bs last fn (bs.length + 1) [] k0 := ⟨_, rfl⟩
 rw [← hR]
 have HR := Lib.hid hR
 clear hr hv hfn hR
 generalize (64 - (d : Int)) = D at *
 obtain ⟨L, hL⟩ : ∃ L, L = bs.length := ⟨_, rfl⟩
 rw [← hL] at HN HVL HR hn ⊢
 clear hL
 unfold NextEnd tokN at HN
 unfold tokN at HVL
 go_enter Tryz.func76, Tryz.ntmps76
 obtain ⟨B, hB⟩ : ∃ B, B = w.heap.size := ⟨_, rfl⟩
 have HZ := Lib.hid (heapA_new (w := w) (b := B) (.cells #[.int .i64 0, .int .i64 0, .string ⟨#[]⟩, .slice none 0 0] 24) hB)
 have HBW := Lib.hid (belowA w (.cells #[.int .i64 0, .int .i64 0, .string ⟨#[]⟩, .slice none 0 0] 24))
 go_upto_region 1 with fail
 rw [← hB]
 have HBB := Lib.hid (Nat.le_of_eq hB.symm)
 clear hB
 generalize w.alloc _ = W1 at *
 go_wp2
 go_loopw [1, 11, 12] (fun vat vl vn wr => ∃ (k : Int) (i : Nat) (l : List PV), vat = .int .i64 k ∧ vn = .int .i64 i ∧ i ≤ L + 1 ∧ Hid (ArrM W1.heap.size wr vl i l) ∧ Hid (Below W1.heap.size W1 wr) ∧ Hid (R = arrD bs last fn (L + 1 - i) l k)) (fun _ _ vn _ => L + 1 - (intOf vn).toNat)
 case atStart => exact ⟨k0, 0, [], rfl, rfl, by omega, Lib.hid ⟨[], World.ownsRow_nil _ _ _ _, rfl⟩, Below.refl _ _, HR⟩
 case round =>
   obtain ⟨k, i, l, rfl, rfl, hi, HA, HB, HRR⟩ := hrel
   obtain ⟨cs0, hO0, -⟩ := HA.out
   obtain ⟨va, vc, hve, -⟩ := owns_slice hO0
   subst hve
   clear hO0 cs0
   have HBr := Lib.hid (HBW.out.trans (HB.out.mono HBW.out.size))
   have HZr := Lib.hid (block_keep HB.out HZ.out)
   by_cases q1 : i ≤ L
   case neg =>
     obtain rfl : i = L + 1 := by omega
     have hd1 : decide (L + 1 ≤ L) = false := decide_eq_false (by omega)
     have hd2 : decide (((L + 1 : Nat) : Int) ≤ (L : Int)) = false := decide_eq_false (by omega)
     have hd3 : decide ((L : Int) + 1 ≤ (L : Int)) = false := decide_eq_false (by omega)
     have hrr := HRR.out
     rw [Nat.sub_self] at hrr
     unfold arrD at hrr
     subst hrr
     clear HRR HA HR HN HVL q1 hi
     obtain ⟨⟨r0, r1, r2, r3⟩, rf0, rf1, rf2, rf3⟩ := cells4 HZr.out
     go_wp2
     refine bodyPost_ret (results_val3 rfl _ _ B 24 _ (0, 0) _ rfl (by exact set4 HZr.out _ _ _ _) Tryz.underlying24 rfl (by exact infoPV) _ _ rfl rfl) rfl ?_
     exact leaf_end (R := (PV.none, 0, 10)) rfl (below_set4 HBr.out HBB.out _ _ _ _)
   have hd1 : decide (i ≤ L) = true := decide_eq_true q1
   have hd2 : decide ((i : Int) ≤ (L : Int)) = true := decide_eq_true (by omega)
   have hq2 : (i : Int) ≤ (L : Int) := by omega
   have hi0 : (0 : Int) ≤ (i : Int) := by omega
   have hiw : IntKind.i64.wrap ((i : Int) + 1) = (i : Int) + 1 := IntWalk.i64_in _ (by omega)
   have hrr := HRR.out
   rw [show L + 1 - i = (L - i) + 1 by omega] at hrr
   unfold arrD at hrr
   have HN1 := Lib.hid (HN.out _ HBr.out k)
   generalize nextV bs k last = V at *
   obtain ⟨x, f, t, er⟩ := V
   simp only at hrr HN1
   have HV1 := Lib.hid (fun (W : World) (h : Below w.heap.size w W) => HVL.out W h x f t)
   replace HRR := Lib.hid hrr
   clear hrr HR
   obtain ⟨xk, xvk, xvn, xvs, xs⟩ := x
   simp only at HN1 HV1 HRR
   generalize hfx : fn { kind := xk, vk := xvk, vn := xvn, vs := xvs, s := xs } t = R1 at *
   clear hfx
   generalize mkB xvs = xvb at *
   generalize mkB xs = xb at *
   go_wp2_with fail
   refine HN1.out.mono ?_
   rintro e w2 ⟨rfl, hb2⟩
   have hb2a := hb2.alloc hb2.size (.cells #[.int .i64 xk, .int .i64 f, .int .i64 t, .int .i64 xvk, .int .i64 xvn, .string xvb, .slice none 0 0, .string xb] 59)
   have HA2 := Lib.hid (HA.out.keep hb2a)
   have HB2 := Lib.hid (HB.out.trans (hb2a.mono HB.out.size))
   have HT2 := Lib.hid (heapA_new (w := w2) (b := w2.heap.size) (.cells #[.int .i64 xk, .int .i64 f, .int .i64 t, .int .i64 xvk, .int .i64 xvn, .string xvb, .slice none 0 0, .string xb] 59) rfl)
   have HS2 := Lib.hid (show wr.heap.size ≤ w2.heap.size from hb2.size)
   have HW1 := Lib.hid (show W1.heap.size ≤ wr.heap.size from HB.out.size)
   clear hb2 hb2a HN1 HA HB HBr HZr
   go_upto_region 6 with fail
   obtain ⟨r2, hr2⟩ : ∃ r2, r2 = w2.heap.size := ⟨_, rfl⟩
   rw [← hr2] at HT2 ⊢
   have hrB : r2 ≠ B := by
     have h1 := lt_of_heap HZ.out
     have h2 := HS2.out
     have h3 := HW1.out
     omega
   clear hr2 HS2 HW1
   generalize w2.alloc _ = W2 at *
   have HBr := Lib.hid (HBW.out.trans (HB2.out.mono HBW.out.size))
   have HZr := Lib.hid (block_keep HB2.out HZ.out)
   obtain ⟨⟨t0, t1, t2, t3, t4, t5, t6, t7⟩, -⟩ := cells8 HT2.out
   obtain ⟨⟨r0, r1, r2', r3⟩, rf0, rf1, rf2, rf3⟩ := cells4 HZr.out
   by_cases her : er = 0
   case neg =>
     have e0 : (er == 0) = false := by rw [beq_eq_false_iff_ne]; exact her
     have e1 : (er != 0) = true := by simp only [bne, e0, Bool.not_false]
     have hrr := HRR.out
     rw [if_pos her] at hrr
     subst hrr
     clear HRR HA2 HN HVL her HV1 t0 t1 t2 t3 t4 t5 t6 t7
     go_wp2
     refine bodyPost_ret (results_val3 rfl _ _ B 24 _ (0, 0) _ rfl (by exact set4 HZr.out _ _ _ _) Tryz.underlying24 rfl (by exact infoPV) _ _ rfl rfl) rfl ?_
     exact leaf_end (R := (PV.none, 0, er)) rfl (below_set4 HBr.out HBB.out _ _ _ _)
   subst her
   have hrr := HRR.out
   rw [if_neg (by simp)] at hrr
   by_cases hk3 : xk = 3
   · have e3 : (xk == 3) = true := by rw [hk3]; rfl
     rw [if_pos hk3] at hrr
     subst hrr
     clear HRR HN HVL hk3 HV1
     obtain ⟨cs, hO, hVs⟩ := HA2.out
     obtain ⟨va', vc', hve, hrow, hbase⟩ := Row.of_owns hO
     cases hve
     have hlen := hVs.length
     have hlen2 : cs.length = i * 4 := hrow.1
     obtain rfl : i = l.length := by omega
     have HROW := Lib.hid hrow
     have HBS := Lib.hid hbase
     have HVS := Lib.hid hVs
     clear hO hrow hbase hVs hlen hlen2 HA2
     go_wp2
     go_region
     all_goals
       go_wp2
       refine bodyPost_ret (results_val3 rfl _ _ B 24 _ (0, 0) _ rfl (by exact set4 HZr.out _ _ _ _) Tryz.underlying24 rfl (by exact infoPV) _ _ rfl rfl) rfl ?_
       have hlB : B < W1.heap.size := lt_of_heap HZ.out
       have hwW := HBW.out.size
       have hst : ∀ y0 y1 y2 y3, Stays (fun b => W1.heap.size ≤ b) W2 ((((W2.setCell ⟨B, 0, none⟩ y0).setCell ⟨B, 1, none⟩ y1).setCell ⟨B, 2, none⟩ y2).setCell ⟨B, 3, none⟩ y3) := fun _ _ _ _ => ⟨by rw [set4_size]; exact Nat.le_refl _, fun b _ hb => set4_other (by omega) _ _ _ _⟩
       refine ⟨_, rfl, ?_, (below_set4 HBr.out HBB.out _ _ _ _).drew⟩
       exact (IsV.mk (v := .mk 6 0 [] l) (HROW.out.stays (hst _ _ _ _) (fun _ x hx => HBS.out x hx)) (fun _ x hx => Nat.le_trans hwW (HBS.out x hx)) (IsVs.keep ((hst _ _ _ _).weakenF fun b h => h.1) (fun b h => Nat.le_trans hwW h.1) _ HVS.out)).below (Below.refl _ _).drew
   have e3 : (xk == 3) = false := by rw [beq_eq_false_iff_ne]; exact hk3
   rw [if_neg hk3] at hrr
   clear hrB
   replace HRR := Lib.hid hrr
   clear hrr hk3
   go_wp2_with fail
   refine (HV1.out _ HBr.out).mono ?_
   rintro e w3 ⟨sl, rfl, hV3, hb3⟩
   obtain ⟨sa, sc, rfl, -⟩ := hV3.len
   obtain ⟨X, n, ev⟩ := R1
   simp only at HRR hV3
   have HV3 := Lib.hid (IsV.lt _ hV3)
   have HA3 := Lib.hid (HA2.out.keep hb3)
   have HB3 := Lib.hid (HB2.out.trans (hb3.mono HB2.out.size))
   have HO2 := Lib.hid (show ∀ v n l, ArrM W1.heap.size W2 v n l → ∀ b, v.ownBlock = some b → b < W2.heap.size from fun v n l ⟨cs, h, _⟩ b hb => (h.lt b hb).2)
   clear hV3 hb3 HV1 HBr HZr HT2 t0 t1 t2 t3 t4 t5 t6 t7 r0 r1 r2' r3 rf0 rf1 rf2 rf3
   have HQ2 := Lib.hid HB2.out.size
   unfold pvA
   generalize hxl : X.l.length = xl at *
   obtain ⟨O4, hO4⟩ : ∃ O4 : Obj, O4 = .cells #[.int .i64 X.kind, .int .i64 X.n, .string (mkB X.s), .slice sa xl sc] 24 := ⟨_, rfl⟩
   have hb4 := belowA w3 O4
   have HA4 := Lib.hid (HA3.out.keep hb4)
   have HV4 := Lib.hid (IsV.keep (G := fun b => W2.heap.size ≤ b ∧ b < (w3.alloc O4).heap.size) (Stays.of_below hb4) (fun b h => ⟨h.1, Nat.lt_of_lt_of_le h.2 hb4.size⟩) _ HV3.out)
   have HB4 := Lib.hid (HB3.out.trans (hb4.mono HB3.out.size))
   have HK4 := Lib.hid (heapA_new (w := w3) (b := w3.heap.size) O4 rfl)
   rw [hO4] at HA4 HV4 HB4 HK4
   clear hb4 hO4 HA3 HV3 HB3 O4
   go_upto_region 11 with fail
   obtain ⟨r4, hr4⟩ : ∃ r4, r4 = w3.heap.size := ⟨_, rfl⟩
   rw [← hr4] at HK4 ⊢
   clear hr4
   generalize w3.alloc _ = W4 at *
   have HBr := Lib.hid (HBW.out.trans (HB4.out.mono HBW.out.size))
   have HZr := Lib.hid (block_keep HB4.out HZ.out)
   obtain ⟨⟨t0, t1, t2, t3⟩, -⟩ := cells4 HK4.out
   obtain ⟨⟨r0, r1, r2', r3⟩, rf0, rf1, rf2, rf3⟩ := cells4 HZr.out
   by_cases her : ev = 0
   case neg =>
     have e0 : (ev == 0) = false := by rw [beq_eq_false_iff_ne]; exact her
     have e1 : (ev != 0) = true := by simp only [bne, e0, Bool.not_false]
     have hrr := HRR.out
     rw [if_pos her] at hrr
     subst hrr
     clear HRR HA2 HA4 HN HVL her
     go_wp2
     refine bodyPost_ret (results_val3 rfl _ _ B 24 _ (0, 0) _ rfl (by exact set4 HZr.out _ _ _ _) Tryz.underlying24 rfl (by exact infoPV) _ _ rfl rfl) rfl ?_
     exact leaf_end (R := (PV.none, 0, ev)) rfl (below_set4 HBr.out HBB.out _ _ _ _)
   subst her
   have hrr := HRR.out
   rw [if_neg (by simp)] at hrr
   replace HRR := Lib.hid hrr
   have hob := HO2.out _ _ _ HA2.out
   obtain ⟨cs, hO, hVs⟩ := HA4.out
   have HO := Lib.hid hO
   have HVs := Lib.hid hVs
   have HXV := Lib.hid (IsV.weaken HV4.out (G := fun b => W1.heap.size ≤ b ∧ b < W4.heap.size ∧ (Value.slice va i vc).ownBlock ≠ some b) (fun b h => ⟨Nat.le_trans HQ2.out h.1, h.2, fun e => by have := hob b e; omega⟩))
   clear hrr hO hVs HA2 HA4 HV4 hob HO2
   subst hxl
   have HCS := Lib.hid (show pvC X (.slice sa X.l.length sc) = [.int .i64 X.kind, .int .i64 X.n, .string (mkB X.s), .slice sa X.l.length sc] from rfl)
   go_wp2_with (at_builtin; refine append_at EPV rfl _ _ rfl W1.heap.size _ i cs rfl (HO.out.alloc _) _ 1 _ _ rfl (row_newE1 _ #[.int .i64 X.kind, .int .i64 X.n, .string (mkB X.s), .slice sa X.l.length sc] _ 4 rfl) (one4 _ _ _ _ _ _) (by unfold maxLen; omega) (by omega) (by rw [sizeA]; have := HB4.out.size; omega) ?_; intro v6 w6 hO6 hg6 hn6; have HA6 := Lib.hid (ArrM.push HVs.out HXV.out (by rw [HCS.out]; exact hO6) hg6 hn6); have HB6 := Lib.hid (show Below W1.heap.size W1 w6 from (HB4.out.alloc HB4.out.size _).grown hg6 (by rw [sizeA]; have := HB4.out.size; omega) (fun q hq => (HO.out.lt q hq).1)); clear hO6 hg6 hn6)
   go_roundw
   case rel => exact ⟨n, i + 1, l ++ [X], rfl, by go_num, by omega, HA6, HB6, by rw [show L + 1 - (i + 1) = L - i by omega]; exact HRR⟩
   case measure => simp [intOf]; omega
theorem rep_mem {x : PV × PV} : ∀ (l : List (PV × PV)) (y : PV × PV), y ∈ repK x l → ∃ z ∈ l, z.1 = y.1
 | [], y, h => by cases h
 | z :: l, y, h => by
   unfold repK at h
   split at h
   · rcases List.mem_cons.1 h with rfl | h
     · exact ⟨z, List.mem_cons_self, rfl⟩
     · exact ⟨y, List.mem_cons_of_mem _ h, rfl⟩
   · rcases List.mem_cons.1 h with rfl | h
     · exact ⟨y, List.mem_cons_self, rfl⟩
     · obtain ⟨u, hu, e⟩ := rep_mem l y h
       exact ⟨u, List.mem_cons_of_mem _ hu, e⟩
theorem put_kind {x : PV × PV} {l : List (PV × PV)} (hx : x.1.kind = 5) (h : ∀ y ∈ l, y.1.kind = 5) : ∀ y ∈ putK x l, y.1.kind = 5 := by
 intro y hy
 unfold putK at hy
 split at hy
 · obtain ⟨z, hz, e⟩ := rep_mem l y hy
   rw [← e]; exact h z hz
 · rcases (insK_mem l).1 hy with rfl | hy
   · exact hx
   · exact h y hy
theorem put_len (x : PV × PV) (l : List (PV × PV)) : (putK x l).length ≤ l.length + 1 := by
 unfold putK
 split
 · rw [rep_len]; omega
 · rw [(insK_perm x l).length_eq]; simp
structure DicM (w wr : World) (B : Nat) (sl : Value) (ps : List (PV × PV)) : Prop where
 b0 : wr.heap[B]? = some (.cells #[.int .i64 0, .int .i64 0, .string ⟨#[]⟩, .slice none 0 0] 24 (0, 0))
 b1 : wr.heap[B + 1]? = some (.cells #[.int .i64 7, .int .i64 0, .string ⟨#[]⟩, sl] 24 (0, 0))
 val : IsV wr (fun b => B + 1 < b) (dctV ps) sl
 kinds : ∀ y ∈ ps, y.1.kind = 5
 bel : Below w.heap.size w wr
 hB : w.heap.size ≤ B
theorem DicM.keep {w wr W : World} {B : Nat} {sl : Value} {ps : List (PV × PV)} (h : DicM w wr B sl ps) (hb : Below wr.heap.size wr W) : DicM w W B sl ps :=
 ⟨block_keep hb h.b0, block_keep hb h.b1, h.val.below hb, h.kinds, h.bel.trans (hb.mono h.bel.size), h.hB⟩
theorem DicM.start (w : World) {B : Nat} (hB : B = w.heap.size) : DicM w ((w.alloc (.cells #[.int .i64 0, .int .i64 0, .string ⟨#[]⟩, .slice none 0 0] 24)).alloc (.cells #[.int .i64 7, .int .i64 0, .string ⟨#[]⟩, .slice none 0 0] 24)) B (.slice none 0 0) [] :=
 ⟨heapA_old _ (heapA_new _ hB), heapA_new _ (by rw [sizeA, hB]), IsV.leaf _ _ _ rfl, fun y hy => (by cases hy), belowA2 _ _ _, Nat.le_of_eq hB.symm⟩
theorem DicM.put {w wr W : World} {B : Nat} {sl s' : Value} {ps : List (PV × PV)} {x : PV × PV} (h : DicM w wr B sl ps) (hx : x.1.kind = 5) (hv : IsV W (fun b => B + 1 < b ∨ wr.heap.size ≤ b) (dctV (putK x ps)) s') (hb : Below wr.heap.size wr W) :
   DicM w ((((W.setCell ⟨B + 1, 0, none⟩ (.int .i64 7)).setCell ⟨B + 1, 1, none⟩ (.int .i64 0)).setCell ⟨B + 1, 2, none⟩ (.string ⟨#[]⟩)).setCell ⟨B + 1, 3, none⟩ s') B s' (putK x ps) := by
 have hl := lt_of_heap h.b1
 have hB := h.hB
 refine ⟨(set4_other (by omega) _ _ _ _).trans (block_keep hb h.b0), set4 (block_keep hb h.b1) _ _ _ _, IsV.keep ⟨by rw [set4_size]; exact Nat.le_refl _, fun b _ hF => set4_other ?_ _ _ _ _⟩ (fun b hF => ?_) _ hv, put_kind hx h.kinds, below_set4 (h.bel.trans (hb.mono h.bel.size)) (by omega) _ _ _ _, h.hB⟩
 · rcases hF with hF | hF <;> omega
 · rcases hF with hF | hF
   · exact hF
   · show B + 1 < b
     omega
theorem DicM.fin {w W : World} {B : Nat} {sl : Value} {ps : List (PV × PV)} (h : DicM w W B sl ps) (y0 y1 y2 y3 : Value) :
   Below w.heap.size w ((((W.setCell ⟨B, 0, none⟩ y0).setCell ⟨B, 1, none⟩ y1).setCell ⟨B, 2, none⟩ y2).setCell ⟨B, 3, none⟩ y3) := below_set4 h.bel h.hB _ _ _ _
theorem findI_ge (key : List UInt8) (ps : List (PV × PV)) : decide (0 ≤ findI key ps) = hasK key ps := by
 rw [fIx_has]
 unfold findI
 by_cases h : fIx key ps < ps.length
 · rw [if_pos h, decide_eq_true h]; exact decide_eq_true (by omega)
 · rw [if_neg h, decide_eq_false h]; exact decide_eq_false (by omega)
theorem dict_doc {w : World} {a : Option Addr} {cap : Nat} {bs : List UInt8} (hr : Row w 1 a bs.length cap (bs.map u8C)) (hn : bs.length ≤ 399999) (last : Bool) (d : Nat) (hd : d ≤ 64) (k0 : Int) (hv : ValD bs last d) :
   Calls Tryz.prog 77 #[.slice a bs.length cap, .int .i64 k0, .bool last, .int .i64 (64 - (d : Int))] w (DocEnd w (dictD bs last (vlD bs last d) d (bs.length + 1) [] false k0)) := by
 have HN := Lib.hid (fun (W : World) (h : Below w.heap.size w W) (k : Int) => rnext_any (hr.mono h) (by omega) k last)
 have HVL := Lib.hid (fun (W : World) (h : Below w.heap.size w W) (x : Tk) (f tt : Int) => hv W a cap (hr.mono h) x f tt)
 obtain ⟨fn, hfn⟩ : ∃ fn, fn = vlD bs last d := ⟨_, rfl⟩
 rw [← hfn] at HVL ⊢
 obtain ⟨R, hR⟩ : ∃ R, R = dictD bs last fn d (bs.length + 1) [] false k0 := ⟨_, rfl⟩
 rw [← hR]
 have HR := Lib.hid hR
 clear hr hv hfn hR
 obtain ⟨D, hD⟩ : ∃ D : Int, D = 64 - (d : Int) := ⟨_, rfl⟩
 have HD := Lib.hid (show decide (64 ≤ D) = decide (d = 0) by rw [hD]; by_cases e : d = 0 <;> simp [e]; omega)
 rw [← hD] at HVL ⊢
 clear hD
 obtain ⟨L, hL⟩ : ∃ L, L = bs.length := ⟨_, rfl⟩
 rw [← hL] at HN HVL HR hn ⊢
 clear hL hd
 unfold NextEnd tokN at HN
 unfold tokN at HVL
 go_enter Tryz.func77, Tryz.ntmps77
 obtain ⟨B, hB⟩ : ∃ B, B = w.heap.size := ⟨_, rfl⟩
 have HM0 := Lib.hid (DicM.start w hB)
 go_upto_region 2 with fail
 rw [← hB]
 clear hB
 generalize (w.alloc _).alloc _ = W1 at *
 go_wp2
 go_loopw [1, 12, 13] (fun vat vt vn wr => ∃ (k : Int) (i : Nat) (tw : Bool) (sl : Value) (ps : List (PV × PV)), vat = .int .i64 k ∧ vt = .bool tw ∧ vn = .int .i64 i ∧ i ≤ L + 1 ∧ ps.length ≤ i ∧ Hid (DicM w wr B sl ps) ∧ Hid (R = dictD bs last fn d (L + 1 - i) ps tw k)) (fun _ _ vn _ => L + 1 - (intOf vn).toNat)
 case atStart => exact ⟨k0, 0, false, _, [], rfl, rfl, rfl, by omega, Nat.le_refl _, HM0, HR⟩
 case round =>
   obtain ⟨k, i, tw, sl, ps, rfl, rfl, rfl, hi, hps, HM, HRR⟩ := hrel
   by_cases q1 : i ≤ L
   case neg =>
     obtain rfl : i = L + 1 := by omega
     have hd1 : decide (L + 1 ≤ L) = false := decide_eq_false (by omega)
     have hd2 : decide (((L + 1 : Nat) : Int) ≤ (L : Int)) = false := decide_eq_false (by omega)
     have hd3 : decide ((L : Int) + 1 ≤ (L : Int)) = false := decide_eq_false (by omega)
     have hrr := HRR.out
     rw [Nat.sub_self] at hrr
     unfold dictD at hrr
     subst hrr
     clear HRR HR HN HVL q1 hi hps
     obtain ⟨⟨r0, r1, r2, r3⟩, rf0, rf1, rf2, rf3⟩ := cells4 HM.out.b0
     go_wp2
     refine bodyPost_ret (results_val3 rfl _ _ B 24 _ (0, 0) _ rfl (by exact set4 HM.out.b0 _ _ _ _) Tryz.underlying24 rfl (by exact infoPV) _ _ rfl rfl) rfl ?_
     exact leaf_end (R := (PV.none, 0, 10)) rfl (HM.out.fin _ _ _ _)
   have hd1 : decide (i ≤ L) = true := decide_eq_true q1
   have hd2 : decide ((i : Int) ≤ (L : Int)) = true := decide_eq_true (by omega)
   have hq2 : (i : Int) ≤ (L : Int) := by omega
   have hi0 : (0 : Int) ≤ (i : Int) := by omega
   have hiw : IntKind.i64.wrap ((i : Int) + 1) = (i : Int) + 1 := IntWalk.i64_in _ (by omega)
   have hrr := HRR.out
   rw [show L + 1 - i = (L - i) + 1 by omega] at hrr
   unfold dictD at hrr
   simp only at hrr
   have HN1 := Lib.hid (HN.out _ HM.out.bel k)
   generalize nextV bs k last = V at *
   obtain ⟨x, f, t, er⟩ := V
   simp only at hrr HN1
   clear HRR HR
   have HRR := Lib.hid hrr
   clear hrr
   obtain ⟨xk, xvk, xvn, xvs, xs⟩ := x
   simp only at HN1 HRR
   generalize mkB xs = xb at *
   go_wp2_with fail
   refine HN1.out.mono ?_
   rintro e w2 ⟨rfl, hb2⟩
   have hb2a := hb2.alloc hb2.size (.cells #[.int .i64 xk, .int .i64 f, .int .i64 t, .int .i64 xvk, .int .i64 xvn, .string (mkB xvs), .slice none 0 0, .string xb] 59)
   have HM2 := Lib.hid (HM.out.keep hb2a)
   have HT2 := Lib.hid (heapA_new (w := w2) (b := w2.heap.size) (.cells #[.int .i64 xk, .int .i64 f, .int .i64 t, .int .i64 xvk, .int .i64 xvn, .string (mkB xvs), .slice none 0 0, .string xb] 59) rfl)
   have HrB := Lib.hid (show B + 1 < w2.heap.size from Nat.lt_of_lt_of_le (lt_of_heap HM.out.b1) hb2.size)
   clear hb2 hb2a HN1 HM
   go_upto_region 7 with fail
   obtain ⟨r2, hr2⟩ : ∃ r2, r2 = w2.heap.size := ⟨_, rfl⟩
   rw [← hr2] at HT2 HrB ⊢
   clear hr2
   generalize w2.alloc _ = W2 at *
   obtain ⟨⟨t0, t1, t2, t3, t4, t5, t6, t7⟩, -⟩ := cells8 HT2.out
   obtain ⟨⟨r0, r1, r2', r3⟩, rf0, rf1, rf2, rf3⟩ := cells4 HM2.out.b0
   by_cases her : er = 0
   case neg =>
     have e0 : (er == 0) = false := by rw [beq_eq_false_iff_ne]; exact her
     have e1 : (er != 0) = true := by simp only [bne, e0, Bool.not_false]
     have hrr := HRR.out
     rw [if_pos her] at hrr
     subst hrr
     clear HRR HN HVL her
     clear t0 t1 t2 t3 t4 t5 t6 t7
     go_wp2
     refine bodyPost_ret (results_val3 rfl _ _ B 24 _ (0, 0) _ rfl (by exact set4 HM2.out.b0 _ _ _ _) Tryz.underlying24 rfl (by exact infoPV) _ _ rfl rfl) rfl ?_
     exact leaf_end (R := (PV.none, 0, er)) rfl (HM2.out.fin _ _ _ _)
   subst her
   have hrr := HRR.out
   rw [if_neg (by simp)] at hrr
   by_cases hk5 : xk = 5
   · have e5 : (xk == 5) = true := by rw [hk5]; rfl
     rw [if_pos hk5] at hrr
     cases tw with
     | true =>
       rw [if_pos rfl] at hrr
       subst hrr
       clear HRR HN HVL hk5
       go_wp2
       refine bodyPost_ret (results_val3 rfl _ _ B 24 _ (0, 0) _ rfl (by exact set4 HM2.out.b0 _ _ _ _) Tryz.underlying24 rfl (by exact infoPV) _ _ rfl rfl) rfl ?_
       exact leaf_end (R := (PV.none, 0, 16)) rfl (HM2.out.fin _ _ _ _)
     | false =>
       rw [if_neg (by decide)] at hrr
       subst hrr
       obtain ⟨sa, sc, rfl, -⟩ := HM2.out.val.len
       have hrB : r2 ≠ B := by have := HrB.out; omega
       have hB1 : B + 1 ≠ B := by omega
       obtain ⟨⟨d0, d1, d2, d3⟩, -⟩ := cells4 HM2.out.b1
       clear HRR HN HVL hk5
       go_wp2
       go_region
       all_goals
         go_wp2
         refine bodyPost_ret (results_val3 rfl _ _ B 24 _ (0, 0) _ rfl (by exact set4 HM2.out.b0 _ _ _ _) Tryz.underlying24 rfl (by exact infoPV) _ _ rfl rfl) rfl ?_
         have hwB := HM2.out.hB
         refine ⟨_, rfl, ?_, (HM2.out.fin _ _ _ _).drew⟩
         exact (IsV.keep (F := fun b => B + 1 < b) ⟨by rw [set4_size]; exact Nat.le_refl _, fun b _ hF => set4_other (by omega) _ _ _ _⟩ (fun b hF => by show w.heap.size ≤ b; omega) _ HM2.out.val).below (Below.refl _ _).drew
   have e5 : (xk == 5) = false := by rw [beq_eq_false_iff_ne]; exact hk5
   rw [if_neg hk5] at hrr
   by_cases hk0 : xk = 0
   · have e0 : (xk == 0) = true := by rw [hk0]; rfl
     rw [if_pos hk0] at hrr
     subst hrr
     clear HRR HN HVL hk5 hk0
     go_wp2
     refine bodyPost_ret (results_val3 rfl _ _ B 24 _ (0, 0) _ rfl (by exact set4 HM2.out.b0 _ _ _ _) Tryz.underlying24 rfl (by exact infoPV) _ _ rfl rfl) rfl ?_
     exact leaf_end (R := (PV.none, 0, 10)) rfl (HM2.out.fin _ _ _ _)
   have e0 : (xk == 0) = false := by rw [beq_eq_false_iff_ne]; exact hk0
   rw [if_neg hk0] at hrr
   by_cases hk1 : xk = 1
   case neg =>
     have e1 : (xk == 1) = false := by rw [beq_eq_false_iff_ne]; exact hk1
     have e2 : (xk != 1) = true := by simp only [bne, e1, Bool.not_false]
     rw [if_pos (.inl hk1)] at hrr
     subst hrr
     clear HRR HN HVL hk5 hk0 hk1
     go_wp2
     refine bodyPost_ret (results_val3 rfl _ _ B 24 _ (0, 0) _ rfl (by exact set4 HM2.out.b0 _ _ _ _) Tryz.underlying24 rfl (by exact infoPV) _ _ rfl rfl) rfl ?_
     exact leaf_end (R := (PV.none, 0, 11)) rfl (HM2.out.fin _ _ _ _)
   have e1 : (xk != 1) = false := by rw [hk1]; rfl
   by_cases hv5 : xvk = 5
   case neg =>
     have e3 : (xvk == 5) = false := by rw [beq_eq_false_iff_ne]; exact hv5
     have e4 : (xvk != 5) = true := by simp only [bne, e3, Bool.not_false]
     rw [if_pos (.inr hv5)] at hrr
     subst hrr
     clear HRR HN HVL hk5 hk0 hk1 hv5
     go_wp2
     refine bodyPost_ret (results_val3 rfl _ _ B 24 _ (0, 0) _ rfl (by exact set4 HM2.out.b0 _ _ _ _) Tryz.underlying24 rfl (by exact infoPV) _ _ rfl rfl) rfl ?_
     exact leaf_end (R := (PV.none, 0, 11)) rfl (HM2.out.fin _ _ _ _)
   have e3 : (xvk != 5) = false := by rw [hv5]; rfl
   rw [if_neg (by rintro (h | h); exact h hk1; exact h hv5)] at hrr
   have hDd := HD.out
   by_cases hdz : d = 0
   · rw [decide_eq_true hdz] at hDd
     rw [if_pos hdz] at hrr
     subst hrr
     clear HRR HN HVL hk5 hk0 hk1 hv5 hdz HD
     go_wp2
     refine bodyPost_ret (results_val3 rfl _ _ B 24 _ (0, 0) _ rfl (by exact set4 HM2.out.b0 _ _ _ _) Tryz.underlying24 rfl (by exact infoPV) _ _ rfl rfl) rfl ?_
     exact leaf_end (R := (PV.none, 0, 15)) rfl (HM2.out.fin _ _ _ _)
   rw [decide_eq_false hdz] at hDd
   rw [if_neg hdz] at hrr
   have HN2 := Lib.hid (HN.out _ HM2.out.bel t)
   generalize nextV bs t last = V at *
   obtain ⟨u, uf, ut, ue⟩ := V
   simp only at hrr HN2
   clear HRR
   have HRR := Lib.hid hrr
   have HV3 := Lib.hid (fun (W : World) (h : Below w.heap.size w W) => HVL.out W h u uf ut)
   clear hrr hk5 hk0 hk1 hv5 hdz
   generalize fn u ut = R1 at *
   obtain ⟨uk, uvk, uvn, uvs, us⟩ := u
   simp only at HN2 HV3
   generalize mkB uvs = uvb at *
   generalize mkB us = ub at *
   go_wp2_with fail
   refine HN2.out.mono ?_
   rintro e w3 ⟨rfl, hb3⟩
   have hb3a := hb3.alloc hb3.size (.cells #[.int .i64 uk, .int .i64 uf, .int .i64 ut, .int .i64 uvk, .int .i64 uvn, .string uvb, .slice none 0 0, .string ub] 59)
   have HM3 := Lib.hid (HM2.out.keep hb3a)
   have HT3 := Lib.hid (block_keep hb3a HT2.out)
   have HU3 := Lib.hid (heapA_new (w := w3) (b := w3.heap.size) (.cells #[.int .i64 uk, .int .i64 uf, .int .i64 ut, .int .i64 uvk, .int .i64 uvn, .string uvb, .slice none 0 0, .string ub] 59) rfl)
   clear t0 t1 t2 t3 t4 t5 t6 t7 r0 r1 r2' r3 rf0 rf1 rf2 rf3
   clear hb3 hb3a HN2 HM2 HT2
   go_upto_region 20 with fail
   obtain ⟨r3, hr3⟩ : ∃ r3, r3 = w3.heap.size := ⟨_, rfl⟩
   rw [← hr3] at HU3 ⊢
   clear hr3
   generalize w3.alloc _ = W3 at *
   obtain ⟨⟨t0, t1, t2, t3, t4, t5, t6, t7⟩, -⟩ := cells8 HT3.out
   obtain ⟨⟨u0, u1, u2, u3, u4, u5, u6, u7⟩, -⟩ := cells8 HU3.out
   obtain ⟨⟨r0, r1, r2', r3⟩, rf0, rf1, rf2, rf3⟩ := cells4 HM3.out.b0
   by_cases hue : ue = 0
   case neg =>
     have e7 : (ue == 0) = false := by rw [beq_eq_false_iff_ne]; exact hue
     have e8 : (ue != 0) = true := by simp only [bne, e7, Bool.not_false]
     have hrr := HRR.out
     rw [if_pos hue] at hrr
     subst hrr
     clear HRR HN HVL hue
     go_wp2
     refine bodyPost_ret (results_val3 rfl _ _ B 24 _ (0, 0) _ rfl (by exact set4 HM3.out.b0 _ _ _ _) Tryz.underlying24 rfl (by exact infoPV) _ _ rfl rfl) rfl ?_
     exact leaf_end (R := (PV.none, 0, ue)) rfl (HM3.out.fin _ _ _ _)
   subst hue
   have hrr := HRR.out
   rw [if_neg (by simp)] at hrr
   clear HRR
   have HRR := Lib.hid hrr
   clear hrr
   go_wp2_with fail
   refine (HV3.out _ HM3.out.bel).mono ?_
   rintro e w4 ⟨sl4, rfl, hV4, hb4⟩
   obtain ⟨sa, sc, rfl, -⟩ := hV4.len
   obtain ⟨X, n, ev⟩ := R1
   simp only at HRR hV4
   have HM4 := Lib.hid (HM3.out.keep hb4)
   have HT4 := Lib.hid (block_keep hb4 HT3.out)
   have HV4 := Lib.hid (IsV.weaken hV4 (G := fun b => B + 1 < b) (fun b hb => Nat.lt_of_lt_of_le (lt_of_heap HM3.out.b1) hb))
   clear t0 t1 t2 t3 t4 t5 t6 t7 u0 u1 u2 u3 u4 u5 u6 u7 r0 r1 r2' r3 rf0 rf1 rf2 rf3
   clear hV4 hb4 HM3 HT3 HU3 HV3
   unfold pvA
   obtain ⟨O4, hO4⟩ : ∃ O4 : Obj, O4 = .cells #[.int .i64 X.kind, .int .i64 X.n, .string (mkB X.s), .slice sa X.l.length sc] 24 := ⟨_, rfl⟩
   have hb5 := belowA w4 O4
   have HM5 := Lib.hid (HM4.out.keep hb5)
   have HT5 := Lib.hid (block_keep hb5 HT4.out)
   have HV5 := Lib.hid (HV4.out.below hb5)
   have HK5 := Lib.hid (heapA_new (w := w4) (b := w4.heap.size) O4 rfl)
   rw [hO4] at HM5 HT5 HV5 HK5
   clear hb5 hO4 HM4 HT4 HV4 O4
   go_upto_region 23 with fail
   obtain ⟨r5, hr5⟩ : ∃ r5, r5 = w4.heap.size := ⟨_, rfl⟩
   rw [← hr5] at HK5 ⊢
   clear hr5
   generalize w4.alloc _ = W5 at *
   obtain ⟨⟨t0, t1, t2, t3, t4, t5, t6, t7⟩, -⟩ := cells8 HT5.out
   obtain ⟨⟨x0, x1, x2, x3⟩, -⟩ := cells4 HK5.out
   obtain ⟨⟨r0, r1, r2', r3⟩, rf0, rf1, rf2, rf3⟩ := cells4 HM5.out.b0
   by_cases her : ev = 0
   case neg =>
     have e7 : (ev == 0) = false := by rw [beq_eq_false_iff_ne]; exact her
     have e8 : (ev != 0) = true := by simp only [bne, e7, Bool.not_false]
     have hrr := HRR.out
     rw [if_pos her] at hrr
     subst hrr
     clear HRR HN HVL her
     go_wp2
     refine bodyPost_ret (results_val3 rfl _ _ B 24 _ (0, 0) _ rfl (by exact set4 HM5.out.b0 _ _ _ _) Tryz.underlying24 rfl (by exact infoPV) _ _ rfl rfl) rfl ?_
     exact leaf_end (R := (PV.none, 0, ev)) rfl (HM5.out.fin _ _ _ _)
   subst her
   have hrr := HRR.out
   rw [if_neg (by simp)] at hrr
   clear HRR
   have HRR := Lib.hid hrr
   clear hrr
   have HFI := Lib.hid (fun (W : World) (h : Below W5.heap.size W5 W) => find_any (HM5.out.val.below h) HM5.out.kinds xvs)
   have HPU := Lib.hid (fun (W : World) (h : Below W5.heap.size W5 W) => put_any (HM5.out.val.below h) HM5.out.kinds xvs (HV5.out.below h) (by omega))
   have hge := findI_ge xvs ps
   obtain ⟨sa5, sc5, hse, -⟩ := HM5.out.val.len
   subst hse
   obtain ⟨N5, hN5⟩ : ∃ N5, N5 = (dctV ps).l.length := ⟨_, rfl⟩
   rw [← hN5] at HM5 HFI HPU
   clear hN5
   obtain ⟨⟨g0, g1, g2, g3⟩, gf0, gf1, gf2, gf3⟩ := cells4 HM5.out.b1
   unfold pvA at HFI HPU
   rw [show (dctV ps).kind = 7 from rfl, show (dctV ps).n = 0 from rfl, show mkB (dctV ps).s = ⟨#[]⟩ from rfl] at HFI HPU
   obtain ⟨FI, hFI⟩ : ∃ FI, FI = findI xvs ps := ⟨_, rfl⟩
   rw [← hFI] at HFI hge
   clear hFI
   have HGE := Lib.hid hge
   clear hge
   generalize hhk : hasK xvs ps = hh at *
   clear hhk
   cases tw with
   | true =>
     clear HFI HGE
     go_upto_region 26 with fail
     go_wp2_with fail
     refine (HPU.out _ (Below.refl _ _)).mono ?_
     rintro e W7 ⟨s7, rfl, hV7, hb7⟩
     obtain ⟨sa7, sc7, hs7, -⟩ := hV7.len
     subst hs7
     have HM7 := Lib.hid (HM5.out.put rfl hV7 hb7)
     have HBB := Lib.hid (block_keep hb7 HM5.out.b1)
     clear t0 t1 t2 t3 t4 t5 t6 t7 x0 x1 x2 x3 g0 g1 g2 g3 gf0 gf1 gf2 gf3 r0 r1 r2' r3 rf0 rf1 rf2 rf3
     clear hV7 hb7
     obtain ⟨⟨g0, g1, g2, g3⟩, gf0, gf1, gf2, gf3⟩ := cells4 HBB.out
     rw [show (dctV (putK (PV.mk 5 0 xvs [], X) ps)).kind = 7 from rfl, show (dctV (putK (PV.mk 5 0 xvs [], X) ps)).n = 0 from rfl, show mkB (dctV (putK (PV.mk 5 0 xvs [], X) ps)).s = ⟨#[]⟩ from rfl]
     go_wp2
     go_roundw
     case rel => exact ⟨n, i + 1, true, _, _, rfl, rfl, by go_num, by omega, by have := put_len (.mk 5 0 xvs [], X) ps; omega, HM7, by rw [show L + 1 - (i + 1) = L - i by omega]; exact HRR⟩
     case measure => simp [intOf]; omega
   | false =>
     have hge := HGE.out
     go_upto_region 25 with fail
     go_wp2_with fail
     refine (HFI.out _ (Below.refl _ _)).mono ?_
     rintro e W6 ⟨rfl, hb6⟩
     have HM6 := Lib.hid (HM5.out.keep hb6)
     have HT6 := Lib.hid (block_keep hb6 HT5.out)
     have HK6 := Lib.hid (block_keep hb6 HK5.out)
     have HB6 := Lib.hid hb6
     clear hb6 t0 t1 t2 t3 t4 t5 t6 t7 x0 x1 x2 x3 g0 g1 g2 g3 gf0 gf1 gf2 gf3 r0 r1 r2' r3 rf0 rf1 rf2 rf3
     obtain ⟨⟨t0, t1, t2, t3, t4, t5, t6, t7⟩, -⟩ := cells8 HT6.out
     obtain ⟨⟨x0, x1, x2, x3⟩, -⟩ := cells4 HK6.out
     obtain ⟨⟨g0, g1, g2, g3⟩, gf0, gf1, gf2, gf3⟩ := cells4 HM6.out.b1
     obtain ⟨⟨r0, r1, r2', r3⟩, rf0, rf1, rf2, rf3⟩ := cells4 HM6.out.b0
     cases hh
     · have hge := HGE.out
       go_wp2_with fail
       refine (HPU.out _ HB6.out).mono ?_
       rintro e W7 ⟨s7, rfl, hV7, hb7⟩
       obtain ⟨sa7, sc7, hs7, -⟩ := hV7.len
       subst hs7
       have HM7 := Lib.hid (HM6.out.put rfl hV7 hb7)
       have HBB := Lib.hid (block_keep hb7 HM6.out.b1)
       clear t0 t1 t2 t3 t4 t5 t6 t7 x0 x1 x2 x3 g0 g1 g2 g3 gf0 gf1 gf2 gf3 r0 r1 r2' r3 rf0 rf1 rf2 rf3
       clear hV7 hb7
       obtain ⟨⟨g0, g1, g2, g3⟩, gf0, gf1, gf2, gf3⟩ := cells4 HBB.out
       rw [show (dctV (putK (PV.mk 5 0 xvs [], X) ps)).kind = 7 from rfl, show (dctV (putK (PV.mk 5 0 xvs [], X) ps)).n = 0 from rfl, show mkB (dctV (putK (PV.mk 5 0 xvs [], X) ps)).s = ⟨#[]⟩ from rfl]
       go_wp2
       go_roundw
       case rel => exact ⟨n, i + 1, false, _, _, rfl, rfl, by go_num, by omega, by have := put_len (.mk 5 0 xvs [], X) ps; omega, HM7, by rw [show L + 1 - (i + 1) = L - i by omega]; exact HRR⟩
       case measure => simp [intOf]; omega
     · have hge := HGE.out
       go_wp2_with fail
       refine (HPU.out _ HB6.out).mono ?_
       rintro e W7 ⟨s7, rfl, hV7, hb7⟩
       obtain ⟨sa7, sc7, hs7, -⟩ := hV7.len
       subst hs7
       have HM7 := Lib.hid (HM6.out.put rfl hV7 hb7)
       have HBB := Lib.hid (block_keep hb7 HM6.out.b1)
       clear t0 t1 t2 t3 t4 t5 t6 t7 x0 x1 x2 x3 g0 g1 g2 g3 gf0 gf1 gf2 gf3 r0 r1 r2' r3 rf0 rf1 rf2 rf3
       clear hV7 hb7
       obtain ⟨⟨g0, g1, g2, g3⟩, gf0, gf1, gf2, gf3⟩ := cells4 HBB.out
       rw [show (dctV (putK (PV.mk 5 0 xvs [], X) ps)).kind = 7 from rfl, show (dctV (putK (PV.mk 5 0 xvs [], X) ps)).n = 0 from rfl, show mkB (dctV (putK (PV.mk 5 0 xvs [], X) ps)).s = ⟨#[]⟩ from rfl]
       go_wp2
       go_roundw
       case rel => exact ⟨n, i + 1, true, _, _, rfl, rfl, by go_num, by omega, by have := put_len (.mk 5 0 xvs [], X) ps; omega, HM7, by rw [show L + 1 - (i + 1) = L - i by omega]; exact HRR⟩
       case measure => simp [intOf]; omega
theorem val_doc {bs : List UInt8} (hn : bs.length ≤ 399999) (last : Bool) : ∀ d, d ≤ 64 → ValD bs last d
 | 0, _ => fun w a cap hr x f tt => by
   have h64 : (64 - ((0 : Nat) : Int)) = 64 := rfl
   rw [h64]
   unfold vlD
   by_cases k0 : x.kind = 0
   · rw [if_pos k0]; exact value_k0 last x f tt 64 k0
   rw [if_neg k0]
   by_cases k2 : x.kind = 2
   · rw [if_pos (.inl k2)]; exact value_d2 last x f tt 64 k2 (by omega)
   by_cases k4 : x.kind = 4
   · rw [if_pos (.inr k4)]; exact value_d4 last x f tt 64 k4 (by omega)
   rw [if_neg (by omega)]
   by_cases k3 : x.kind = 3
   · rw [if_pos (.inl k3)]; exact value_k3 last x f tt 64 k3
   by_cases k5 : x.kind = 5
   · rw [if_pos (.inr k5)]; exact value_k5 last x f tt 64 k5
   rw [if_neg (by omega)]
   have h := value_sing hr (by omega) last x f tt 64 ⟨k0, k2, k3, k4, k5⟩
   rw [if_pos (show (64 : Int) ≤ 64 by omega)] at h
   exact h
 | d + 1, hd => fun w a cap hr x f tt => by
   have hv := val_doc hn last d (by omega)
   have hD : (64 - ((d + 1 : Nat) : Int)) + 1 = 64 - (d : Int) := by push_cast; omega
   have hD2 : ¬ (64 : Int) ≤ 64 - ((d + 1 : Nat) : Int) := by push_cast; omega
   have hD3 : (0 : Int) ≤ 64 - ((d + 1 : Nat) : Int) := by push_cast; omega
   unfold vlD
   by_cases k0 : x.kind = 0
   · rw [if_pos k0]; exact value_k0 last x f tt _ k0
   rw [if_neg k0]
   by_cases k2 : x.kind = 2
   · rw [if_pos k2]
     refine value_o2 last x f tt _ k2 hD2 hD3 fun W hW => ?_
     rw [hD]
     exact array_doc (hr.mono hW) (by omega) last d tt hv
   rw [if_neg k2]
   by_cases k4 : x.kind = 4
   · rw [if_pos k4]
     refine value_o4 last x f tt _ k4 hD2 hD3 fun W hW => ?_
     rw [hD]
     exact dict_doc (hr.mono hW) hn last d (by omega) tt hv
   rw [if_neg k4]
   by_cases k3 : x.kind = 3
   · rw [if_pos (.inl k3)]; exact value_k3 last x f tt _ k3
   by_cases k5 : x.kind = 5
   · rw [if_pos (.inr k5)]; exact value_k5 last x f tt _ k5
   rw [if_neg (by omega)]
   have h := value_sing hr (by omega) last x f tt (64 - ((d + 1 : Nat) : Int)) ⟨k0, k2, k3, k4, k5⟩
   rw [if_neg hD2] at h
   by_cases he : (singD bs last x tt).2.2 ≠ 0
   · rw [if_pos he, ← sing_shape bs last x tt he] at h
     exact h
   · rw [if_neg he] at h
     exact h
theorem rvalue_any {w : World} {a : Option Addr} {cap : Nat} {bs : List UInt8} (hr : Row w 1 a bs.length cap (bs.map u8C)) (hn : bs.length ≤ 399999) (last : Bool) (k : Int) :
   Calls Tryz.prog 23 #[.slice a bs.length cap, .int .i64 k, .bool last] w (DocEnd w (wholeD bs last k)) := by
 have HN := Lib.hid (fun (W : World) (h : Below w.heap.size w W) => rnext_any (hr.mono h) (by omega) k last)
 have HV := Lib.hid (fun (W : World) (h : Below w.heap.size w W) (f : Int) => val_doc hn last 64 (Nat.le_refl _) W a cap (hr.mono h) (nextV bs k last).1 f (nextV bs k last).2.2.1)
 obtain ⟨R, hR⟩ : ∃ R, R = wholeD bs last k := ⟨_, rfl⟩
 rw [← hR]
 unfold wholeD at hR
 generalize nextV bs k last = V at *
 obtain ⟨x, f, t, er⟩ := V
 simp only at hR HV
 rw [show (64 - ((64 : Nat) : Int)) = 0 from rfl] at HV
 unfold NextEnd tokN at HN
 unfold tokN at HV
 simp only at HN
 have HR := Lib.hid hR
 clear hr hR
 generalize vlD bs last 64 x t = R1 at *
 generalize x.kind = xk at *
 generalize x.vk = xvk at *
 generalize x.vn = xvn at *
 generalize mkB x.vs = xvb at *
 generalize mkB x.s = xb at *
 generalize bs.length = L at *
 go_enter Tryz.func23, Tryz.ntmps23
 obtain ⟨B, hB⟩ : ∃ B, B = w.heap.size := ⟨_, rfl⟩
 have HZ := Lib.hid (heapA_new (w := w) (b := B) (.cells #[.int .i64 0, .int .i64 0, .string ⟨#[]⟩, .slice none 0 0] 24) hB)
 have HBW := Lib.hid (belowA w (.cells #[.int .i64 0, .int .i64 0, .string ⟨#[]⟩, .slice none 0 0] 24))
 have HBB := Lib.hid (Nat.le_of_eq hB.symm)
 go_upto_region 1 with fail
 rw [← hB]
 clear hB
 generalize w.alloc _ = W1 at *
 go_wp2_with fail
 refine (HN.out _ HBW.out).mono ?_
 rintro e w2 ⟨rfl, hb2⟩
 have hb2a := hb2.alloc hb2.size (.cells #[.int .i64 xk, .int .i64 f, .int .i64 t, .int .i64 xvk, .int .i64 xvn, .string xvb, .slice none 0 0, .string xb] 59)
 have HT2 := Lib.hid (heapA_new (w := w2) (b := w2.heap.size) (.cells #[.int .i64 xk, .int .i64 f, .int .i64 t, .int .i64 xvk, .int .i64 xvn, .string xvb, .slice none 0 0, .string xb] 59) rfl)
 have HZ2 := Lib.hid (block_keep hb2a HZ.out)
 have HB2 := Lib.hid (HBW.out.trans (hb2a.mono HBW.out.size))
 have HL2 := Lib.hid (show B < w2.heap.size from Nat.lt_of_lt_of_le (lt_of_heap HZ.out) hb2.size)
 clear hb2 hb2a HN HZ
 go_upto_region 2 with fail
 obtain ⟨r2, hr2⟩ : ∃ r2, r2 = w2.heap.size := ⟨_, rfl⟩
 rw [← hr2] at HT2 ⊢
 have HWL := Lib.hid (show B < (w2.alloc (.cells #[.int .i64 xk, .int .i64 f, .int .i64 t, .int .i64 xvk, .int .i64 xvn, .string xvb, .slice none 0 0, .string xb] 59)).heap.size by rw [sizeA]; have := HL2.out; omega)
 clear hr2 HL2
 generalize w2.alloc _ = W2 at *
 obtain ⟨⟨t0, t1, t2, t3, t4, t5, t6, t7⟩, -⟩ := cells8 HT2.out
 obtain ⟨⟨r0, r1, r2', r3⟩, rf0, rf1, rf2, rf3⟩ := cells4 HZ2.out
 have hR := HR.out
 by_cases her : er = 0
 case neg =>
   have e0 : (er == 0) = false := by rw [beq_eq_false_iff_ne]; exact her
   have e1 : (er != 0) = true := by simp only [bne, e0, Bool.not_false]
   rw [if_pos her] at hR
   subst hR
   clear HR HV her
   go_wp2
   refine bodyPost_ret (results_val3 rfl _ _ B 24 _ (0, 0) _ rfl (by exact set4 HZ2.out _ _ _ _) Tryz.underlying24 rfl (by exact infoPV) _ _ rfl rfl) rfl ?_
   exact leaf_end (R := (PV.none, 0, er)) rfl (below_set4 HB2.out HBB.out _ _ _ _)
 subst her
 rw [if_neg (by simp)] at hR
 subst hR
 clear HR
 go_wp2_with fail
 refine (HV.out _ HB2.out f).mono ?_
 rintro e w3 ⟨sl, rfl, hV3, hb3⟩
 have HZ3 := Lib.hid (block_keep hb3 HZ2.out)
 obtain ⟨sa, sc, rfl, -⟩ := hV3.len
 have HV3 := Lib.hid hV3
 have HB3 := Lib.hid (HB2.out.trans (hb3.mono HB2.out.size))
 have HWS := Lib.hid HB2.out.size
 clear hV3 hb3 t0 t1 t2 t3 t4 t5 t6 t7 r0 r1 r2' r3 rf0 rf1 rf2 rf3 HT2 HV HZ2
 obtain ⟨⟨r0, r1, r2', r3⟩, rf0, rf1, rf2, rf3⟩ := cells4 HZ3.out
 unfold pvA
 go_wp2
 refine bodyPost_ret (results_val3 rfl _ _ B 24 _ (0, 0) _ rfl (by exact set4 HZ3.out _ _ _ _) Tryz.underlying24 rfl (by exact infoPV) _ _ rfl rfl) rfl ?_
 exact ⟨_, rfl, IsV.keep (F := fun b => W2.heap.size ≤ b) ⟨by rw [set4_size]; exact Nat.le_refl _, fun b _ hb => set4_other (by have := HWL.out; omega) _ _ _ _⟩ (fun b hb => Nat.le_trans HWS.out hb) _ HV3.out, below_set4 HB3.out HBB.out _ _ _ _⟩
structure VAt (w W : World) (F : Nat → Prop) (r p : Nat) (a : Option Addr) (cap : Nat) (bs : List UInt8) (last : Bool) (V : PV × Int × Int) (n : Nat) (st : List Lv) (at_ : Int) : Prop where
 stk : Stk w W F (fun b => b = r) p a cap bs last st at_
 res : W.heap[r]? = some (.cells #[.int .i64 0, .int .i64 0, .string ⟨#[]⟩, .slice none 0 0] 24 (0, 0))
 fuel : valO bs last n st at_ = some V
 len : ∀ v ∈ st, (v.l.length : Int) ≤ at_
 rng : st = [] ∨ (0 ≤ at_ ∧ at_ ≤ bs.length)
def ValI (w : World) (r p : Nat) (a : Option Addr) (cap : Nat) (bs : List UInt8) (last : Bool) (at0 : Int) (V : PV × Int × Int) (n : Nat) (act : Act) (W : World) : Prop :=
 ∃ (F : Nat → Prop) (st : List Lv) (at_ : Int) (u10 u11 u12 u13 u14 u15 u16 u17 u18 u19 u20 u21 u22 u23 u24 u25 u26 u27 u28 u29 u30 u31 u32 u33 u34 u35 u36 u37 u38 u39 u40 u41 u42 u43 u44 u45 u46 u47 u48 u49 u50 u51 u52 u53 u54 u55 u56 u57 u58 u59 u60 u61 : Value), Hid (VAt w W F r p a cap bs last V n st at_) ∧
   act = { tmps := #[.slice a bs.length cap, .int .i64 at0, .bool last, undef, undef, undef, .pointer (some ⟨r, 0, none⟩), .int .i64 0, .int .i64 0, .pointer (some ⟨p, 0, none⟩), u10, u11, u12, u13, u14, u15, u16, u17, u18, u19, u20, u21, u22, u23, u24, u25, u26, u27, u28, u29, u30, u31, u32, u33, u34, u35, u36, u37, u38, u39, u40, u41, u42, u43, u44, u45, u46, u47, u48, u49, u50, u51, u52, u53, u54, u55, u56, u57, u58, u59, u60, u61], defers := [] }
def ValEnd (w : World) (V : PV × Int × Int) (e : Ending) (w' : World) : Prop :=
 ∃ sl, e = .returned (.tuple #[pvA V.1 sl, .int .i64 V.2.1, .int .i64 V.2.2]) ∧ IsV w' (fun b => w.heap.size ≤ b) V.1 sl ∧ Below w.heap.size w w'
theorem VAt.small {w W : World} {F : Nat → Prop} {r p : Nat} {a : Option Addr} {cap : Nat} {bs : List UInt8} {last : Bool} {V : PV × Int × Int} {n : Nat} {st : List Lv} {at_ : Int} (h : VAt w W F r p a cap bs last V n st at_) : ∀ v ∈ st, v.l.length ≤ 400000 := by
 intro v hv
 obtain ⟨gs, osl, hs⟩ := h.stk
 have := h.len v hv
 have hsm := hs.small
 rcases h.rng with h0 | h0
 · subst h0; cases hv
 · omega
theorem stepV_len {bs : List UInt8} {last : Bool} {st : List Lv} {k : Int} {t : Tk} {N : Int} (hN : 0 ≤ N) (h : ∀ v ∈ st, (v.l.length : Int) ≤ N) : ∀ v ∈ (stepV bs last st k t).2.1, (v.l.length : Int) ≤ N := by
 unfold stepV
 split
 · exact h
 · split
   · show ∀ v ∈ (beginV st _).1, _
     unfold beginV
     split
     · exact h
     · split
       · exact h
       · intro v hv
         rcases List.mem_cons.1 hv with rfl | hv
         · exact hN
         · exact h v hv
   · split
     · have he : ∀ d, ∀ v ∈ (endV12 st d).2.1, (v.l.length : Int) ≤ N := by
         intro d
         unfold endV12
         split
         · exact h
         · rename_i v rest
           have hr : ∀ u ∈ rest, (u.l.length : Int) ≤ N := fun u hu => h u (List.mem_cons_of_mem _ hu)
           split
           · exact h
           · split
             · exact hr
             · split
               · exact h
               · exact hr
       simp only
       split
       · exact he _
       · exact he _
     · simp only
       split
       · exact h
       · split
         · exact h
         · exact h
theorem IsV.setr {w W : World} {F : Nat → Prop} {r p : Nat} {a : Option Addr} {cap : Nat} {bs : List UInt8} {last : Bool} {st : List Lv} {at_ : Int} {gs : List Nat} {osl : Value} {v : PV} {sl : Value} (h : IsV W F v sl) (hs : IsStk w W F (fun b => b = r) p a cap bs last st at_ gs osl) (y0 y1 y2 y3 : Value) :
   IsV ((((W.setCell ⟨r, 0, none⟩ y0).setCell ⟨r, 1, none⟩ y1).setCell ⟨r, 2, none⟩ y2).setCell ⟨r, 3, none⟩ y3) (fun b => w.heap.size ≤ b) v sl :=
 IsV.keep ⟨by rw [set4_size]; exact Nat.le_refl _, fun b _ hf => set4_heap (fun e => (hs.fb b hf).2.1 e) _ _ _ _⟩ (fun b hf => (hs.fb b hf).1) v h
def S5v (w : World) (v : Nat) (y0 y1 y2 y3 : Value) : Prop := w.cell? ⟨v, 0, none⟩ = some y0 ∧ w.cell? ⟨v, 1, none⟩ = some y1 ∧ w.cell? ⟨v, 2, none⟩ = some y2 ∧ w.cell? ⟨v, 3, none⟩ = some y3
theorem S5v.drew {w : World} {v : Nat} {y0 y1 y2 y3 : Value} (h : S5v w v y0 y1 y2 y3) : S5v w.drew v y0 y1 y2 y3 := h
theorem S5v.alloc {w : World} {v : Nat} {y0 y1 y2 y3 : Value} (h : S5v w v y0 y1 y2 y3) (o : Obj) : S5v (w.alloc o) v y0 y1 y2 y3 :=
 ⟨cell_alloc o h.1, cell_alloc o h.2.1, cell_alloc o h.2.2.1, cell_alloc o h.2.2.2⟩
theorem S5v.grown {w w' : World} {row : Option Nat} {v : Nat} {y0 y1 y2 y3 : Value} (h : S5v w v y0 y1 y2 y3) (hg : w.grownBy w' row) (h2 : row ≠ some v) : S5v w' v y0 y1 y2 y3 := by
 have k : ∀ b o y, row ≠ some b → w.cell? ⟨b, o, none⟩ = some y → w'.cell? ⟨b, o, none⟩ = some y := fun b o y hb hc => by
   rw [World.cell?_of_block (w := w) (a := ⟨b, o, none⟩) (hg.block b (World.block_lt_of_cell? w _ hc) (fun e => hb e.symm))]; exact hc
 exact ⟨k _ _ _ h2 h.1, k _ _ _ h2 h.2.1, k _ _ _ h2 h.2.2.1, k _ _ _ h2 h.2.2.2⟩
theorem S5v.set {w : World} {v b : Nat} {y0 y1 y2 y3 : Value} (h : S5v w v y0 y1 y2 y3) (h2 : v ≠ b) (o : Nat) (z : Value) : S5v (w.setCell ⟨b, o, none⟩ z) v y0 y1 y2 y3 := by
 have k : ∀ c o' y, c ≠ b → w.cell? ⟨c, o', none⟩ = some y → (w.setCell ⟨b, o, none⟩ z).cell? ⟨c, o', none⟩ = some y := fun c o' y hb hc => by
   rw [World.cell?_of_block (w := w) (a := ⟨c, o', none⟩) (heap_setCell_other _ _ _ _ hb)]; exact hc
 exact ⟨k _ _ _ h2 h.1, k _ _ _ h2 h.2.1, k _ _ _ h2 h.2.2.1, k _ _ _ h2 h.2.2.2⟩
theorem owns_lastC {w : World} {base g n cap : Nat} {cs : List Value} {z0 z1 z2 z3 : Value} (h : w.ownsRow base 24 4 (.slice (some ⟨g, 0, none⟩) (n + 1) cap) (n + 1) (cs ++ [z0, z1, z2, z3])) :
   (w.cell? ⟨g, n * 4, none⟩ = some z0 ∧ w.cell? ⟨g, n * 4 + 1, none⟩ = some z1 ∧ w.cell? ⟨g, n * 4 + 2, none⟩ = some z2 ∧ w.cell? ⟨g, n * 4 + 3, none⟩ = some z3) ∧ (∀ j, w.frozen? ⟨g, j, none⟩ = false) := by
 have hl : cs.length = n * 4 := by have := h.1; simp at this; omega
 rcases h.2 with ⟨e, -⟩ | ⟨g', cap', cur, e, hb, hh, hn, hm, hs, ht⟩
 · cases e
 · simp only [Value.slice.injEq, Option.some.injEq, Addr.mk.injEq] at e
   obtain ⟨⟨rfl, -⟩, -, rfl⟩ := e
   have hc : ∀ j z, (cs ++ [z0, z1, z2, z3])[j]? = some z → w.cell? ⟨g, j, none⟩ = some z := fun j z hj => by
     rw [cell_of_row w g j cur _ _ hh]
     rw [← ht, List.getElem?_take] at hj
     split at hj
     · simpa using hj
     · cases hj
   refine ⟨⟨hc _ _ ?_, hc _ _ ?_, hc _ _ ?_, hc _ _ ?_⟩, fun j => frozen_of_row w g j cur _ hh⟩
   · rw [List.getElem?_append_right (by omega)]; simp [hl]
   · rw [List.getElem?_append_right (by omega)]; simp [hl]
   · rw [List.getElem?_append_right (by omega)]; simp [hl]
   · rw [List.getElem?_append_right (by omega)]; simp [hl]
theorem owns_setLast {w : World} {base g n cap : Nat} {cs : List Value} {z0 z1 z2 z3 y0 y1 y2 y3 : Value} (h : w.ownsRow base 24 4 (.slice (some ⟨g, 0, none⟩) (n + 1) cap) (n + 1) (cs ++ [z0, z1, z2, z3])) :
   ((((w.setCell ⟨g, n * 4, none⟩ y0).setCell ⟨g, n * 4 + 1, none⟩ y1).setCell ⟨g, n * 4 + 2, none⟩ y2).setCell ⟨g, n * 4 + 3, none⟩ y3).ownsRow base 24 4 (.slice (some ⟨g, 0, none⟩) (n + 1) cap) (n + 1) (cs ++ [y0, y1, y2, y3]) := by
 have hl : cs.length = n * 4 := by have := h.1; simp at this; omega
 rcases h.2 with ⟨e, -⟩ | ⟨g', cap', cur, e, hb, hh, hn, hm, hs, ht⟩
 · cases e
 · simp only [Value.slice.injEq, Option.some.injEq, Addr.mk.injEq] at e
   obtain ⟨⟨rfl, -⟩, -, rfl⟩ := e
   have e0 := heap_setCell_same w g (n * 4) cur _ y0 hh
   have e1 := heap_setCell_same _ g (n * 4 + 1) _ _ y1 e0
   have e2 := heap_setCell_same _ g (n * 4 + 2) _ _ y2 e1
   have e3 := heap_setCell_same _ g (n * 4 + 3) _ _ y3 e2
   refine ⟨by simp [hl]; omega, .inr ⟨g, cap, _, rfl, hb, e3, hn, hm, by simpa using hs, ?_⟩⟩
   have hcur : ∀ j, j < n * 4 → cur.toList[j]? = cs[j]? := fun j hj => by
     have := congrArg (fun l => l[j]?) ht
     simp only [List.getElem?_take] at this
     rw [if_pos (by omega), List.getElem?_append_left (by omega)] at this
     exact this
   apply List.ext_getElem?
   intro j
   rw [List.getElem?_take]
   simp only [Array.toList_setIfInBounds, List.getElem?_set, List.length_set, Array.length_toList]
   by_cases hj : j < (n + 1) * 4
   · rw [if_pos hj]
     by_cases h3 : n * 4 + 3 = j
     · subst h3; rw [List.getElem?_append_right (by omega)]; simp [hl]; omega
     · by_cases h2 : n * 4 + 2 = j
       · subst h2; rw [List.getElem?_append_right (by omega)]; simp [hl]; omega
       · by_cases h1 : n * 4 + 1 = j
         · subst h1; rw [List.getElem?_append_right (by omega)]; simp [hl]; omega
         · by_cases h0 : n * 4 = j
           · subst h0; rw [List.getElem?_append_right (by omega)]; simp [hl]; omega
           · simp only [h0, h1, h2, h3, if_false]
             rw [List.getElem?_append_left (by omega)]; exact hcur j (by omega)
   · rw [if_neg hj, List.getElem?_eq_none (by simp [hl]; omega)]
theorem setCell_comm (w : World) {g b : Nat} (h : g ≠ b) (i j : Nat) (u v : Value) : (w.setCell ⟨g, i, none⟩ u).setCell ⟨b, j, none⟩ v = (w.setCell ⟨b, j, none⟩ v).setCell ⟨g, i, none⟩ u := by
 unfold World.setCell
 simp only
 congr 1
 apply Array.ext_getElem?
 intro k
 simp only [Array.getElem?_modify]
 by_cases h1 : g = k
 · subst h1
   have h2 : ¬ b = g := fun e => h e.symm
   simp [h2]
 · by_cases h2 : b = k
   · subst h2; simp [h1]
   · simp [h1, h2]
theorem setCell_comm4 (w : World) {g b : Nat} (h : g ≠ b) (i j0 j1 j2 j3 : Nat) (u v0 v1 v2 v3 : Value) :
   ((((w.setCell ⟨g, i, none⟩ u).setCell ⟨b, j0, none⟩ v0).setCell ⟨b, j1, none⟩ v1).setCell ⟨b, j2, none⟩ v2).setCell ⟨b, j3, none⟩ v3 = ((((w.setCell ⟨b, j0, none⟩ v0).setCell ⟨b, j1, none⟩ v1).setCell ⟨b, j2, none⟩ v2).setCell ⟨b, j3, none⟩ v3).setCell ⟨g, i, none⟩ u := by
 rw [setCell_comm w h, setCell_comm _ h, setCell_comm _ h, setCell_comm _ h]
theorem VAt.put {w W5 w7 : World} {F : Nat → Prop} {r v4 p : Nat} {a : Option Addr} {cap : Nat} {bs : List UInt8} {last : Bool} {V : PV × Int × Int} {n : Nat} {top : Lv} {rest : List Lv} {at2 : Int} {g : Nat} {t : List Nat} {osl : Value}
   (HG5 : IsStk w W5 F (fun b => b = r ∨ b = v4) p a cap bs last (top :: rest) at2 (g :: t) osl) (HR5 : W5.heap[r]? = some (.cells #[.int .i64 0, .int .i64 0, .string ⟨#[]⟩, .slice none 0 0] 24 (0, 0)))
   {ta : Option Addr} {tn tc : Nat} (HGL : W5.heap[g]? = some (.cells #[.bool top.dict, .slice ta tn tc] 84 (0, 0))) {cs : List Value} (HVS : IsVs W5 F top.l cs) {X : PV} {sa : Option Addr} {sn sc : Nat} (HX : IsV W5 F X (.slice sa sn sc)) (HTN : tn = top.l.length)
   {o : Obj} (HG7 : ((W5.alloc o).drew).grownBy w7 (Value.slice ta tn tc).ownBlock) {g7 cap7 : Nat} {z0 z1 z2 z3 : Value}
   (HO7 : w7.ownsRow w.heap.size 24 4 (.slice (some ⟨g7, 0, none⟩) (tn + 1) cap7) (tn + 1) (cs ++ [z0, z1, z2, z3])) (HAT : (Value.slice ta tn tc).ownBlock = some g7 ∨ g7 = W5.heap.size + 1)
   (hv : valO bs last n ({ top with l := top.l ++ [X] } :: rest) at2 = some V) (hlen : ∀ v ∈ top :: rest, (v.l.length : Int) + 1 ≤ at2) (hrng : 0 ≤ at2 ∧ at2 ≤ bs.length) :
   VAt w (((((w7.setCell ⟨g7, tn * 4, none⟩ (.int .i64 X.kind)).setCell ⟨g7, tn * 4 + 1, none⟩ (.int .i64 X.n)).setCell ⟨g7, tn * 4 + 2, none⟩ (.string (mkB X.s))).setCell ⟨g7, tn * 4 + 3, none⟩ (.slice sa sn sc)).setCell ⟨g, 1, none⟩ (.slice (some ⟨g7, 0, none⟩) (tn + 1) cap7)) F r p a cap bs last V n ({ top with l := top.l ++ [X] } :: rest) at2 := by
 subst HTN
 have hk : Keeps (fun b => (Value.slice ta top.l.length tc).ownBlock = some b) W5 ((((w7.setCell ⟨g7, top.l.length * 4, none⟩ (.int .i64 X.kind)).setCell ⟨g7, top.l.length * 4 + 1, none⟩ (.int .i64 X.n)).setCell ⟨g7, top.l.length * 4 + 2, none⟩ (.string (mkB X.s))).setCell ⟨g7, top.l.length * 4 + 3, none⟩ (.slice sa sn sc)) := by
   have h0 : Keeps (fun b => (Value.slice ta top.l.length tc).ownBlock = some b) W5 w7 :=
     (keeps_below (belowA W5 o).drew).grown HG7 fun k hk => .inl hk
   have hg7 : (Value.slice ta top.l.length tc).ownBlock = some g7 ∨ W5.heap.size ≤ g7 := by rcases HAT with h | h; exact .inl h; exact .inr (by omega)
   exact (((h0.setCell (a := ⟨g7, _, none⟩) hg7 _).setCell (a := ⟨g7, _, none⟩) hg7 _).setCell (a := ⟨g7, _, none⟩) hg7 _).setCell (a := ⟨g7, _, none⟩) hg7 _
 have N := HG5.put HGL HVS HX (v' := .slice (some ⟨g7, 0, none⟩) (top.l.length + 1) cap7) (owns_setLast HO7) hk (fun b hb => by
   have hb : g7 = b := by simpa [Value.ownBlock] using hb
   subst hb
   rcases HAT with h | h; exact .inl h; exact .inr (by omega))
 refine ⟨(let ⟨gs2, osl2, h⟩ := N.stk; ⟨gs2, osl2, h.give fun b hb => .inl hb⟩), stays_obj N.sg HR5 (.inl rfl), hv, fun v hv => ?_, .inr hrng⟩
 rcases List.mem_cons.1 hv with rfl | hv
 · have := hlen top List.mem_cons_self
   simpa using this
 · have := hlen v (List.mem_cons_of_mem _ hv)
   omega
set_option maxRecDepth 100000 in
theorem value_any {w : World} {a : Option Addr} {cap : Nat} {bs : List UInt8} (hr : Row w 1 a bs.length cap (bs.map u8C)) (hn : bs.length ≤ 400000) (at0 : Int) (last : Bool) (V : PV × Int × Int) (hV : valO bs last (bs.length + 2) [] at0 = some V) :
   Calls Tryz.prog 21 #[.slice a bs.length cap, .int .i64 at0, .bool last] w (ValEnd w V) := by
 obtain ⟨r, hrr⟩ : ∃ r, r = w.heap.size := ⟨_, rfl⟩
 have hs0 : IsStk w ((w.alloc (.cells #[.int .i64 0, .int .i64 0, .string ⟨#[]⟩, .slice none 0 0] 24)).alloc (.cells #[.slice a bs.length cap, .int .i64 at0, .bool last, .slice none 0 0] 77)) (fun _ => False) (fun b => b = r) (r + 1) a cap bs last [] at0 [] (.slice none 0 0) :=
   ⟨heapA_new _ (by rw [sizeA, hrr]), by omega, by omega, World.ownsRow_nil _ _ _ _, fun b hb => (by cases hb), rfl, fun b hb => hb.elim, fun b hb => by rw [sizeA, sizeA]; omega, belowA2 w _ _, hr, hn, by simp⟩
 have HAT := Lib.hid (show VAt w ((w.alloc (.cells #[.int .i64 0, .int .i64 0, .string ⟨#[]⟩, .slice none 0 0] 24)).alloc (.cells #[.slice a bs.length cap, .int .i64 at0, .bool last, .slice none 0 0] 77)) (fun _ => False) r (r + 1) a cap bs last V (bs.length + 2) [] at0 from
   ⟨⟨_, _, hs0⟩, heapA_old _ (heapA_new _ hrr), hV, fun v hv => (by cases hv), .inl rfl⟩)
 have HRR := Lib.hid hrr
 clear hs0 hV hr hn hrr
 go_enter Tryz.func21, Tryz.ntmps21
 go_wp2
 refine wp_scope_ghost 0 (ValI w r (r + 1) a cap bs last at0 V) rfl ?first ?pass
 case first =>
   intro hpass
   have HPASS := Lib.hid hpass
   clear hpass
   go_wp2
   rw [← HRR.out]
   refine wp_label ?_
   rename_i K hK
   exact hK _ _ (HPASS.out _ _ _ ⟨_, [], at0, _, _, _, _, _, _, _, _, _, _, _, _, _, _, _, _, _, _, _, _, _, _, _, _, _, _, _, _, _, _, _, _, _, _, _, _, _, _, _, _, _, _, _, _, _, _, _, _, _, _, _, _, HAT, rfl⟩)
 case pass =>
   rintro n act W ⟨F, st, at_, u10, u11, u12, u13, u14, u15, u16, u17, u18, u19, u20, u21, u22, u23, u24, u25, u26, u27, u28, u29, u30, u31, u32, u33, u34, u35, u36, u37, u38, u39, u40, u41, u42, u43, u44, u45, u46, u47, u48, u49, u50, u51, u52, u53, u54, u55, u56, u57, u58, u59, u60, u61, HA, rfl⟩
   obtain ⟨p, hp⟩ : ∃ p, p = r + 1 := ⟨_, rfl⟩
   rw [← hp] at HA ⊢
   have HP := Lib.hid hp
   clear hp HAT
   obtain ⟨gs, osl, hs⟩ := HA.out.stk
   have HS := Lib.hid hs
   have HNX := Lib.hid (pnext_any hs)
   have HFU := Lib.hid HA.out.fuel
   have HRES := Lib.hid HA.out.res
   have hrl : r < W.heap.size := lt_of_heap HA.out.res
   have hpr : p ≠ r := hs.gp
   have HLEN := Lib.hid HA.out.len
   have HSM := Lib.hid HA.out.small
   have HRNG := Lib.hid HA.out.rng
   have HHR := Lib.hid (show w.heap.size ≤ r by rw [HRR.out]; exact Nat.le_refl _)
   have hfu := HFU.out
   cases n with
   | zero => cases hfu
   | succ n =>
   unfold valO at hfu
   simp only at hfu
   obtain ⟨T, hT⟩ : ∃ T, T = nextV bs at_ last := ⟨_, rfl⟩
   rw [← hT] at hfu HNX
   have HT := Lib.hid hT
   obtain ⟨x, tf, tt, er⟩ := T
   simp only at hfu HNX
   clear hs hT HFU HA
   by_cases her : er = 0
   case neg =>
     have hv := hfu
     rw [if_pos her] at hv
     have HV := Lib.hid (Option.some.inj hv).symm
     have e1 : (er == 0) = false := by rw [beq_eq_false_iff_ne]; exact her
     have e2 : (er != 0) = true := by simp only [bne, e1, Bool.not_false]
     clear hfu hv her
     unfold tokN at HNX
     go_wp2_with fail
     refine HNX.out.mono ?_
     rintro e w1 ⟨rfl, hs1, hk1⟩
     have HR1 := Lib.hid ((hk1.alloc (.cells (tokN x tf tt) 54)).obj HRES.out (Ne.symm hpr))
     have HB1 := Lib.hid (hs1.bel.alloc hs1.bel.size (.cells (tokN x tf tt) 54))
     unfold tokN at HR1 HB1
     obtain ⟨⟨k0, k1, k2, k3⟩, m0, m1, m2, m3⟩ := cells4 HR1.out
     clear hs1 hk1
     go_upto_region 3 with fail
     generalize w1.alloc _ = W2 at *
     go_wp2
     try simp only [Exit.jump]
     refine bodyPost_ret (results_val3 rfl _ _ r 24 _ (0, 0) _ rfl (by exact set4 HR1.out _ _ _ _) Tryz.underlying24 rfl (by exact infoPV) _ _ rfl rfl) rfl ?_
     rw [HV.out]
     exact ⟨.slice none 0 0, rfl, IsV.leaf _ _ _ rfl, below_set4 HB1.out HHR.out _ _ _ _⟩
   subst her
   have hv := hfu
   rw [if_neg (by simp)] at hv
   have hrng : 0 ≤ at_ ∧ at_ ≤ bs.length := by
     have h := HT.out
     by_cases ho : at_ < 0 ∨ (bs.length : Int) < at_
     · unfold nextV at h
       rw [if_pos ho] at h
       have h2 := congrArg (fun z : Tk × Int × Int × Int => z.2.2.2) h
       simp at h2
     · omega
   have hst := fun w1 (h1 : IsStk w w1 F (fun b => b = r) p a cap bs last st tt gs osl) => step_any h1 x tf tt HSM.out
   have HST := Lib.hid hst
   have hat := fun h => nextV_far (bs := bs) (k := at_) (last := last) hrng.1 hrng.2 (by rw [← HT.out]) h
   rw [← HT.out] at hat
   have hto := nextV_to (bs := bs) (k := at_) last hrng.1 hrng.2
   rw [← HT.out] at hto
   simp only at hat hto
   have hsa := stepV_at (bs := bs) (last := last) (k := tt) (by omega) hto.2 st x
   have hsk := fun h => stepV_kind (bs := bs) (last := last) (k := tt) (st := st) (t := x) h
   have hsl := stepV_len (bs := bs) (last := last) (st := st) (k := tt) (t := x) (N := at_) hrng.1 HLEN.out
   obtain ⟨R, hRR⟩ : ∃ R, R = stepV bs last st tt x := ⟨_, rfl⟩
   rw [← hRR] at hsa hsk hsl hv
   have HST2 := Lib.hid (show ∀ w1, IsStk w w1 F (fun b => b = r) p a cap bs last st tt gs osl → Calls Tryz.prog 38 #[.pointer (some ⟨p, 0, none⟩), .agg (tokN x tf tt)] w1 (PStep w w1 F (fun b => b = r) p a cap bs last R) from fun w1 h1 => by rw [hRR]; exact hst w1 h1)
   obtain ⟨o, st2, at2, er2⟩ := R
   simp only at hsa hsk hsl hv
   have HV := Lib.hid hv
   have HSL := Lib.hid hsl
   have HSA := Lib.hid hsa
   have HSK := Lib.hid (fun h => hat (hsk h))
   have HTO := Lib.hid hto
   have HR0 := Lib.hid hrng
   clear hst HST hat hto hsa hsk hsl hRR hv hfu hrng HT
   unfold tokN at HNX HST2
   go_wp2_with fail
   refine HNX.out.mono ?_
   rintro e w1 ⟨rfl, hs1, hk1⟩
   have HR1 := Lib.hid (hk1.obj HRES.out (Ne.symm hpr))
   have HS1 := Lib.hid hs1
   clear hs1 hk1 HNX
   go_wp2_with fail
   refine (HST2.out _ (HS1.out.alloc _)).mono ?_
   rintro e w3 ⟨F', sa, sn, sc, X, rfl, hX, hN⟩
   have HX := Lib.hid hX
   have HN := Lib.hid hN
   have HR3 := Lib.hid (stays_obj hN.sg (heapA_old (.cells #[.int .i64 x.kind, .int .i64 tf, .int .i64 tt, .int .i64 x.vk, .int .i64 x.vn, .string (mkB x.vs), .slice none 0 0, .string (mkB x.s)] 54) HR1.out) rfl)
   have HB3 := Lib.hid (show Below w.heap.size w w3 from (let ⟨_, _, h⟩ := hN.stk; h.bel))
   clear hX hN HST2 HS1 HR1
   unfold pvA
   by_cases her2 : er2 = 0
   case neg =>
     have hv := HV.out
     rw [if_pos her2] at hv
     have HVV := Lib.hid (Option.some.inj hv).symm
     have e1 : (er2 == 0) = false := by rw [beq_eq_false_iff_ne]; exact her2
     have e2 : (er2 != 0) = true := by simp only [bne, e1, Bool.not_false]
     clear hv her2
     simp only
     generalize o.isSome = io at *
     go_upto_region 6 with fail
     have HR4 := Lib.hid (heapA_old (.cells #[.int .i64 X.kind, .int .i64 X.n, .string (mkB X.s), .slice sa sn sc] 24) HR3.out)
     have HB4 := Lib.hid (HB3.out.alloc HB3.out.size (.cells #[.int .i64 X.kind, .int .i64 X.n, .string (mkB X.s), .slice sa sn sc] 24))
     generalize w3.alloc _ = W4 at *
     obtain ⟨⟨k0, k1, k2, k3⟩, m0, m1, m2, m3⟩ := cells4 HR4.out
     go_wp2
     refine bodyPost_ret (results_val3 rfl _ _ r 24 _ (0, 0) _ rfl (by exact set4 HR4.out _ _ _ _) Tryz.underlying24 rfl (by exact infoPV) _ _ rfl rfl) rfl ?_
     rw [HVV.out]
     exact ⟨.slice none 0 0, rfl, IsV.leaf _ _ _ rfl, below_set4 HB4.out HHR.out _ _ _ _⟩
   subst her2
   have hv := HV.out
   rw [if_neg (by simp)] at hv
   have hlt : at_ < tt := HSK.out rfl
   have hrng := HR0.out
   have hsa := HSA.out
   have hsl := HSL.out
   cases o with
   | none =>
     simp only at hv
     have HVA := Lib.hid (show ∀ o : Obj, VAt w (w3.alloc o) F' r p a cap bs last V n st2 at2 from fun o =>
       ⟨(let ⟨gs2, osl2, h⟩ := HN.out.stk; ⟨gs2, osl2, h.alloc o⟩), heapA_old o HR3.out, hv, fun v hv => by have := hsl v hv; omega, .inr ⟨by omega, hsa.2⟩⟩)
     clear hv hlt hsa hsl HN HX hrng
     simp only [Option.isSome_none]
     go_wp2
     go_step3
     exact ⟨rfl, n, Nat.lt_succ_self _, F', st2, at2, _, _, _, _, _, _, _, _, _, _, _, _, _, _, _, _, _, _, _, _, _, _, _, _, _, _, _, _, _, _, _, _, _, _, _, _, _, _, _, _, _, _, _, _, _, _, _, _, _, _, _, _, Lib.hid (HVA.out _), rfl⟩
   | some x0 =>
     simp only [Option.isSome_some]
     obtain ⟨rfl, hv0⟩ := HX.out x0 rfl
     have HV0 := Lib.hid hv0
     obtain ⟨gs2, osl2, hs2⟩ := HN.out.stk
     have HS2 := Lib.hid hs2
     simp only at hv
     go_upto_region 9 with fail
     obtain ⟨v4, hv4⟩ : ∃ v4, v4 = w3.heap.size := ⟨_, rfl⟩
     have hb4 := belowA w3 (.cells #[.int .i64 X.kind, .int .i64 X.n, .string (mkB X.s), .slice sa sn sc] 24)
     have hk4 := heapA_new (w := w3) (b := v4) (.cells #[.int .i64 X.kind, .int .i64 X.n, .string (mkB X.s), .slice sa sn sc] 24) hv4
     have HS4 := Lib.hid (hs2.mono hb4)
     have HG4 := Lib.hid (hs2.res (G' := fun b => b = r ∨ b = v4) hb4 (fun b hb => hb.imp id fun e => by rw [e, hv4, sizeA]; omega))
     have HV4 := Lib.hid (hv0.below hb4)
     have HR4 := Lib.hid (block_keep hb4 HR3.out)
     have HB4 := Lib.hid (HB3.out.trans (hb4.mono HB3.out.size))
     have HK4 := Lib.hid hk4
     have HV3 := Lib.hid hv4
     have hv4r : v4 ≠ r := by have := lt_of_heap HR3.out; omega
     have hv4p : v4 ≠ p := by have := hs2.lt; omega
     rw [← hv4]
     clear hv0 hs2 HX HN HS2 HV0 HR3 HB3 hb4 hk4
     generalize w3.alloc _ = W4 at *
     clear hv4
     have HTOP := Lib.hid (top_any HS4.out)
     go_wp2_with fail
     refine HTOP.out.mono ?_
     rintro e w5 ⟨rfl, q, rfl⟩
     have HS5 := Lib.hid (HS4.out.drewN q)
     have HG5 := Lib.hid (HG4.out.drewN q)
     have HV5 := Lib.hid (HV4.out.below (below_drewN (Below.refl _ _) q))
     have HR5 := Lib.hid (show (W4.drewN q).heap[r]? = _ from HR4.out)
     have HB5 := Lib.hid (below_drewN HB4.out q)
     have HK5 := Lib.hid (show (W4.drewN q).heap[v4]? = _ from HK4.out)
     clear HS4 HG4 HV4 HR4 HB4 HK4 HTOP
     generalize W4.drewN q = W5 at *
     obtain ⟨⟨k0, k1, k2, k3⟩, m0, m1, m2, m3⟩ := cells4 HR5.out
     obtain ⟨⟨d0, d1, d2, d3⟩, -⟩ := cells4 HK5.out
     cases st2 with
     | nil =>
       have hg : gs2 = [] := List.eq_nil_of_length_eq_zero (by rw [HS5.out.lvs.len]; rfl)
       subst hg
       have HVV := Lib.hid (Option.some.inj hv).symm
       obtain ⟨⟨c0, c1, c2, c3⟩, -⟩ := HS5.out.cells
       clear hv hlt hsa hsl hrng
       unfold topP
       go_wp2
       go_region
       all_goals
         go_wp2
         refine bodyPost_ret (results_val3 rfl _ _ r 24 _ (0, 0) _ rfl (by exact set4 HR5.out _ _ _ _) Tryz.underlying24 rfl (by exact infoPV) _ _ rfl rfl) rfl ?_
         rw [HVV.out]
         exact ⟨_, rfl, (IsV.setr HV5.out HS5.out _ _ _ _).drew, (below_set4 HB5.out HHR.out _ _ _ _).drew⟩
     | cons top rest =>
       obtain ⟨g, t, ta, tc, cs, rfl, ht1, ht2, hgB, hgG, hgl, hO, hVs, hown⟩ := HG5.out.lastL
       obtain ⟨tn, htn⟩ : ∃ tn, tn = top.l.length := ⟨_, rfl⟩
       rw [← htn] at ht1 hO hgl hown
       have htn2 : tn ≤ 400000 := by
         have h1 := hsl top List.mem_cons_self
         have h2 := HS5.out.small
         omega
       have hgc : W5.cell? ⟨g, 1, none⟩ = some (.slice ta tn tc) := by rw [cell_of_row W5 g 1 _ _ _ hgl]; rfl
       have hgf : W5.frozen? ⟨g, 1, none⟩ = false := frozen_of_row W5 g 1 _ _ hgl
       have hv4l : v4 < W5.heap.size := lt_of_heap HK5.out
       have hgll : g < W5.heap.size := lt_of_heap hgl
       have hgt : (Value.slice ta tn tc).ownBlock ≠ some g := fun e => by obtain ⟨ds, hc⟩ := owns_type hO e; exact type_ne hc hgl (by decide) rfl
       have hvt : (Value.slice ta tn tc).ownBlock ≠ some v4 := fun e => (hown v4 e).2 (.inr rfl)
       have HC0 : Hid (S5v W5 v4 (.int .i64 X.kind) (.int .i64 X.n) (.string (mkB X.s)) (.slice sa sn sc)) := Lib.hid ⟨d0, d1, d2, d3⟩
       have HO := Lib.hid hO
       have HGL := Lib.hid hgl
       have HVS := Lib.hid hVs
       have HTN := Lib.hid htn
       have HBA := Lib.hid (HS5.out.bel.size)
       have HGT := Lib.hid hgt
       have HVT := Lib.hid hvt
       have HVG := Lib.hid (show v4 ≠ g from fun e => hgG (.inr e.symm))
       clear k0 k1 k2 k3 m0 m1 m2 m3 hO hgl hVs htn hown
       unfold topP
       go_upto_region 11 with fail
       have i1 : (0 : Int) ≤ (tn : Int) := by omega
       have i2 : (tn : Int) ≤ 400000 := by omega
       have i3 : (tn : Int) < (tn : Int) + 1 := by omega
       have i4 : (tn : Int) < ((tn + 1 : Nat) : Int) := by omega
       have i5 : tn < tn + 1 := by omega
       have i6 : (tn : Int).toNat = tn := by omega
       obtain ⟨iB, hiB, hzB, hsB, hbB⟩ := info_parts EPV.info
       go_region_law (first | (refine step_append_lies _ (by rfl) _ _ _ (by rfl) w.heap.size 24 iB _ 4 56 EPV.und hiB hzB hsB hbB rfl (by omega) (.slice ta tn tc) tn cs (by rfl) ((HO.out.alloc _).drew) ⟨W5.heap.size, 0, none⟩ 1 1 [.int .i64 0, .int .i64 0, .string ⟨#[]⟩, .slice none 0 0] (by rfl) (by rfl) (World.news_of_block (cs := #[.int .i64 0, .int .i64 0, .string ⟨#[]⟩, .slice none 0 0]) (t := 24) (fr := (0, 0)) (heap_alloc_new W5 _)) (by simp [Value.oneCell']) (by omega) (by unfold maxLen; omega) (by omega) (by simp; have := HBA.out; omega) (W5.heap.size + 1) (by simp) ?_; intro g7 cap7 w7 hO7 hgrow hat hlt7; have HGV : Hid (g ≠ g7 ∧ v4 ≠ g7) := (by rcases hat with e | e; exact Lib.hid ⟨fun e2 => hgt (e2 ▸ e), fun e2 => hvt (e2 ▸ e)⟩; exact Lib.hid ⟨by omega, by omega⟩); have hs7 := (HC0.out.alloc (.cells #[.int .i64 0, .int .i64 0, .string ⟨#[]⟩, .slice none 0 0] 24)).drew.grown hgrow hvt; obtain ⟨s0, s1, s2, s3⟩ := hs7; obtain ⟨⟨z0, z1, z2, z3⟩, zf⟩ := owns_lastC hO7; have hgl7 := Lib.hid ((hgrow.block g (show g < (W5.alloc _).heap.size by rw [sizeA]; omega) (fun e => hgt e.symm)).trans (heapA_old (.cells #[.int .i64 0, .int .i64 0, .string ⟨#[]⟩, .slice none 0 0] 24) HGL.out)); have hgf7 := frozen_of_row w7 g 1 _ _ hgl7.out; have hgne : g ≠ g7 := HGV.out.1; have zf0 := zf (tn * 4); have zf1 := zf (tn * 4 + 1); have zf2 := zf (tn * 4 + 2); have zf3 := zf (tn * 4 + 3); have hc7 : w7.cell? ⟨g, 1, none⟩ = some (.slice ta tn tc) := (by rw [cell_of_row w7 g 1 _ _ _ hgl7.out]; rfl); have HG7 := Lib.hid hgrow; have HO7 := Lib.hid hO7; have HAT := Lib.hid hat; clear zf hgrow hO7 hat hlt7))
       all_goals
         first
           | rw [setCell_comm4 w7 hgne]
           | skip
         have HVA := Lib.hid (VAt.put HG5.out HR5.out HGL.out HVS.out HV5.out HTN.out HG7.out HO7.out HAT.out hv (fun v hv => by have := hsl v hv; omega) ⟨by omega, hsa.2⟩)
         clear hv hlt hsa hsl hrng HG5 HR5 HGL HVS HV5 HTN HG7 HO7 HAT HO
         go_wp2
         go_step3
         exact ⟨rfl, n, Nat.lt_succ_self _, F', _, at2, _, _, _, _, _, _, _, _, _, _, _, _, _, _, _, _, _, _, _, _, _, _, _, _, _, _, _, _, _, _, _, _, _, _, _, _, _, _, _, _, _, _, _, _, _, _, _, _, _, _, _, _, HVA, rfl⟩
def wholW (bs : List UInt8) : PV × Int :=
 if (wholeD bs true 0).2.2 ≠ 0 then (PV.none, (wholeD bs true 0).2.2) else if (nextV bs (wholeD bs true 0).2.1 true).2.2.2 ≠ 0 then (PV.none, (nextV bs (wholeD bs true 0).2.1 true).2.2.2)
 else if (nextV bs (wholeD bs true 0).2.1 true).1.kind ≠ 0 then (PV.none, 11) else ((wholeD bs true 0).1, 0)
def WhEnd (w : World) (R : PV × Int) (e : Ending) (w' : World) : Prop := ∃ sl, e = .returned (.tuple #[pvA R.1 sl, .int .i64 R.2]) ∧ IsV w' anyF R.1 sl ∧ Below w.heap.size w w'
theorem whleaf {w W : World} {e : Int} (hb : Below w.heap.size w W) : WhEnd w (PV.none, e) (.returned (.tuple #[pvA PV.none (.slice none 0 0), .int .i64 e])) W := ⟨_, rfl, IsV.leaf _ _ _ rfl, hb⟩
theorem IsV.beside {W : World} {X : PV} {sl : Value} {Q B : Nat} (h : IsV W (fun b => Q ≤ b) X sl) (hB : B < Q) (y0 y1 y2 y3 : Value) :
   IsV ((((W.setCell ⟨B, 0, none⟩ y0).setCell ⟨B, 1, none⟩ y1).setCell ⟨B, 2, none⟩ y2).setCell ⟨B, 3, none⟩ y3) anyF X sl :=
 IsV.keep (F := fun b => Q ≤ b) ⟨by rw [set4_size]; exact Nat.le_refl _, fun b _ hb => set4_other (by omega) _ _ _ _⟩ (fun _ _ => trivial) _ h
theorem rwhole_any {w : World} {a : Option Addr} {cap : Nat} {bs : List UInt8} (hr : Row w 1 a bs.length cap (bs.map u8C)) (hn : bs.length ≤ 399999) :
   Calls Tryz.prog 8 #[.slice a bs.length cap] w (WhEnd w (wholW bs)) := by
 have HV := Lib.hid (fun (W : World) (h : Below w.heap.size w W) => show Calls Tryz.prog 23 #[.slice a bs.length cap, .int .i64 0, .bool true] W (DocEnd W (wholeD bs true 0)) from rvalue_any (hr.mono h) hn true 0)
 have HN := Lib.hid (fun (W : World) (h : Below w.heap.size w W) => rnext_any (hr.mono h) (by omega) (wholeD bs true 0).2.1 true)
 obtain ⟨R, hR⟩ : ∃ R, R = wholW bs := ⟨_, rfl⟩
 rw [← hR]
 unfold wholW at hR
 generalize nextV bs (wholeD bs true 0).2.1 true = V at *
 obtain ⟨V1, hV1⟩ : ∃ V1, V1 = wholeD bs true 0 := ⟨_, rfl⟩
 rw [← hV1] at HV HN hR
 clear hV1
 obtain ⟨X, n, ev⟩ := V1
 obtain ⟨x, f, t, er⟩ := V
 simp only at hR HN
 unfold NextEnd tokN at HN
 simp only at HN
 have HR := Lib.hid hR
 clear hr hR
 generalize x.kind = xk at *
 generalize x.vk = xvk at *
 generalize x.vn = xvn at *
 generalize mkB x.vs = xvb at *
 generalize mkB x.s = xb at *
 generalize bs.length = L at *
 go_enter Tryz.func8, Tryz.ntmps8
 obtain ⟨B, hB⟩ : ∃ B, B = w.heap.size := ⟨_, rfl⟩
 have HZ := Lib.hid (heapA_new (w := w) (b := B) (.cells #[.int .i64 0, .int .i64 0, .string ⟨#[]⟩, .slice none 0 0] 24) hB)
 have HBW := Lib.hid (belowA w (.cells #[.int .i64 0, .int .i64 0, .string ⟨#[]⟩, .slice none 0 0] 24))
 have HBB := Lib.hid (Nat.le_of_eq hB.symm)
 go_upto_region 1 with fail
 rw [← hB]
 clear hB
 generalize w.alloc _ = W1 at *
 go_wp2_with fail
 refine (HV.out _ HBW.out).mono ?_
 rintro e w2 h2
 obtain ⟨sl, rfl, hx2, hb2⟩ := h2
 obtain ⟨sa, sc, rfl, -, -, -⟩ := hx2.len
 simp only [pvA]
 have hb2a := hb2.alloc hb2.size (.cells #[.int .i64 X.kind, .int .i64 X.n, .string (mkB X.s), .slice sa X.l.length sc] 24)
 have HT2 := Lib.hid (heapA_new (w := w2) (b := w2.heap.size) (.cells #[.int .i64 X.kind, .int .i64 X.n, .string (mkB X.s), .slice sa X.l.length sc] 24) rfl)
 have HX2 := Lib.hid (hx2.below (belowA w2 (.cells #[.int .i64 X.kind, .int .i64 X.n, .string (mkB X.s), .slice sa X.l.length sc] 24)))
 have HZ2 := Lib.hid (block_keep hb2a HZ.out)
 have HB2 := Lib.hid (HBW.out.trans (hb2a.mono HBW.out.size))
 have HBQ := Lib.hid (lt_of_heap HZ.out)
 clear hb2 hb2a hx2 HV HZ
 go_upto_region 2 with fail
 obtain ⟨r2, hr2⟩ : ∃ r2, r2 = w2.heap.size := ⟨_, rfl⟩
 rw [← hr2] at HT2 ⊢
 clear hr2
 generalize w2.alloc _ = W2 at *
 obtain ⟨⟨t0, t1, t2, t3⟩, -⟩ := cells4 HT2.out
 obtain ⟨⟨r0, r1, r2', r3⟩, rf0, rf1, rf2, rf3⟩ := cells4 HZ2.out
 have hR := HR.out
 by_cases hev : ev = 0
 case neg =>
   have e0 : (ev == 0) = false := by rw [beq_eq_false_iff_ne]; exact hev
   have e1 : (ev != 0) = true := by simp only [bne, e0, Bool.not_false]
   rw [if_pos hev] at hR
   subst hR
   clear HR HN hev HX2
   go_wp2
   refine bodyPost_ret (results_val rfl _ _ B 24 _ (0, 0) _ rfl (by exact set4 HZ2.out _ _ _ _) Tryz.underlying24 rfl (by exact infoPV) _ rfl) rfl ?_
   exact whleaf (below_set4 HB2.out HBB.out _ _ _ _)
 subst hev
 rw [if_neg (by simp)] at hR
 clear HR
 have HR := Lib.hid hR
 clear hR
 go_wp2_with fail
 refine (HN.out _ HB2.out).mono ?_
 rintro e w3 ⟨rfl, hb3⟩
 have hb3a := hb3.alloc hb3.size (.cells #[.int .i64 xk, .int .i64 f, .int .i64 t, .int .i64 xvk, .int .i64 xvn, .string xvb, .slice none 0 0, .string xb] 59)
 have HK3 := Lib.hid (heapA_new (w := w3) (b := w3.heap.size) (.cells #[.int .i64 xk, .int .i64 f, .int .i64 t, .int .i64 xvk, .int .i64 xvn, .string xvb, .slice none 0 0, .string xb] 59) rfl)
 have HZ3 := Lib.hid (block_keep hb3a HZ2.out)
 have HT3 := Lib.hid (block_keep hb3a HT2.out)
 have HX3 := Lib.hid (HX2.out.below hb3a)
 have HB3 := Lib.hid (HB2.out.trans (hb3a.mono HB2.out.size))
 clear hb3 hb3a HN HZ2 HT2 HX2 HB2 t0 t1 t2 t3 r0 r1 r2' r3 rf0 rf1 rf2 rf3
 go_upto_region 5 with fail
 obtain ⟨q3, hq3⟩ : ∃ q3, q3 = w3.heap.size := ⟨_, rfl⟩
 rw [← hq3] at HK3 ⊢
 clear hq3
 generalize w3.alloc _ = W3 at *
 obtain ⟨⟨t0, t1, t2, t3⟩, -⟩ := cells4 HT3.out
 obtain ⟨⟨k0, k1, k2, k3, k4, k5, k6, k7⟩, -⟩ := cells8 HK3.out
 obtain ⟨⟨r0, r1, r2', r3⟩, rf0, rf1, rf2, rf3⟩ := cells4 HZ3.out
 have hR := HR.out
 by_cases her : er = 0
 case neg =>
   have e0 : (er == 0) = false := by rw [beq_eq_false_iff_ne]; exact her
   have e1 : (er != 0) = true := by simp only [bne, e0, Bool.not_false]
   rw [if_pos her] at hR
   subst hR
   clear HR her HX3
   go_wp2
   refine bodyPost_ret (results_val rfl _ _ B 24 _ (0, 0) _ rfl (by exact set4 HZ3.out _ _ _ _) Tryz.underlying24 rfl (by exact infoPV) _ rfl) rfl ?_
   exact whleaf (below_set4 HB3.out HBB.out _ _ _ _)
 subst her
 rw [if_neg (by simp)] at hR
 by_cases hk : xk = 0
 case neg =>
   have e0 : (xk == 0) = false := by rw [beq_eq_false_iff_ne]; exact hk
   have e1 : (xk != 0) = true := by simp only [bne, e0, Bool.not_false]
   rw [if_pos hk] at hR
   subst hR
   clear HR hk HX3
   go_wp2
   refine bodyPost_ret (results_val rfl _ _ B 24 _ (0, 0) _ rfl (by exact set4 HZ3.out _ _ _ _) Tryz.underlying24 rfl (by exact infoPV) _ rfl) rfl ?_
   exact whleaf (below_set4 HB3.out HBB.out _ _ _ _)
 subst hk
 rw [if_neg (by simp)] at hR
 subst hR
 clear HR
 go_wp2
 refine bodyPost_ret (results_val rfl _ _ B 24 _ (0, 0) _ rfl (by exact set4 HZ3.out _ _ _ _) Tryz.underlying24 rfl (by exact infoPV) _ rfl) rfl ?_
 exact ⟨_, rfl, HX3.out.beside HBQ.out _ _ _ _, below_set4 HB3.out HBB.out _ _ _ _⟩
theorem pwhole_any {w : World} {a : Option Addr} {cap : Nat} {bs : List UInt8} (hr : Row w 1 a bs.length cap (bs.map u8C)) (hn : bs.length ≤ 399999) :
   Calls Tryz.prog 7 #[.slice a bs.length cap] w (WhEnd w (wholW bs)) := by
 have HV := Lib.hid (fun (W : World) (h : Below w.heap.size w W) => show Calls Tryz.prog 21 #[.slice a bs.length cap, .int .i64 0, .bool true] W (DocEnd W (wholeD bs true 0)) from value_any (hr.mono h) (by omega) 0 true _ (parse_doc (by omega) (by omega)))
 have HN := Lib.hid (fun (W : World) (h : Below w.heap.size w W) => next_any (hr.mono h) (by omega) (wholeD bs true 0).2.1 true)
 obtain ⟨R, hR⟩ : ∃ R, R = wholW bs := ⟨_, rfl⟩
 rw [← hR]
 unfold wholW at hR
 generalize nextV bs (wholeD bs true 0).2.1 true = V at *
 obtain ⟨V1, hV1⟩ : ∃ V1, V1 = wholeD bs true 0 := ⟨_, rfl⟩
 rw [← hV1] at HV HN hR
 clear hV1
 obtain ⟨X, n, ev⟩ := V1
 obtain ⟨x, f, t, er⟩ := V
 simp only at hR HN
 unfold NextEnd tokN at HN
 simp only at HN
 have HR := Lib.hid hR
 clear hr hR
 generalize x.kind = xk at *
 generalize x.vk = xvk at *
 generalize x.vn = xvn at *
 generalize mkB x.vs = xvb at *
 generalize mkB x.s = xb at *
 generalize bs.length = L at *
 go_enter Tryz.func7, Tryz.ntmps7
 obtain ⟨B, hB⟩ : ∃ B, B = w.heap.size := ⟨_, rfl⟩
 have HZ := Lib.hid (heapA_new (w := w) (b := B) (.cells #[.int .i64 0, .int .i64 0, .string ⟨#[]⟩, .slice none 0 0] 24) hB)
 have HBW := Lib.hid (belowA w (.cells #[.int .i64 0, .int .i64 0, .string ⟨#[]⟩, .slice none 0 0] 24))
 have HBB := Lib.hid (Nat.le_of_eq hB.symm)
 go_upto_region 1 with fail
 rw [← hB]
 clear hB
 generalize w.alloc _ = W1 at *
 go_wp2_with fail
 refine (HV.out _ HBW.out).mono ?_
 rintro e w2 h2
 obtain ⟨sl, rfl, hx2, hb2⟩ := h2
 obtain ⟨sa, sc, rfl, -, -, -⟩ := hx2.len
 simp only [pvA]
 have hb2a := hb2.alloc hb2.size (.cells #[.int .i64 X.kind, .int .i64 X.n, .string (mkB X.s), .slice sa X.l.length sc] 24)
 have HT2 := Lib.hid (heapA_new (w := w2) (b := w2.heap.size) (.cells #[.int .i64 X.kind, .int .i64 X.n, .string (mkB X.s), .slice sa X.l.length sc] 24) rfl)
 have HX2 := Lib.hid (hx2.below (belowA w2 (.cells #[.int .i64 X.kind, .int .i64 X.n, .string (mkB X.s), .slice sa X.l.length sc] 24)))
 have HZ2 := Lib.hid (block_keep hb2a HZ.out)
 have HB2 := Lib.hid (HBW.out.trans (hb2a.mono HBW.out.size))
 have HBQ := Lib.hid (lt_of_heap HZ.out)
 clear hb2 hb2a hx2 HV HZ
 go_upto_region 2 with fail
 obtain ⟨r2, hr2⟩ : ∃ r2, r2 = w2.heap.size := ⟨_, rfl⟩
 rw [← hr2] at HT2 ⊢
 clear hr2
 generalize w2.alloc _ = W2 at *
 obtain ⟨⟨t0, t1, t2, t3⟩, -⟩ := cells4 HT2.out
 obtain ⟨⟨r0, r1, r2', r3⟩, rf0, rf1, rf2, rf3⟩ := cells4 HZ2.out
 have hR := HR.out
 by_cases hev : ev = 0
 case neg =>
   have e0 : (ev == 0) = false := by rw [beq_eq_false_iff_ne]; exact hev
   have e1 : (ev != 0) = true := by simp only [bne, e0, Bool.not_false]
   rw [if_pos hev] at hR
   subst hR
   clear HR HN hev HX2
   go_wp2
   refine bodyPost_ret (results_val rfl _ _ B 24 _ (0, 0) _ rfl (by exact set4 HZ2.out _ _ _ _) Tryz.underlying24 rfl (by exact infoPV) _ rfl) rfl ?_
   exact whleaf (below_set4 HB2.out HBB.out _ _ _ _)
 subst hev
 rw [if_neg (by simp)] at hR
 clear HR
 have HR := Lib.hid hR
 clear hR
 go_wp2_with fail
 refine (HN.out _ HB2.out).mono ?_
 rintro e w3 ⟨rfl, hb3⟩
 have hb3a := hb3.alloc hb3.size (.cells #[.int .i64 xk, .int .i64 f, .int .i64 t, .int .i64 xvk, .int .i64 xvn, .string xvb, .slice none 0 0, .string xb] 54)
 have HK3 := Lib.hid (heapA_new (w := w3) (b := w3.heap.size) (.cells #[.int .i64 xk, .int .i64 f, .int .i64 t, .int .i64 xvk, .int .i64 xvn, .string xvb, .slice none 0 0, .string xb] 54) rfl)
 have HZ3 := Lib.hid (block_keep hb3a HZ2.out)
 have HT3 := Lib.hid (block_keep hb3a HT2.out)
 have HX3 := Lib.hid (HX2.out.below hb3a)
 have HB3 := Lib.hid (HB2.out.trans (hb3a.mono HB2.out.size))
 clear hb3 hb3a HN HZ2 HT2 HX2 HB2 t0 t1 t2 t3 r0 r1 r2' r3 rf0 rf1 rf2 rf3
 go_upto_region 5 with fail
 obtain ⟨q3, hq3⟩ : ∃ q3, q3 = w3.heap.size := ⟨_, rfl⟩
 rw [← hq3] at HK3 ⊢
 clear hq3
 generalize w3.alloc _ = W3 at *
 obtain ⟨⟨t0, t1, t2, t3⟩, -⟩ := cells4 HT3.out
 obtain ⟨⟨k0, k1, k2, k3, k4, k5, k6, k7⟩, -⟩ := cells8 HK3.out
 obtain ⟨⟨r0, r1, r2', r3⟩, rf0, rf1, rf2, rf3⟩ := cells4 HZ3.out
 have hR := HR.out
 by_cases her : er = 0
 case neg =>
   have e0 : (er == 0) = false := by rw [beq_eq_false_iff_ne]; exact her
   have e1 : (er != 0) = true := by simp only [bne, e0, Bool.not_false]
   rw [if_pos her] at hR
   subst hR
   clear HR her HX3
   go_wp2
   refine bodyPost_ret (results_val rfl _ _ B 24 _ (0, 0) _ rfl (by exact set4 HZ3.out _ _ _ _) Tryz.underlying24 rfl (by exact infoPV) _ rfl) rfl ?_
   exact whleaf (below_set4 HB3.out HBB.out _ _ _ _)
 subst her
 rw [if_neg (by simp)] at hR
 by_cases hk : xk = 0
 case neg =>
   have e0 : (xk == 0) = false := by rw [beq_eq_false_iff_ne]; exact hk
   have e1 : (xk != 0) = true := by simp only [bne, e0, Bool.not_false]
   rw [if_pos hk] at hR
   subst hR
   clear HR hk HX3
   go_wp2
   refine bodyPost_ret (results_val rfl _ _ B 24 _ (0, 0) _ rfl (by exact set4 HZ3.out _ _ _ _) Tryz.underlying24 rfl (by exact infoPV) _ rfl) rfl ?_
   exact whleaf (below_set4 HB3.out HBB.out _ _ _ _)
 subst hk
 rw [if_neg (by simp)] at hR
 subst hR
 clear HR
 go_wp2
 refine bodyPost_ret (results_val rfl _ _ B 24 _ (0, 0) _ rfl (by exact set4 HZ3.out _ _ _ _) Tryz.underlying24 rfl (by exact infoPV) _ rfl) rfl ?_
 exact ⟨_, rfl, HX3.out.beside HBQ.out _ _ _ _, below_set4 HB3.out HBB.out _ _ _ _⟩
end Go.Proofs.YtnkodejgiabamaaGreatDoor
