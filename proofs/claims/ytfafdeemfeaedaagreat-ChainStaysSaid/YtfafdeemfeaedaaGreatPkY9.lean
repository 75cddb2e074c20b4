/-
  Our texts PsC to Secs, in one.
-/
import Derived.Test.YtfafdeemfeaedaaGreatPkY8
import Derived.Deep.RegionLaw
import Derived.Deep.AppendLies
import Derived.PlainAid
import Derived.Test.YtfafdeemfeaedaaGreatProg
import Derived.Lib.Bytealg
import Derived.Deep.RegionHeld3
import Derived.WalkKit
import Derived.Lib.SlBytesConst
set_option maxRecDepth 8000
set_option maxHeartbeats 8000000
namespace Go.Proofs.YtfafdeemfeaedaaGreat
open Go.RowKit
section
variable {w0 w w' : World} {F F' G : Nat → Prop} {p : Nat} {a : Option Addr} {cap : Nat} {bs : List UInt8} {last : Bool} {st : List Lv} {at_ : Int} {gs : List Nat} {osl : Value}
def PStep (w0 w : World) (F G : Nat → Prop) (p : Nat) (a : Option Addr) (cap : Nat) (bs : List UInt8) (last : Bool) (R : Option PV × List Lv × Int × Int) (e : Ending) (w' : World) : Prop :=
 ∃ F' sa sn sc V, e = .returned (.tuple #[pvA V (.slice sa sn sc), .bool R.1.isSome, .int .i64 R.2.2.2]) ∧ (∀ X, R.1 = some X → V = X ∧ IsV w' F' V (.slice sa sn sc)) ∧ Nxt w0 w F G p a cap bs last R.2.1 R.2.2.1 F' w'
theorem zbX {S : Nat → Prop} {w w' : World} (h : zax S w w') {b o : Nat} {v : Value} (hc : w.cell? ⟨b, o, none⟩ = some v) (hS : S b) : w'.cell? ⟨b, o, none⟩ = some v := by
 rw [World.cell?_of_block (w := w) (a := ⟨b, o, none⟩) (h.2 b (World.block_lt_of_cell? w _ hc) hS)]; exact hc
theorem zbu {S : Nat → Prop} {w w' : World} (h : zax S w w') {b : Nat} {o : Obj} (hc : w.heap[b]? = some o) (hS : S b) : w'.heap[b]? = some o := by
 rw [h.2 b (zag hc) hS]; exact hc
def G3 (G : Nat → Prop) (r : Nat) : Nat → Prop := fun b => G b ∨ b = r ∨ b = r + 1 ∨ b = r + 2
theorem Nxt.fin3 {W1 W2 : World} {r : Nat} (h : zap w0 w F G p a cap bs last st at_ gs osl) (hb : Below w.heap.size w W1) {st2 : List Lv} {at2 : Int} (N : Nxt w0 W1 F (G3 G r) p a cap bs last st2 at2 F' W2) (hr : w.heap.size ≤ r) {k : Nat} (hk : k = r + 1) (y0 y1 y2 y3 : Value) :
   Nxt w0 w F G p a cap bs last st2 at2 F' ((((W2.setCell ⟨k, 0, none⟩ y0).setCell ⟨k, 1, none⟩ y1).setCell ⟨k, 2, none⟩ y2).setCell ⟨k, 3, none⟩ y3) := by
 subst hk
 obtain ⟨gs2, osl2, hs⟩ := N.stk
 have hGl : ∀ b, G b → b < w.heap.size := fun b hb => (h.gb b hb).2
 have hFl : ∀ b, F b → b < w.heap.size := fun b hb => h.Flt hb
 have h1 := hb.size
 have h2 := N.sg.1
 refine ⟨⟨gs2, osl2, (hs.set4 (.inr (.inr (.inl rfl))) _ _ _ _).give fun b hb => .inl hb⟩, ⟨by rw [zaO]; omega, fun b hb1 hG => ?_⟩, ⟨by rw [zaO]; omega, fun b hb1 hf => ?_⟩, N.ff⟩
 · rw [zaB (by have := hGl b hG; omega), N.sg.2 b (by omega) (.inl hG), hb.block b hb1]
 · rw [zaB (by have := hFl b hf; omega), N.sf.2 b (by omega) hf, hb.block b hb1]
theorem Nxt.fin34 {W1 W2 : World} {r : Nat} (h : zap w0 w F G p a cap bs last st at_ gs osl) (hb : Below w.heap.size w W1) {st2 : List Lv} {at2 : Int} (N : Nxt w0 W1 F (G3 G r) p a cap bs last st2 at2 F' W2) (hr : w.heap.size ≤ r) (y0 y1 y2 y3 z0 z1 z2 z3 : Value) :
   Nxt w0 w F G p a cap bs last st2 at2 F' ((((((((W2.setCell ⟨r + 1 + 1, 0, none⟩ z0).setCell ⟨r + 1 + 1, 1, none⟩ z1).setCell ⟨r + 1 + 1, 2, none⟩ z2).setCell ⟨r + 1 + 1, 3, none⟩ z3).setCell ⟨r + 1, 0, none⟩ y0).setCell ⟨r + 1, 1, none⟩ y1).setCell ⟨r + 1, 2, none⟩ y2).setCell ⟨r + 1, 3, none⟩ y3) := by
 obtain ⟨gs2, osl2, hs⟩ := N.stk
 have hGl : ∀ b, G b → b < w.heap.size := fun b hb => (h.gb b hb).2
 have hFl : ∀ b, F b → b < w.heap.size := fun b hb => h.Flt hb
 have h1 := hb.size
 have h2 := N.sg.1
 refine ⟨⟨gs2, osl2, ((hs.set4 (r := r + 1 + 1) (.inr (.inr (.inr rfl))) _ _ _ _).set4 (.inr (.inr (.inl rfl))) _ _ _ _).give fun b hb => .inl hb⟩, ⟨by rw [zaO, zaO]; omega, fun b hb1 hG => ?_⟩, ⟨by rw [zaO, zaO]; omega, fun b hb1 hf => ?_⟩, N.ff⟩
 · rw [zaB (by have := hGl b hG; omega), zaB (by have := hGl b hG; omega), N.sg.2 b (by omega) (.inl hG), hb.block b hb1]
 · rw [zaB (by have := hFl b hf; omega), zaB (by have := hFl b hf; omega), N.sf.2 b (by omega) hf, hb.block b hb1]
theorem IsV.fin34 {W2 : World} {r : Nat} {st2 : List Lv} {at2 : Int} {v : PV} {sl : Value} (h : IsV W2 F' v sl) (N : Stk w0 W2 F' (G3 G r) p a cap bs last st2 at2) (y0 y1 y2 y3 z0 z1 z2 z3 : Value) :
   IsV ((((((((W2.setCell ⟨r + 1 + 1, 0, none⟩ z0).setCell ⟨r + 1 + 1, 1, none⟩ z1).setCell ⟨r + 1 + 1, 2, none⟩ z2).setCell ⟨r + 1 + 1, 3, none⟩ z3).setCell ⟨r + 1, 0, none⟩ y0).setCell ⟨r + 1, 1, none⟩ y1).setCell ⟨r + 1, 2, none⟩ y2).setCell ⟨r + 1, 3, none⟩ y3) F' v sl := by
 obtain ⟨gs2, osl2, hs⟩ := N
 refine IsV.keep ⟨by rw [zaO, zaO]; exact Nat.le_refl _, fun b _ hf => ?_⟩ (fun _ h => h) v h
 have hn := (hs.fb b hf).2.1
 rw [zaB (fun e => hn (.inr (.inr (.inl e)))), zaB (fun e => hn (.inr (.inr (.inr e))))]
theorem single_leaf (bs : List UInt8) (last : Bool) (st : List Lv) (at_ : Int) (x : Tk) : (zar bs last st at_ x).1.l = [] := by
 unfold zar
 split
 · rfl
 · split
   · split
     · rfl
     · rename_i v hv
       unfold zdK at hv
       split at hv
       · cases hv; rfl
       · split at hv
         · cases hv; rfl
         · split at hv
           · cases hv; rfl
           · cases hv
   · split
     · unfold refV
       simp only
       split
       · rfl
       · split
         · rfl
         · split
           · rfl
           · rfl
     · rfl
theorem zao {P : Program} {fn : Func} {p u z : Tmp} {ty : TypeId} (h : fn.results = #[.cell p ty, .tmp u, .tmp z]) (tmps : Array Value) (w : World) (g : Nat) (t : TypeId) (cs : Array Value) (fr : Nat × Nat) (d : TypeDesc)
   (hp : tmps.getD p undef = .pointer (some ⟨g, 0, none⟩)) (hg : w.heap[g]? = some (.cells cs t fr))
   (hu : P.underlying ty = some d) (hd : (match d with | .struct _ | .array _ _ => true | _ => false) = true) (hi : (P.info? ty).map (·.size) = some cs.size) (v v2 : Value) (hv : tmps.getD u undef = v) (hv2 : tmps.getD z undef = v2) :
   (results fn tmps).run P w = .ok (.tuple #[.agg cs, v, v2]) w := by
 simp only [Array.getD_eq_getD_getElem?] at hp hv hv2
 simp [results, h, hp, hv, hv2, asAddr, Result.andThen, run_loadVar_row w g t ty cs fr d hg hu hd hi]
def S5 (w : World) (r : Nat) (kd : Int) : Prop := w.cell? ⟨r, 0, none⟩ = some (.int .i64 kd) ∧ w.cell? ⟨r + 2, 0, none⟩ = some (.int .i64 0) ∧ w.cell? ⟨r + 2, 1, none⟩ = some (.int .i64 0) ∧ w.cell? ⟨r + 2, 2, none⟩ = some (.string ⟨#[]⟩) ∧ w.cell? ⟨r + 2, 3, none⟩ = some (.slice none 0 0)
theorem S5.drew {w : World} {r : Nat} {kd : Int} (h : S5 w r kd) : S5 w.drew r kd := h
theorem S5.stays {w w' : World} {r : Nat} {kd : Int} (h : S5 w r kd) (hs : zax (G3 G r) w w') : S5 w' r kd := by
 exact ⟨zbX hs h.1 (.inr (.inl rfl)), zbX hs h.2.1 (.inr (.inr (.inr rfl))), zbX hs h.2.2.1 (.inr (.inr (.inr rfl))), zbX hs h.2.2.2.1 (.inr (.inr (.inr rfl))), zbX hs h.2.2.2.2 (.inr (.inr (.inr rfl)))⟩
theorem S5.set4 {w : World} {r : Nat} {kd : Int} (h : S5 w r kd) (y0 y1 y2 y3 : Value) : S5 ((((w.setCell ⟨r + 1, 0, none⟩ y0).setCell ⟨r + 1, 1, none⟩ y1).setCell ⟨r + 1, 2, none⟩ y2).setCell ⟨r + 1, 3, none⟩ y3) r kd := by
 have g : ∀ b o v, b ≠ r + 1 → w.cell? ⟨b, o, none⟩ = some v → ((((w.setCell ⟨r + 1, 0, none⟩ y0).setCell ⟨r + 1, 1, none⟩ y1).setCell ⟨r + 1, 2, none⟩ y2).setCell ⟨r + 1, 3, none⟩ y3).cell? ⟨b, o, none⟩ = some v := fun b o v hb hc => by
   rw [World.cell?_of_block (w := w) (a := ⟨b, o, none⟩) (zaB hb _ _ _ _)]; exact hc
 exact ⟨g _ _ _ (by omega) h.1, g _ _ _ (by omega) h.2.1, g _ _ _ (by omega) h.2.2.1, g _ _ _ (by omega) h.2.2.2.1, g _ _ _ (by omega) h.2.2.2.2⟩
theorem step_any (h : zap w0 w F G p a cap bs last st at_ gs osl) (x : Tk) (f t : Int) (hlen : ∀ v ∈ st, v.l.length ≤ 400000) :
   Calls Tryz.prog 82 #[.pointer (some ⟨p, 0, none⟩), .agg (tokN x f t)] w (PStep w0 w F G p a cap bs last (zaA bs last st at_ x)) := by
 obtain ⟨R, hR⟩ : ∃ R, R = zaA bs last st at_ x := ⟨_, rfl⟩
 rw [← hR]
 have HS := Lib.hid h
 obtain ⟨r, hr⟩ : ∃ r, r = w.heap.size := ⟨_, rfl⟩
 have HRR := Lib.hid hr
 have HB1 := Lib.hid (belowA3 w (.cells (tokN x f t) 150) (.cells #[.int .i64 0, .int .i64 0, .string ⟨#[]⟩, .slice none 0 0] 27) (.cells #[.int .i64 0, .int .i64 0, .string ⟨#[]⟩, .slice none 0 0] 27))
 have h1 := h.res (G' := G3 G r) HB1.out (fun b hb => by
   rw [zam, zam, zam]
   rcases hb with hb | hb | hb | hb
   · exact .inl hb
   · exact .inr (by omega)
   · exact .inr (by omega)
   · exact .inr (by omega))
 have k0 := zak (.cells #[.int .i64 0, .int .i64 0, .string ⟨#[]⟩, .slice none 0 0] 27) (zak (.cells #[.int .i64 0, .int .i64 0, .string ⟨#[]⟩, .slice none 0 0] 27) (zac (w := w) (b := r) (.cells (tokN x f t) 150) hr))
 have k1 := zak (.cells #[.int .i64 0, .int .i64 0, .string ⟨#[]⟩, .slice none 0 0] 27) (zac (w := w.alloc (.cells (tokN x f t) 150)) (b := r + 1) (.cells #[.int .i64 0, .int .i64 0, .string ⟨#[]⟩, .slice none 0 0] 27) (by rw [zam, hr]))
 have k2 := zac (w := (w.alloc (.cells (tokN x f t) 150)).alloc (.cells #[.int .i64 0, .int .i64 0, .string ⟨#[]⟩, .slice none 0 0] 27)) (b := r + 2) (.cells #[.int .i64 0, .int .i64 0, .string ⟨#[]⟩, .slice none 0 0] 27) (by rw [zam, zam, hr])
 have HSG := Lib.hid (fun (W : World) (h : zap w0 W F (G3 G r) p a cap bs last st at_ gs osl) => single_any h x f t)
 have hkind : ∃ q0 q1 q2 q3 q4 q5 q6 q7, tokN x f t = #[q0, q1, q2, q3, q4, q5, q6, q7] ∧ q0 = .int .i64 x.kind := ⟨_, _, _, _, _, _, _, _, rfl, rfl⟩
 obtain ⟨q0, q1, q2, q3, q4, q5, q6, q7, htk, rfl⟩ := hkind
 rw [htk] at HB1 h1 k0 k1 k2 HSG ⊢
 have HH1 := Lib.hid h1
 have K0 := Lib.hid k0
 have K1 := Lib.hid k1
 have K2 := Lib.hid k2
 unfold zaA at hR
 have HR := Lib.hid hR
 have HLEN := Lib.hid hlen
 have hpw := h.lt
 have hpr : p ≠ r := by omega
 have hpr1 : p ≠ r + 1 := by omega
 have hpr2 : p ≠ r + 2 := by omega
 have hw0 : w.heap.size ≤ r := by omega
 have HW0 := Lib.hid hw0
 clear h1 k0 k1 k2 h hlen htk hR hpw hw0
 go_enter Tryz.func82, Tryz.ntmps82
 go_upto_region 3 with fail
 rw [← hr]
 generalize ((w.alloc _).alloc _).alloc _ = W1 at *
 generalize x.kind = kd at *
 clear hr
 by_cases hk0 : kd = 0
 · subst hk0
   have hR2 := Lib.hid (HR.out.trans (if_pos rfl))
   obtain ⟨⟨c0, -⟩, -⟩ := zan K0.out
   obtain ⟨⟨a0, a1, a2, a3⟩, b0, b1, b2, b3⟩ := zal K1.out
   obtain ⟨⟨d0, d1, d2, d3⟩, e0, e1, e2, e3⟩ := zal K2.out
   go_wp2
   refine bodyPost_ret (zao rfl _ _ (r + 1) 27 _ (0, 0) _ rfl (by exact set4 K1.out _ _ _ _) Tryz.underlying27 rfl (by exact zaC) _ _ rfl rfl) rfl ?_
   rw [hR2.out]
   exact ⟨F, none, 0, 0, PV.none, rfl, fun X hX => (by cases hX), Nxt.fin3 HS.out HB1.out (Nxt.refl HH1.out (Below.refl _ _)) HW0.out rfl _ _ _ _⟩
 have hR1 := HR.out.trans (if_neg hk0)
 have e0 : (kd == 0) = false := by rw [beq_eq_false_iff_ne]; exact hk0
 by_cases hk2 : kd = 2 ∨ kd = 4
 · have hR2 := hR1.trans (if_pos hk2)
   obtain ⟨dd, hdd⟩ : ∃ dd, dd = (kd == 4) := ⟨_, rfl⟩
   rw [← hdd] at hR2
   have HR2 := Lib.hid hR2
   have HBG := Lib.hid (begin_any (show zap w0 W1.drew F (G3 G r) p a cap bs last st at_ gs osl from HH1.out.drewN 1) dd)
   have HK0 := Lib.hid (show W1.drew.heap[r + 1]? = _ from K1.out)
   clear hR1 hR2 HSG HR
   obtain ⟨⟨c0, -⟩, -⟩ := zan K0.out
   obtain ⟨⟨d0, d1, d2, d3⟩, -⟩ := zal K2.out
   have HC0 : Hid (S5 W1 r kd) := Lib.hid ⟨c0, d0, d1, d2, d3⟩
   have hgo : ∀ wN, Nxt w0 W1.drew F (G3 G r) p a cap bs last (zbv st dd).1 at_ F wN → ∀ W, W = ((((wN.setCell ⟨r + 1, 0, none⟩ (.int .i64 0)).setCell ⟨r + 1, 1, none⟩ (.int .i64 0)).setCell ⟨r + 1, 2, none⟩ (.string ⟨#[]⟩)).setCell ⟨r + 1, 3, none⟩ (.slice none 0 0)) →
       PStep w0 w F G p a cap bs last R (.returned (.tuple #[.agg #[.int .i64 0, .int .i64 0, .string ⟨#[]⟩, .slice none 0 0], .bool false, .int .i64 (zbv st dd).2])) W := fun wN N W hW => by
     rw [HR2.out, hW]
     exact ⟨F, none, 0, 0, PV.none, rfl, fun X hX => (by cases hX), Nxt.fin3 HS.out HB1.out.drew N HW0.out rfl _ _ _ _⟩
   have HGO := Lib.hid hgo
   have hrr : r + 1 ≠ r := by omega
   clear hgo
   have e4 : (kd == 4) = dd := hdd.symm
   have hcase : (kd == 2) = true ∨ ((kd == 2) = false ∧ dd = true) := by
     rcases hk2 with rfl | rfl
     · exact .inl rfl
     · exact .inr ⟨rfl, hdd⟩
   clear hdd hk2 hk0
   rcases hcase with e2 | ⟨e2, rfl⟩
   all_goals
     go_wp2
     go_region_held3 (fun w' => w'.cell? ⟨r, 0, none⟩ = some (.int .i64 kd) ∧ w'.cell? ⟨r + 2, 0, none⟩ = some (.int .i64 0) ∧ w'.cell? ⟨r + 2, 1, none⟩ = some (.int .i64 0) ∧ w'.cell? ⟨r + 2, 2, none⟩ = some (.string ⟨#[]⟩) ∧ w'.cell? ⟨r + 2, 3, none⟩ = some (.slice none 0 0))
       ((show S5 _ r kd; (first
         | (with_reducible exact HC0.out.drew)
         | (with_reducible exact HC0.out)
         | (with_reducible exact Hid.out (by assumption))
         | (with_reducible exact S5.set4 (Hid.out (by assumption)) _ _ _ _))))
       ((go_at_call 118; (with_reducible refine HBG.out.mono ?_); rintro e wN ⟨rfl, hN⟩; have HSN := Lib.hid (HC0.out.drew.stays hN.sg); have HN := Lib.hid hN; have HK1 := Lib.hid (zbu hN.sg HK0.out (.inr (.inr (.inl rfl)))); obtain ⟨⟨a0, a1, a2, a3⟩, b0, b1, b2, b3⟩ := zal HK1.out))
     all_goals
       go_wp2
       refine bodyPost_ret (zao rfl _ _ (r + 1) 27 _ (0, 0) _ rfl (by exact set4 HK1.out _ _ _ _) Tryz.underlying27 rfl (by exact zaC) _ _ rfl rfl) rfl ?_
       exact HGO.out _ HN.out _ rfl
 have e2 : (kd == 2) = false := by rw [beq_eq_false_iff_ne]; intro e; exact hk2 (.inl e)
 have e4 : (kd == 4) = false := by rw [beq_eq_false_iff_ne]; intro e; exact hk2 (.inr e)
 have hR2 := hR1.trans (if_neg hk2)
 obtain ⟨⟨c0, c1, c2, c3, c4, c5, c6, c7⟩, -⟩ := zan K0.out
 have hr12 : r + 1 ≠ r + 2 := by omega
 have hr21 : r + 2 ≠ r + 1 := by omega
 have HFL := Lib.hid (fun b (hb : F b) => (show b < W1.heap.size ∧ b ≠ r + 2 by
   have h1 := HS.out.Flt hb
   have h2 := HB1.out.size
   have h3 := HW0.out
   omega))
 by_cases hk3 : kd = 3 ∨ kd = 5
 · have hR3 := hR2.trans (if_pos hk3)
   obtain ⟨dd, hdd⟩ : ∃ dd, dd = (kd == 5) := ⟨_, rfl⟩
   rw [← hdd] at hR3
   have HR3 := Lib.hid hR3
   have HEN := Lib.hid (end_any HH1.out dd HLEN.out)
   have e5 : (kd == 5) = dd := hdd.symm
   have hcase : (kd == 3) = true ∨ ((kd == 3) = false ∧ dd = true) := by
     rcases hk3 with rfl | rfl
     · exact .inl rfl
     · exact .inr ⟨rfl, hdd⟩
   clear hR1 hR2 hR3 HSG HR hk0 hk2 hk3 hdd c1 c2 c3 c4 c5 c6 c7
   rcases hcase with e3 | ⟨e3, rfl⟩
   all_goals
     go_wp2_with fail
     refine HEN.out.mono ?_
     rintro e wN ⟨F', sl, rfl, hV, hN⟩
     obtain ⟨sa, sc, rfl, -, -, -⟩ := hV.len
     have HN := Lib.hid hN
     have HV := Lib.hid hV
     have HK1 := Lib.hid (zbu hN.sg K1.out (.inr (.inr (.inl rfl))))
     have HK2 := Lib.hid (zbu hN.sg K2.out (.inr (.inr (.inr rfl))))
     obtain ⟨⟨a0, a1, a2, a3⟩, b0, b1, b2, b3⟩ := zal HK1.out
     obtain ⟨⟨d0, d1, d2, d3⟩, g0, g1, g2, g3⟩ := zal HK2.out
     clear hN hV c0
     generalize zbe st _ = Q at *
     obtain ⟨V, st2, er⟩ := Q
     simp only at HR3 HV HN a0
     unfold pvA
     by_cases he : er = 0
     · subst he
       have HR4 := Lib.hid (HR3.out.trans (if_pos rfl))
       go_wp2
       refine bodyPost_ret (zao rfl _ _ (r + 1) 27 _ (0, 0) _ rfl (by exact set4 ((zaB hr12 _ _ _ _).trans HK1.out) _ _ _ _) Tryz.underlying27 rfl (by exact zaC) _ _ rfl rfl) rfl ?_
       rw [HR4.out]
       exact ⟨F', _, _, _, V, rfl, fun X hX => ⟨Option.some.inj hX, IsV.fin34 HV.out HN.out.stk _ _ _ _ _ _ _ _⟩, Nxt.fin34 HS.out HB1.out HN.out HW0.out _ _ _ _ _ _ _ _⟩
     · have f1 : (er == 0) = false := by rw [beq_eq_false_iff_ne]; exact he
       have HR4 := Lib.hid (HR3.out.trans (if_neg he))
       clear he
       go_wp2
       refine bodyPost_ret (zao rfl _ _ (r + 1) 27 _ (0, 0) _ rfl (by exact set4 ((zaB hr12 _ _ _ _).trans HK1.out) _ _ _ _) Tryz.underlying27 rfl (by exact zaC) _ _ rfl rfl) rfl ?_
       rw [HR4.out]
       exact ⟨F', _, _, _, V, rfl, fun X hX => (by cases hX), Nxt.fin34 HS.out HB1.out HN.out HW0.out _ _ _ _ _ _ _ _⟩
 have hR3 := hR2.trans (if_neg hk3)
 have e3 : (kd == 3) = false := by rw [beq_eq_false_iff_ne]; intro e; exact hk3 (.inl e)
 have e5 : (kd == 5) = false := by rw [beq_eq_false_iff_ne]; intro e; exact hk3 (.inr e)
 have HR3 := Lib.hid hR3
 have HSX := Lib.hid (HSG.out _ HH1.out)
 have HLF := Lib.hid (single_leaf bs last st at_ x)
 clear hR1 hR2 hR3 HSG HR hk0 hk2 hk3
 go_wp2_with fail
 refine HSX.out.mono ?_
 rintro e wN ⟨he, hs, hkp⟩
 have hN : Nxt w0 W1 F (G3 G r) p a cap bs last st (zar bs last st at_ x).2.1 F wN := ⟨⟨_, _, hs⟩, ⟨hkp.size, fun b hb hG => hkp.block b hb (fun e => HH1.out.gp (e ▸ hG))⟩, ⟨hkp.size, fun b hb hf => hkp.block b hb (HH1.out.notF hf)⟩, fun _ h => h⟩
 have HN := Lib.hid hN
 have HK1 := Lib.hid (zbu hN.sg K1.out (.inr (.inr (.inl rfl))))
 have HK2 := Lib.hid (zbu hN.sg K2.out (.inr (.inr (.inr rfl))))
 obtain ⟨⟨a0, a1, a2, a3⟩, b0, b1, b2, b3⟩ := zal HK1.out
 obtain ⟨⟨d0, d1, d2, d3⟩, g0, g1, g2, g3⟩ := zal HK2.out
 obtain ⟨ao, oc, rfl, ho1, ho2⟩ := zau hs.own
 obtain ⟨⟨p0, p1, p2, p3⟩, -⟩ := hs.cells
 clear hN hs hkp c0 c1 c2 c3 c4 c5 c6 c7 HSX
 generalize zar bs last st at_ x = Q at *
 obtain ⟨V, at2, er⟩ := Q
 simp only at HR3 HN HLF he p1
 unfold pvA at he
 subst he
 by_cases he : er = 0
 case neg =>
   have f1 : (er == 0) = false := by rw [beq_eq_false_iff_ne]; exact he
   have HR4 := Lib.hid (HR3.out.trans (if_pos he))
   clear he
   go_wp2
   refine bodyPost_ret (zao rfl _ _ (r + 1) 27 _ (0, 0) _ rfl (by exact set4 ((zaB hr12 _ _ _ _).trans HK1.out) _ _ _ _) Tryz.underlying27 rfl (by exact zaC) _ _ rfl rfl) rfl ?_
   rw [HR4.out]
   exact ⟨F, _, _, _, V, rfl, fun X hX => (by cases hX), Nxt.fin34 HS.out HB1.out HN.out HW0.out _ _ _ _ _ _ _ _⟩
 subst he
 by_cases h64 : 64 ≤ st.length
 · have hd : decide (64 ≤ st.length) = true := decide_eq_true h64
   have hd2 : decide ((64 : Int) ≤ (st.length : Int)) = true := decide_eq_true (by omega)
   have HR4 := Lib.hid ((HR3.out.trans (if_neg (by simp))).trans (if_pos h64))
   clear h64
   go_wp2
   refine bodyPost_ret (zao rfl _ _ (r + 1) 27 _ (0, 0) _ rfl (by exact set4 ((zaB hr12 _ _ _ _).trans HK1.out) _ _ _ _) Tryz.underlying27 rfl (by exact zaC) _ _ rfl rfl) rfl ?_
   rw [HR4.out]
   exact ⟨F, _, _, _, V, rfl, fun X hX => (by cases hX), Nxt.fin34 HS.out HB1.out HN.out HW0.out _ _ _ _ _ _ _ _⟩
 · have hd : decide (64 ≤ st.length) = false := decide_eq_false h64
   have hd2 : decide ((64 : Int) ≤ (st.length : Int)) = false := decide_eq_false (by omega)
   have HR4 := Lib.hid ((HR3.out.trans (if_neg (by simp))).trans (if_neg h64))
   clear h64
   go_wp2
   refine bodyPost_ret (zao rfl _ _ (r + 1) 27 _ (0, 0) _ rfl (by exact set4 ((zaB hr12 _ _ _ _).trans HK1.out) _ _ _ _) Tryz.underlying27 rfl (by exact zaC) _ _ rfl rfl) rfl ?_
   rw [HR4.out]
   exact ⟨F, _, _, _, V, rfl, fun X hX => ⟨Option.some.inj hX, IsV.fin34 (IsV.leaf _ _ _ HLF.out) HN.out.stk _ _ _ _ _ _ _ _⟩, Nxt.fin34 HS.out HB1.out HN.out HW0.out _ _ _ _ _ _ _ _⟩
end
def DocEnd (w : World) (R : PV × Int × Int) (e : Ending) (w' : World) : Prop :=
 ∃ sl, e = .returned (.tuple #[pvA R.1 sl, .int .i64 R.2.1, .int .i64 R.2.2]) ∧ IsV w' (fun b => w.heap.size ≤ b) R.1 sl ∧ Below w.heap.size w w'
structure DvM (w W : World) (B : Nat) (tc : Array Value) : Prop where
 b0 : W.heap[B]? = some (.cells tc 111 (0, 0))
 b1 : W.heap[B + 1]? = some (.cells #[.int .i64 0, .int .i64 0, .string ⟨#[]⟩, .slice none 0 0] 27 (0, 0))
 b2 : W.heap[B + 1 + 1]? = some (.cells #[.int .i64 0, .int .i64 0, .string ⟨#[]⟩, .slice none 0 0] 27 (0, 0))
 bel : Below w.heap.size w W
 hB : B = w.heap.size
theorem DvM.keep {w W W' : World} {B : Nat} {tc : Array Value} (h : DvM w W B tc) (hb : Below W.heap.size W W') : DvM w W' B tc :=
 ⟨zab hb h.b0, zab hb h.b1, zab hb h.b2, h.bel.trans (hb.mono h.bel.size), h.hB⟩
theorem DvM.fin {w W : World} {B : Nat} {tc : Array Value} (h : DvM w W B tc) (y0 y1 y2 y3 : Value) :
   Below w.heap.size w ((((W.setCell ⟨B + 1, 0, none⟩ y0).setCell ⟨B + 1, 1, none⟩ y1).setCell ⟨B + 1, 2, none⟩ y2).setCell ⟨B + 1, 3, none⟩ y3) := zai h.bel (by have := h.hB; omega) _ _ _ _
theorem DvM.start (w : World) (x : Array Value) {B : Nat} (hB : B = w.heap.size) : DvM w (((w.alloc (.cells x 111)).alloc (.cells #[.int .i64 0, .int .i64 0, .string ⟨#[]⟩, .slice none 0 0] 27)).alloc (.cells #[.int .i64 0, .int .i64 0, .string ⟨#[]⟩, .slice none 0 0] 27)) B x :=
 ⟨zak _ (zak _ (zac _ hB)), zak _ (zac _ (by rw [zam, hB])), zac _ (by rw [zam, zam, hB]), belowA3 _ _ _ _, hB⟩
def dctV (ps : List (PV × PV)) : PV := .mk 7 0 [] (zbM ps)
structure PutM (w W : World) (B : Nat) (dc xc : Array Value) : Prop where
 b0 : W.heap[B]? = some (.cells dc 27 (0, 0))
 b1 : W.heap[B + 1]? = some (.cells xc 27 (0, 0))
 b2 : W.heap[B + 1 + 1]? = some (.cells #[.int .i64 0, .int .i64 0, .string ⟨#[]⟩, .slice none 0 0] 27 (0, 0))
 bel : Below w.heap.size w W
 hB : B = w.heap.size
theorem PutM.keep {w W W' : World} {B : Nat} {dc xc : Array Value} (h : PutM w W B dc xc) (hb : Below W.heap.size W W') : PutM w W' B dc xc :=
 ⟨zab hb h.b0, zab hb h.b1, zab hb h.b2, h.bel.trans (hb.mono h.bel.size), h.hB⟩
def PairAt (w : World) (b o K : Nat) (yk yn : Int) (ys : ByteArray) (yv : Value) (zk zn : Int) (zs : ByteArray) (zv : Value) : Prop :=
 (w.cell? ⟨b, o + K * 4, none⟩ = some (.int .i64 yk) ∧ w.cell? ⟨b, o + K * 4 + 1, none⟩ = some (.int .i64 yn) ∧ w.cell? ⟨b, o + K * 4 + 2, none⟩ = some (.string ys) ∧ w.cell? ⟨b, o + K * 4 + 3, none⟩ = some yv) ∧
 (w.cell? ⟨b, o + (K + 1) * 4, none⟩ = some (.int .i64 zk) ∧ w.cell? ⟨b, o + (K + 1) * 4 + 1, none⟩ = some (.int .i64 zn) ∧ w.cell? ⟨b, o + (K + 1) * 4 + 2, none⟩ = some (.string zs) ∧ w.cell? ⟨b, o + (K + 1) * 4 + 3, none⟩ = some zv)
theorem PairAt.keep {w W : World} {b o K : Nat} {yk yn : Int} {ys : ByteArray} {yv : Value} {zk zn : Int} {zs : ByteArray} {zv : Value} (h : PairAt w b o K yk yn ys yv zk zn zs zv) (hb : Below w.heap.size w W) : PairAt W b o K yk yn ys yv zk zn zs zv :=
 let ⟨⟨a1, a2, a3, a4⟩, c1, c2, c3, c4⟩ := h
 ⟨⟨cell?_keep hb a1, cell?_keep hb a2, cell?_keep hb a3, cell?_keep hb a4⟩, cell?_keep hb c1, cell?_keep hb c2, cell?_keep hb c3, cell?_keep hb c4⟩
mutual
theorem IsV.lt {w : World} {F : Nat → Prop} : ∀ (v : PV) {sl : Value}, IsV w F v sl → IsV w (fun b => F b ∧ b < w.heap.size) v sl
 | .mk _ _ _ l, _, ⟨a, cap, cs, h, hr, hF, hs⟩ => ⟨a, cap, cs, h, hr, fun h0 x hx => ⟨hF h0 x hx, by
     obtain ⟨b, off, ha, hb, _⟩ := hr.2.2.2.2 h0
     rw [ha] at hx
     cases hx
     exact hb⟩, IsVs.lt l hs⟩
theorem IsVs.lt {w : World} {F : Nat → Prop} : ∀ (l : List PV) {cs : List Value}, IsVs w F l cs → IsVs w (fun b => F b ∧ b < w.heap.size) l cs
 | [], _, h => h
 | v :: l, _, ⟨sl, t, h, hv, ht⟩ => ⟨sl, t, h, IsV.lt v hv, IsVs.lt l ht⟩
end
def ArrM (Q : Nat) (w : World) (v : Value) (n : Nat) (l : List PV) : Prop := ∃ cs, w.ownsRow Q 27 4 v n cs ∧ IsVs w (fun b => Q ≤ b ∧ b < w.heap.size ∧ v.ownBlock ≠ some b) l cs
theorem ArrM.keep {Q : Nat} {w W : World} {v : Value} {n : Nat} {l : List PV} (h : ArrM Q w v n l) (hb : Below w.heap.size w W) : ArrM Q W v n l :=
 let ⟨cs, h1, h2⟩ := h
 ⟨cs, zaF h1 hb, IsVs.keep (zax.of_below hb) (fun _ h => ⟨h.1, Nat.lt_of_lt_of_le h.2.1 hb.size, h.2.2⟩) _ h2⟩
theorem ArrM.push {Q : Nat} {w w' : World} {v v' : Value} {n : Nat} {l : List PV} {cs : List Value} (h2 : IsVs w (fun b => Q ≤ b ∧ b < w.heap.size ∧ v.ownBlock ≠ some b) l cs) {x : PV} {sx : Value} (hx : IsV w (fun b => Q ≤ b ∧ b < w.heap.size ∧ v.ownBlock ≠ some b) x sx) {o : Obj}
   (hO : w'.ownsRow Q 27 4 v' (n + 1) (cs ++ pvC x sx)) (hg : (w.alloc o).grownBy w' v.ownBlock) (hn : NewAt (w.alloc o) v v') : ArrM Q w' v' (n + 1) (l ++ [x]) := by
 have hs : w.heap.size ≤ w'.heap.size := Nat.le_trans (by rw [zam]; omega) hg.size
 refine ⟨_, hO, IsVs.keep (F := fun b => Q ≤ b ∧ b < w.heap.size ∧ v.ownBlock ≠ some b) ⟨hs, fun b hb hF => ?_⟩ (fun b hF => ⟨hF.1, Nat.lt_of_lt_of_le hF.2.1 hs, fun e => ?_⟩) _ (h2.snoc hx)⟩
 · rw [hg.block b (by rw [zam]; omega) (fun e => hF.2.2 e.symm)]
   exact (zah w o).block b hb
 · rcases hn b e with e | e
   · exact hF.2.2 e
   · rw [zam] at e; omega
theorem rep_mem {x : PV × PV} : ∀ (l : List (PV × PV)) (y : PV × PV), y ∈ repK x l → ∃ z ∈ l, z.1 = y.1
 | [], y, h => by cases h
 | z :: l, y, h => by
   unfold repK at h
   split at h
   · rcases List.mem_cons.1 h with rfl | h
     · exact ⟨z, List.mem_cons_self, rfl⟩
     · exact ⟨y, List.mem_cons_of_mem _ h, rfl⟩
   · rcases List.mem_cons.1 h with rfl | h
     · exact ⟨y, List.mem_cons_self, rfl⟩
     · obtain ⟨u, hu, e⟩ := rep_mem l y h
       exact ⟨u, List.mem_cons_of_mem _ hu, e⟩
theorem put_kind {x : PV × PV} {l : List (PV × PV)} (hx : x.1.kind = 5) (h : ∀ y ∈ l, y.1.kind = 5) : ∀ y ∈ putK x l, y.1.kind = 5 := by
 intro y hy
 unfold putK at hy
 split at hy
 · obtain ⟨z, hz, e⟩ := rep_mem l y hy
   rw [← e]; exact h z hz
 · rcases (zfi l).1 hy with rfl | hy
   · exact hx
   · exact h y hy
structure DicM (w wr : World) (B : Nat) (sl : Value) (ps : List (PV × PV)) : Prop where
 b0 : wr.heap[B]? = some (.cells #[.int .i64 0, .int .i64 0, .string ⟨#[]⟩, .slice none 0 0] 27 (0, 0))
 b1 : wr.heap[B + 1]? = some (.cells #[.int .i64 7, .int .i64 0, .string ⟨#[]⟩, sl] 27 (0, 0))
 val : IsV wr (fun b => B + 1 < b) (dctV ps) sl
 kinds : ∀ y ∈ ps, y.1.kind = 5
 bel : Below w.heap.size w wr
 hB : w.heap.size ≤ B
theorem DicM.keep {w wr W : World} {B : Nat} {sl : Value} {ps : List (PV × PV)} (h : DicM w wr B sl ps) (hb : Below wr.heap.size wr W) : DicM w W B sl ps :=
 ⟨zab hb h.b0, zab hb h.b1, h.val.below hb, h.kinds, h.bel.trans (hb.mono h.bel.size), h.hB⟩
theorem DicM.start (w : World) {B : Nat} (hB : B = w.heap.size) : DicM w ((w.alloc (.cells #[.int .i64 0, .int .i64 0, .string ⟨#[]⟩, .slice none 0 0] 27)).alloc (.cells #[.int .i64 7, .int .i64 0, .string ⟨#[]⟩, .slice none 0 0] 27)) B (.slice none 0 0) [] :=
 ⟨zak _ (zac _ hB), zac _ (by rw [zam, hB]), IsV.leaf _ _ _ rfl, fun y hy => (by cases hy), za6 _ _ _, Nat.le_of_eq hB.symm⟩
theorem DicM.put {w wr W : World} {B : Nat} {sl s' : Value} {ps : List (PV × PV)} {x : PV × PV} (h : DicM w wr B sl ps) (hx : x.1.kind = 5) (hv : IsV W (fun b => B + 1 < b ∨ wr.heap.size ≤ b) (dctV (putK x ps)) s') (hb : Below wr.heap.size wr W) :
   DicM w ((((W.setCell ⟨B + 1, 0, none⟩ (.int .i64 7)).setCell ⟨B + 1, 1, none⟩ (.int .i64 0)).setCell ⟨B + 1, 2, none⟩ (.string ⟨#[]⟩)).setCell ⟨B + 1, 3, none⟩ s') B s' (putK x ps) := by
 have hl := zag h.b1
 have hB := h.hB
 refine ⟨(zbi (by omega) _ _ _ _).trans (zab hb h.b0), set4 (zab hb h.b1) _ _ _ _, IsV.keep ⟨by rw [zaO]; exact Nat.le_refl _, fun b _ hF => zbi ?_ _ _ _ _⟩ (fun b hF => ?_) _ hv, put_kind hx h.kinds, zai (h.bel.trans (hb.mono h.bel.size)) (by omega) _ _ _ _, h.hB⟩
 · rcases hF with hF | hF <;> omega
 · rcases hF with hF | hF
   · exact hF
   · show B + 1 < b
     omega
theorem DicM.fin {w W : World} {B : Nat} {sl : Value} {ps : List (PV × PV)} (h : DicM w W B sl ps) (y0 y1 y2 y3 : Value) :
   Below w.heap.size w ((((W.setCell ⟨B, 0, none⟩ y0).setCell ⟨B, 1, none⟩ y1).setCell ⟨B, 2, none⟩ y2).setCell ⟨B, 3, none⟩ y3) := zai h.bel h.hB _ _ _ _
structure VAt (w W : World) (F : Nat → Prop) (r p : Nat) (a : Option Addr) (cap : Nat) (bs : List UInt8) (last : Bool) (V : PV × Int × Int) (n : Nat) (st : List Lv) (at_ : Int) : Prop where
 stk : Stk w W F (fun b => b = r) p a cap bs last st at_
 res : W.heap[r]? = some (.cells #[.int .i64 0, .int .i64 0, .string ⟨#[]⟩, .slice none 0 0] 27 (0, 0))
 fuel : valO bs last n st at_ = some V
 len : ∀ v ∈ st, (v.l.length : Int) ≤ at_
 rng : st = [] ∨ (0 ≤ at_ ∧ at_ ≤ bs.length)
def ValI (w : World) (r p : Nat) (a : Option Addr) (cap : Nat) (bs : List UInt8) (last : Bool) (at0 : Int) (V : PV × Int × Int) (n : Nat) (act : Act) (W : World) : Prop :=
 ∃ (F : Nat → Prop) (st : List Lv) (at_ : Int) (u10 u11 u12 u13 u14 u15 u16 u17 u18 u19 u20 u21 u22 u23 u24 u25 u26 u27 u28 u29 u30 u31 u32 u33 u34 u35 u36 u37 u38 u39 u40 u41 u42 u43 u44 u45 u46 u47 u48 u49 u50 u51 u52 u53 u54 u55 u56 u57 u58 u59 u60 u61 : Value), Hid (VAt w W F r p a cap bs last V n st at_) ∧
   act = { tmps := #[.slice a bs.length cap, .int .i64 at0, .bool last, undef, undef, undef, .pointer (some ⟨r, 0, none⟩), .int .i64 0, .int .i64 0, .pointer (some ⟨p, 0, none⟩), u10, u11, u12, u13, u14, u15, u16, u17, u18, u19, u20, u21, u22, u23, u24, u25, u26, u27, u28, u29, u30, u31, u32, u33, u34, u35, u36, u37, u38, u39, u40, u41, u42, u43, u44, u45, u46, u47, u48, u49, u50, u51, u52, u53, u54, u55, u56, u57, u58, u59, u60, u61], defers := [] }
def ValEnd (w : World) (V : PV × Int × Int) (e : Ending) (w' : World) : Prop :=
 ∃ sl, e = .returned (.tuple #[pvA V.1 sl, .int .i64 V.2.1, .int .i64 V.2.2]) ∧ IsV w' (fun b => w.heap.size ≤ b) V.1 sl ∧ Below w.heap.size w w'
theorem VAt.small {w W : World} {F : Nat → Prop} {r p : Nat} {a : Option Addr} {cap : Nat} {bs : List UInt8} {last : Bool} {V : PV × Int × Int} {n : Nat} {st : List Lv} {at_ : Int} (h : VAt w W F r p a cap bs last V n st at_) : ∀ v ∈ st, v.l.length ≤ 400000 := by
 intro v hv
 obtain ⟨gs, osl, hs⟩ := h.stk
 have := h.len v hv
 have hsm := hs.small
 rcases h.rng with h0 | h0
 · subst h0; cases hv
 · omega
theorem stepV_len {bs : List UInt8} {last : Bool} {st : List Lv} {k : Int} {t : Tk} {N : Int} (hN : 0 ≤ N) (h : ∀ v ∈ st, (v.l.length : Int) ≤ N) : ∀ v ∈ (zaA bs last st k t).2.1, (v.l.length : Int) ≤ N := by
 unfold zaA
 split
 · exact h
 · split
   · show ∀ v ∈ (zbv st _).1, _
     unfold zbv
     split
     · exact h
     · split
       · exact h
       · intro v hv
         rcases List.mem_cons.1 hv with rfl | hv
         · exact hN
         · exact h v hv
   · split
     · have he : ∀ d, ∀ v ∈ (zbe st d).2.1, (v.l.length : Int) ≤ N := by
         intro d
         unfold zbe
         split
         · exact h
         · rename_i v rest
           have hr : ∀ u ∈ rest, (u.l.length : Int) ≤ N := fun u hu => h u (List.mem_cons_of_mem _ hu)
           split
           · exact h
           · split
             · exact hr
             · split
               · exact h
               · exact hr
       simp only
       split
       · exact he _
       · exact he _
     · simp only
       split
       · exact h
       · split
         · exact h
         · exact h
theorem IsV.setr {w W : World} {F : Nat → Prop} {r p : Nat} {a : Option Addr} {cap : Nat} {bs : List UInt8} {last : Bool} {st : List Lv} {at_ : Int} {gs : List Nat} {osl : Value} {v : PV} {sl : Value} (h : IsV W F v sl) (hs : zap w W F (fun b => b = r) p a cap bs last st at_ gs osl) (y0 y1 y2 y3 : Value) :
   IsV ((((W.setCell ⟨r, 0, none⟩ y0).setCell ⟨r, 1, none⟩ y1).setCell ⟨r, 2, none⟩ y2).setCell ⟨r, 3, none⟩ y3) (fun b => w.heap.size ≤ b) v sl :=
 IsV.keep ⟨by rw [zaO]; exact Nat.le_refl _, fun b _ hf => zaB (fun e => (hs.fb b hf).2.1 e) _ _ _ _⟩ (fun b hf => (hs.fb b hf).1) v h
def S5v (w : World) (v : Nat) (y0 y1 y2 y3 : Value) : Prop := w.cell? ⟨v, 0, none⟩ = some y0 ∧ w.cell? ⟨v, 1, none⟩ = some y1 ∧ w.cell? ⟨v, 2, none⟩ = some y2 ∧ w.cell? ⟨v, 3, none⟩ = some y3
theorem S5v.drew {w : World} {v : Nat} {y0 y1 y2 y3 : Value} (h : S5v w v y0 y1 y2 y3) : S5v w.drew v y0 y1 y2 y3 := h
theorem S5v.alloc {w : World} {v : Nat} {y0 y1 y2 y3 : Value} (h : S5v w v y0 y1 y2 y3) (o : Obj) : S5v (w.alloc o) v y0 y1 y2 y3 :=
 ⟨zaN o h.1, zaN o h.2.1, zaN o h.2.2.1, zaN o h.2.2.2⟩
theorem S5v.grown {w w' : World} {row : Option Nat} {v : Nat} {y0 y1 y2 y3 : Value} (h : S5v w v y0 y1 y2 y3) (hg : w.grownBy w' row) (h2 : row ≠ some v) : S5v w' v y0 y1 y2 y3 := by
 have k : ∀ b o y, row ≠ some b → w.cell? ⟨b, o, none⟩ = some y → w'.cell? ⟨b, o, none⟩ = some y := fun b o y hb hc => by
   rw [World.cell?_of_block (w := w) (a := ⟨b, o, none⟩) (hg.block b (World.block_lt_of_cell? w _ hc) (fun e => hb e.symm))]; exact hc
 exact ⟨k _ _ _ h2 h.1, k _ _ _ h2 h.2.1, k _ _ _ h2 h.2.2.1, k _ _ _ h2 h.2.2.2⟩
theorem S5v.set {w : World} {v b : Nat} {y0 y1 y2 y3 : Value} (h : S5v w v y0 y1 y2 y3) (h2 : v ≠ b) (o : Nat) (z : Value) : S5v (w.setCell ⟨b, o, none⟩ z) v y0 y1 y2 y3 := by
 have k : ∀ c o' y, c ≠ b → w.cell? ⟨c, o', none⟩ = some y → (w.setCell ⟨b, o, none⟩ z).cell? ⟨c, o', none⟩ = some y := fun c o' y hb hc => by
   rw [World.cell?_of_block (w := w) (a := ⟨c, o', none⟩) (heap_setCell_other _ _ _ _ hb)]; exact hc
 exact ⟨k _ _ _ h2 h.1, k _ _ _ h2 h.2.1, k _ _ _ h2 h.2.2.1, k _ _ _ h2 h.2.2.2⟩
theorem owns_lastC {w : World} {base g n cap : Nat} {cs : List Value} {z0 z1 z2 z3 : Value} (h : w.ownsRow base 27 4 (.slice (some ⟨g, 0, none⟩) (n + 1) cap) (n + 1) (cs ++ [z0, z1, z2, z3])) :
   (w.cell? ⟨g, n * 4, none⟩ = some z0 ∧ w.cell? ⟨g, n * 4 + 1, none⟩ = some z1 ∧ w.cell? ⟨g, n * 4 + 2, none⟩ = some z2 ∧ w.cell? ⟨g, n * 4 + 3, none⟩ = some z3) ∧ (∀ j, w.frozen? ⟨g, j, none⟩ = false) := by
 have hl : cs.length = n * 4 := by have := h.1; simp at this; omega
 rcases h.2 with ⟨e, -⟩ | ⟨g', cap', cur, e, hb, hh, hn, hm, hs, ht⟩
 · cases e
 · simp only [Value.slice.injEq, Option.some.injEq, Addr.mk.injEq] at e
   obtain ⟨⟨rfl, -⟩, -, rfl⟩ := e
   have hc : ∀ j z, (cs ++ [z0, z1, z2, z3])[j]? = some z → w.cell? ⟨g, j, none⟩ = some z := fun j z hj => by
     rw [cell_of_row w g j cur _ _ hh]
     rw [← ht, List.getElem?_take] at hj
     split at hj
     · simpa using hj
     · cases hj
   refine ⟨⟨hc _ _ ?_, hc _ _ ?_, hc _ _ ?_, hc _ _ ?_⟩, fun j => frozen_of_row w g j cur _ hh⟩
   · rw [List.getElem?_append_right (by omega)]; simp [hl]
   · rw [List.getElem?_append_right (by omega)]; simp [hl]
   · rw [List.getElem?_append_right (by omega)]; simp [hl]
   · rw [List.getElem?_append_right (by omega)]; simp [hl]
theorem owns_setLast {w : World} {base g n cap : Nat} {cs : List Value} {z0 z1 z2 z3 y0 y1 y2 y3 : Value} (h : w.ownsRow base 27 4 (.slice (some ⟨g, 0, none⟩) (n + 1) cap) (n + 1) (cs ++ [z0, z1, z2, z3])) :
   ((((w.setCell ⟨g, n * 4, none⟩ y0).setCell ⟨g, n * 4 + 1, none⟩ y1).setCell ⟨g, n * 4 + 2, none⟩ y2).setCell ⟨g, n * 4 + 3, none⟩ y3).ownsRow base 27 4 (.slice (some ⟨g, 0, none⟩) (n + 1) cap) (n + 1) (cs ++ [y0, y1, y2, y3]) := by
 have hl : cs.length = n * 4 := by have := h.1; simp at this; omega
 rcases h.2 with ⟨e, -⟩ | ⟨g', cap', cur, e, hb, hh, hn, hm, hs, ht⟩
 · cases e
 · simp only [Value.slice.injEq, Option.some.injEq, Addr.mk.injEq] at e
   obtain ⟨⟨rfl, -⟩, -, rfl⟩ := e
   have e0 := heap_setCell_same w g (n * 4) cur _ y0 hh
   have e1 := heap_setCell_same _ g (n * 4 + 1) _ _ y1 e0
   have e2 := heap_setCell_same _ g (n * 4 + 2) _ _ y2 e1
   have e3 := heap_setCell_same _ g (n * 4 + 3) _ _ y3 e2
   refine ⟨by simp [hl]; omega, .inr ⟨g, cap, _, rfl, hb, e3, hn, hm, by simpa using hs, ?_⟩⟩
   have hcur : ∀ j, j < n * 4 → cur.toList[j]? = cs[j]? := fun j hj => by
     have := congrArg (fun l => l[j]?) ht
     simp only [List.getElem?_take] at this
     rw [if_pos (by omega), List.getElem?_append_left (by omega)] at this
     exact this
   apply List.ext_getElem?
   intro j
   rw [List.getElem?_take]
   simp only [Array.toList_setIfInBounds, List.getElem?_set, List.length_set, Array.length_toList]
   by_cases hj : j < (n + 1) * 4
   · rw [if_pos hj]
     by_cases h3 : n * 4 + 3 = j
     · subst h3; rw [List.getElem?_append_right (by omega)]; simp [hl]; omega
     · by_cases h2 : n * 4 + 2 = j
       · subst h2; rw [List.getElem?_append_right (by omega)]; simp [hl]; omega
       · by_cases h1 : n * 4 + 1 = j
         · subst h1; rw [List.getElem?_append_right (by omega)]; simp [hl]; omega
         · by_cases h0 : n * 4 = j
           · subst h0; rw [List.getElem?_append_right (by omega)]; simp [hl]; omega
           · simp only [h0, h1, h2, h3, if_false]
             rw [List.getElem?_append_left (by omega)]; exact hcur j (by omega)
   · rw [if_neg hj, List.getElem?_eq_none (by simp [hl]; omega)]
theorem zbL (w : World) {g b : Nat} (h : g ≠ b) (i j : Nat) (u v : Value) : (w.setCell ⟨g, i, none⟩ u).setCell ⟨b, j, none⟩ v = (w.setCell ⟨b, j, none⟩ v).setCell ⟨g, i, none⟩ u := by
 unfold World.setCell
 simp only
 congr 1
 apply Array.ext_getElem?
 intro k
 simp only [Array.getElem?_modify]
 by_cases h1 : g = k
 · subst h1
   have h2 : ¬ b = g := fun e => h e.symm
   simp [h2]
 · by_cases h2 : b = k
   · subst h2; simp [h1]
   · simp [h1, h2]
theorem zfc (w : World) {g b : Nat} (h : g ≠ b) (i j0 j1 j2 j3 : Nat) (u v0 v1 v2 v3 : Value) :
   ((((w.setCell ⟨g, i, none⟩ u).setCell ⟨b, j0, none⟩ v0).setCell ⟨b, j1, none⟩ v1).setCell ⟨b, j2, none⟩ v2).setCell ⟨b, j3, none⟩ v3 = ((((w.setCell ⟨b, j0, none⟩ v0).setCell ⟨b, j1, none⟩ v1).setCell ⟨b, j2, none⟩ v2).setCell ⟨b, j3, none⟩ v3).setCell ⟨g, i, none⟩ u := by
 rw [zbL w h, zbL _ h, zbL _ h, zbL _ h]
theorem VAt.put {w W5 w7 : World} {F : Nat → Prop} {r v4 p : Nat} {a : Option Addr} {cap : Nat} {bs : List UInt8} {last : Bool} {V : PV × Int × Int} {n : Nat} {top : Lv} {rest : List Lv} {at2 : Int} {g : Nat} {t : List Nat} {osl : Value}
   (HG5 : zap w W5 F (fun b => b = r ∨ b = v4) p a cap bs last (top :: rest) at2 (g :: t) osl) (HR5 : W5.heap[r]? = some (.cells #[.int .i64 0, .int .i64 0, .string ⟨#[]⟩, .slice none 0 0] 27 (0, 0)))
   {ta : Option Addr} {tn tc : Nat} (HGL : W5.heap[g]? = some (.cells #[.bool top.dict, .slice ta tn tc] 166 (0, 0))) {cs : List Value} (HVS : IsVs W5 F top.l cs) {X : PV} {sa : Option Addr} {sn sc : Nat} (HX : IsV W5 F X (.slice sa sn sc)) (HTN : tn = top.l.length)
   {o : Obj} (HG7 : ((W5.alloc o).drew).grownBy w7 (Value.slice ta tn tc).ownBlock) {g7 cap7 : Nat} {z0 z1 z2 z3 : Value}
   (HO7 : w7.ownsRow w.heap.size 27 4 (.slice (some ⟨g7, 0, none⟩) (tn + 1) cap7) (tn + 1) (cs ++ [z0, z1, z2, z3])) (HAT : (Value.slice ta tn tc).ownBlock = some g7 ∨ g7 = W5.heap.size + 1)
   (hv : valO bs last n ({ top with l := top.l ++ [X] } :: rest) at2 = some V) (hlen : ∀ v ∈ top :: rest, (v.l.length : Int) + 1 ≤ at2) (hrng : 0 ≤ at2 ∧ at2 ≤ bs.length) :
   VAt w (((((w7.setCell ⟨g7, tn * 4, none⟩ (.int .i64 X.kind)).setCell ⟨g7, tn * 4 + 1, none⟩ (.int .i64 X.n)).setCell ⟨g7, tn * 4 + 2, none⟩ (.string (mkB X.s))).setCell ⟨g7, tn * 4 + 3, none⟩ (.slice sa sn sc)).setCell ⟨g, 1, none⟩ (.slice (some ⟨g7, 0, none⟩) (tn + 1) cap7)) F r p a cap bs last V n ({ top with l := top.l ++ [X] } :: rest) at2 := by
 subst HTN
 have hk : zad (fun b => (Value.slice ta top.l.length tc).ownBlock = some b) W5 ((((w7.setCell ⟨g7, top.l.length * 4, none⟩ (.int .i64 X.kind)).setCell ⟨g7, top.l.length * 4 + 1, none⟩ (.int .i64 X.n)).setCell ⟨g7, top.l.length * 4 + 2, none⟩ (.string (mkB X.s))).setCell ⟨g7, top.l.length * 4 + 3, none⟩ (.slice sa sn sc)) := by
   have h0 : zad (fun b => (Value.slice ta top.l.length tc).ownBlock = some b) W5 w7 :=
     (zaq (zah W5 o).drew).grown HG7 fun k hk => .inl hk
   have hg7 : (Value.slice ta top.l.length tc).ownBlock = some g7 ∨ W5.heap.size ≤ g7 := by rcases HAT with h | h; exact .inl h; exact .inr (by omega)
   exact (((h0.setCell (a := ⟨g7, _, none⟩) hg7 _).setCell (a := ⟨g7, _, none⟩) hg7 _).setCell (a := ⟨g7, _, none⟩) hg7 _).setCell (a := ⟨g7, _, none⟩) hg7 _
 have N := HG5.put HGL HVS HX (v' := .slice (some ⟨g7, 0, none⟩) (top.l.length + 1) cap7) (owns_setLast HO7) hk (fun b hb => by
   have hb : g7 = b := by simpa [Value.ownBlock] using hb
   subst hb
   rcases HAT with h | h; exact .inl h; exact .inr (by omega))
 refine ⟨(let ⟨gs2, osl2, h⟩ := N.stk; ⟨gs2, osl2, h.give fun b hb => .inl hb⟩), zbu N.sg HR5 (.inl rfl), hv, fun v hv => ?_, .inr hrng⟩
 rcases List.mem_cons.1 hv with rfl | hv
 · have := hlen top List.mem_cons_self
   simpa using this
 · have := hlen v (List.mem_cons_of_mem _ hv)
   omega
set_option maxRecDepth 100000 in
theorem value_any {w : World} {a : Option Addr} {cap : Nat} {bs : List UInt8} (hr : Row w 1 a bs.length cap (bs.map u8C)) (hn : bs.length ≤ 400000) (at0 : Int) (last : Bool) (V : PV × Int × Int) (hV : valO bs last (bs.length + 2) [] at0 = some V) :
   Calls Tryz.prog 45 #[.slice a bs.length cap, .int .i64 at0, .bool last] w (ValEnd w V) := by
 obtain ⟨r, hrr⟩ : ∃ r, r = w.heap.size := ⟨_, rfl⟩
 have hs0 : zap w ((w.alloc (.cells #[.int .i64 0, .int .i64 0, .string ⟨#[]⟩, .slice none 0 0] 27)).alloc (.cells #[.slice a bs.length cap, .int .i64 at0, .bool last, .slice none 0 0] 160)) (fun _ => False) (fun b => b = r) (r + 1) a cap bs last [] at0 [] (.slice none 0 0) :=
   ⟨zac _ (by rw [zam, hrr]), by omega, by omega, World.ownsRow_nil _ _ _ _, fun b hb => (by cases hb), rfl, fun b hb => hb.elim, fun b hb => by rw [zam, zam]; omega, za6 w _ _, hr, hn, by simp⟩
 have HAT := Lib.hid (show VAt w ((w.alloc (.cells #[.int .i64 0, .int .i64 0, .string ⟨#[]⟩, .slice none 0 0] 27)).alloc (.cells #[.slice a bs.length cap, .int .i64 at0, .bool last, .slice none 0 0] 160)) (fun _ => False) r (r + 1) a cap bs last V (bs.length + 2) [] at0 from
   ⟨⟨_, _, hs0⟩, zak _ (zac _ hrr), hV, fun v hv => (by cases hv), .inl rfl⟩)
 have HRR := Lib.hid hrr
 clear hs0 hV hr hn hrr
 go_enter Tryz.func45, Tryz.ntmps45
 go_wp2
 refine zbN 0 (ValI w r (r + 1) a cap bs last at0 V) rfl ?first ?pass
 case first =>
   intro hpass
   have HPASS := Lib.hid hpass
   clear hpass
   go_wp2
   rw [← HRR.out]
   refine wp_label ?_
   rename_i K hK
   exact hK _ _ (HPASS.out _ _ _ ⟨_, [], at0, _, _, _, _, _, _, _, _, _, _, _, _, _, _, _, _, _, _, _, _, _, _, _, _, _, _, _, _, _, _, _, _, _, _, _, _, _, _, _, _, _, _, _, _, _, _, _, _, _, _, _, _, HAT, rfl⟩)
 case pass =>
   rintro n act W ⟨F, st, at_, u10, u11, u12, u13, u14, u15, u16, u17, u18, u19, u20, u21, u22, u23, u24, u25, u26, u27, u28, u29, u30, u31, u32, u33, u34, u35, u36, u37, u38, u39, u40, u41, u42, u43, u44, u45, u46, u47, u48, u49, u50, u51, u52, u53, u54, u55, u56, u57, u58, u59, u60, u61, HA, rfl⟩
   obtain ⟨p, hp⟩ : ∃ p, p = r + 1 := ⟨_, rfl⟩
   rw [← hp] at HA ⊢
   have HP := Lib.hid hp
   clear hp HAT
   obtain ⟨gs, osl, hs⟩ := HA.out.stk
   have HS := Lib.hid hs
   have HNX := Lib.hid (pnext_any hs)
   have HFU := Lib.hid HA.out.fuel
   have HRES := Lib.hid HA.out.res
   have hrl : r < W.heap.size := zag HA.out.res
   have hpr : p ≠ r := hs.gp
   have HLEN := Lib.hid HA.out.len
   have HSM := Lib.hid HA.out.small
   have HRNG := Lib.hid HA.out.rng
   have HHR := Lib.hid (show w.heap.size ≤ r by rw [HRR.out]; exact Nat.le_refl _)
   have hfu := HFU.out
   cases n with
   | zero => cases hfu
   | succ n =>
   unfold valO at hfu
   simp only at hfu
   obtain ⟨T, hT⟩ : ∃ T, T = zaf bs at_ last := ⟨_, rfl⟩
   rw [← hT] at hfu HNX
   have HT := Lib.hid hT
   obtain ⟨x, tf, tt, er⟩ := T
   simp only at hfu HNX
   clear hs hT HFU HA
   by_cases her : er = 0
   case neg =>
     have hv := hfu
     rw [if_pos her] at hv
     have HV := Lib.hid (Option.some.inj hv).symm
     have e1 : (er == 0) = false := by rw [beq_eq_false_iff_ne]; exact her
     have e2 : (er != 0) = true := by simp only [bne, e1, Bool.not_false]
     clear hfu hv her
     unfold tokN at HNX
     go_wp2_with fail
     refine HNX.out.mono ?_
     rintro e w1 ⟨rfl, hs1, hk1⟩
     have HR1 := Lib.hid ((hk1.alloc (.cells (tokN x tf tt) 150)).obj HRES.out (Ne.symm hpr))
     have HB1 := Lib.hid (hs1.bel.alloc hs1.bel.size (.cells (tokN x tf tt) 150))
     unfold tokN at HR1 HB1
     obtain ⟨⟨k0, k1, k2, k3⟩, m0, m1, m2, m3⟩ := zal HR1.out
     clear hs1 hk1
     go_upto_region 3 with fail
     generalize w1.alloc _ = W2 at *
     go_wp2
     try simp only [Exit.jump]
     refine bodyPost_ret (zao rfl _ _ r 27 _ (0, 0) _ rfl (by exact set4 HR1.out _ _ _ _) Tryz.underlying27 rfl (by exact zaC) _ _ rfl rfl) rfl ?_
     rw [HV.out]
     exact ⟨.slice none 0 0, rfl, IsV.leaf _ _ _ rfl, zai HB1.out HHR.out _ _ _ _⟩
   subst her
   have hv := hfu
   rw [if_neg (by simp)] at hv
   have hrng : 0 ≤ at_ ∧ at_ ≤ bs.length := by
     have h := HT.out
     by_cases ho : at_ < 0 ∨ (bs.length : Int) < at_
     · unfold zaf at h
       rw [if_pos ho] at h
       have h2 := congrArg (fun z : Tk × Int × Int × Int => z.2.2.2) h
       simp at h2
     · omega
   have hst := fun w1 (h1 : zap w w1 F (fun b => b = r) p a cap bs last st tt gs osl) => step_any h1 x tf tt HSM.out
   have HST := Lib.hid hst
   have hat := fun h => zca (bs := bs) (k := at_) (last := last) hrng.1 hrng.2 (by rw [← HT.out]) h
   rw [← HT.out] at hat
   have hto := zaK (bs := bs) (k := at_) last hrng.1 hrng.2
   rw [← HT.out] at hto
   simp only at hat hto
   have hsa := stepV_at (bs := bs) (last := last) (k := tt) (by omega) hto.2 st x
   have hsk := fun h => zeO (bs := bs) (last := last) (k := tt) (st := st) (t := x) h
   have hsl := stepV_len (bs := bs) (last := last) (st := st) (k := tt) (t := x) (N := at_) hrng.1 HLEN.out
   obtain ⟨R, hRR⟩ : ∃ R, R = zaA bs last st tt x := ⟨_, rfl⟩
   rw [← hRR] at hsa hsk hsl hv
   have HST2 := Lib.hid (show ∀ w1, zap w w1 F (fun b => b = r) p a cap bs last st tt gs osl → Calls Tryz.prog 82 #[.pointer (some ⟨p, 0, none⟩), .agg (tokN x tf tt)] w1 (PStep w w1 F (fun b => b = r) p a cap bs last R) from fun w1 h1 => by rw [hRR]; exact hst w1 h1)
   obtain ⟨o, st2, at2, er2⟩ := R
   simp only at hsa hsk hsl hv
   have HV := Lib.hid hv
   have HSL := Lib.hid hsl
   have HSA := Lib.hid hsa
   have HSK := Lib.hid (fun h => hat (hsk h))
   have HTO := Lib.hid hto
   have HR0 := Lib.hid hrng
   clear hst HST hat hto hsa hsk hsl hRR hv hfu hrng HT
   unfold tokN at HNX HST2
   go_wp2_with fail
   refine HNX.out.mono ?_
   rintro e w1 ⟨rfl, hs1, hk1⟩
   have HR1 := Lib.hid (hk1.obj HRES.out (Ne.symm hpr))
   have HS1 := Lib.hid hs1
   clear hs1 hk1 HNX
   go_wp2_with fail
   refine (HST2.out _ (HS1.out.alloc _)).mono ?_
   rintro e w3 ⟨F', sa, sn, sc, X, rfl, hX, hN⟩
   have HX := Lib.hid hX
   have HN := Lib.hid hN
   have HR3 := Lib.hid (zbu hN.sg (zak (.cells #[.int .i64 x.kind, .int .i64 tf, .int .i64 tt, .int .i64 x.vk, .int .i64 x.vn, .string (mkB x.vs), .slice none 0 0, .string (mkB x.s)] 150) HR1.out) rfl)
   have HB3 := Lib.hid (show Below w.heap.size w w3 from (let ⟨_, _, h⟩ := hN.stk; h.bel))
   clear hX hN HST2 HS1 HR1
   unfold pvA
   by_cases her2 : er2 = 0
   case neg =>
     have hv := HV.out
     rw [if_pos her2] at hv
     have HVV := Lib.hid (Option.some.inj hv).symm
     have e1 : (er2 == 0) = false := by rw [beq_eq_false_iff_ne]; exact her2
     have e2 : (er2 != 0) = true := by simp only [bne, e1, Bool.not_false]
     clear hv her2
     simp only
     generalize o.isSome = io at *
     go_upto_region 6 with fail
     have HR4 := Lib.hid (zak (.cells #[.int .i64 X.kind, .int .i64 X.n, .string (mkB X.s), .slice sa sn sc] 27) HR3.out)
     have HB4 := Lib.hid (HB3.out.alloc HB3.out.size (.cells #[.int .i64 X.kind, .int .i64 X.n, .string (mkB X.s), .slice sa sn sc] 27))
     generalize w3.alloc _ = W4 at *
     obtain ⟨⟨k0, k1, k2, k3⟩, m0, m1, m2, m3⟩ := zal HR4.out
     go_wp2
     refine bodyPost_ret (zao rfl _ _ r 27 _ (0, 0) _ rfl (by exact set4 HR4.out _ _ _ _) Tryz.underlying27 rfl (by exact zaC) _ _ rfl rfl) rfl ?_
     rw [HVV.out]
     exact ⟨.slice none 0 0, rfl, IsV.leaf _ _ _ rfl, zai HB4.out HHR.out _ _ _ _⟩
   subst her2
   have hv := HV.out
   rw [if_neg (by simp)] at hv
   have hlt : at_ < tt := HSK.out rfl
   have hrng := HR0.out
   have hsa := HSA.out
   have hsl := HSL.out
   cases o with
   | none =>
     simp only at hv
     have HVA := Lib.hid (show ∀ o : Obj, VAt w (w3.alloc o) F' r p a cap bs last V n st2 at2 from fun o =>
       ⟨(let ⟨gs2, osl2, h⟩ := HN.out.stk; ⟨gs2, osl2, h.alloc o⟩), zak o HR3.out, hv, fun v hv => by have := hsl v hv; omega, .inr ⟨by omega, hsa.2⟩⟩)
     clear hv hlt hsa hsl HN HX hrng
     simp only [Option.isSome_none]
     go_wp2
     go_step3
     exact ⟨rfl, n, Nat.lt_succ_self _, F', st2, at2, _, _, _, _, _, _, _, _, _, _, _, _, _, _, _, _, _, _, _, _, _, _, _, _, _, _, _, _, _, _, _, _, _, _, _, _, _, _, _, _, _, _, _, _, _, _, _, _, _, _, _, _, Lib.hid (HVA.out _), rfl⟩
   | some x0 =>
     simp only [Option.isSome_some]
     obtain ⟨rfl, hv0⟩ := HX.out x0 rfl
     have HV0 := Lib.hid hv0
     obtain ⟨gs2, osl2, hs2⟩ := HN.out.stk
     have HS2 := Lib.hid hs2
     simp only at hv
     go_upto_region 9 with fail
     obtain ⟨v4, hv4⟩ : ∃ v4, v4 = w3.heap.size := ⟨_, rfl⟩
     have hb4 := zah w3 (.cells #[.int .i64 X.kind, .int .i64 X.n, .string (mkB X.s), .slice sa sn sc] 27)
     have hk4 := zac (w := w3) (b := v4) (.cells #[.int .i64 X.kind, .int .i64 X.n, .string (mkB X.s), .slice sa sn sc] 27) hv4
     have HS4 := Lib.hid (hs2.mono hb4)
     have HG4 := Lib.hid (hs2.res (G' := fun b => b = r ∨ b = v4) hb4 (fun b hb => hb.imp id fun e => by rw [e, hv4, zam]; omega))
     have HV4 := Lib.hid (hv0.below hb4)
     have HR4 := Lib.hid (zab hb4 HR3.out)
     have HB4 := Lib.hid (HB3.out.trans (hb4.mono HB3.out.size))
     have HK4 := Lib.hid hk4
     have HV3 := Lib.hid hv4
     have hv4r : v4 ≠ r := by have := zag HR3.out; omega
     have hv4p : v4 ≠ p := by have := hs2.lt; omega
     rw [← hv4]
     clear hv0 hs2 HX HN HS2 HV0 HR3 HB3 hb4 hk4
     generalize w3.alloc _ = W4 at *
     clear hv4
     have HTOP := Lib.hid (zfa HS4.out)
     go_wp2_with fail
     refine HTOP.out.mono ?_
     rintro e w5 ⟨rfl, q, rfl⟩
     have HS5 := Lib.hid (HS4.out.drewN q)
     have HG5 := Lib.hid (HG4.out.drewN q)
     have HV5 := Lib.hid (HV4.out.below (zae (Below.refl _ _) q))
     have HR5 := Lib.hid (show (W4.drewN q).heap[r]? = _ from HR4.out)
     have HB5 := Lib.hid (zae HB4.out q)
     have HK5 := Lib.hid (show (W4.drewN q).heap[v4]? = _ from HK4.out)
     clear HS4 HG4 HV4 HR4 HB4 HK4 HTOP
     generalize W4.drewN q = W5 at *
     obtain ⟨⟨k0, k1, k2, k3⟩, m0, m1, m2, m3⟩ := zal HR5.out
     obtain ⟨⟨d0, d1, d2, d3⟩, -⟩ := zal HK5.out
     cases st2 with
     | nil =>
       have hg : gs2 = [] := List.eq_nil_of_length_eq_zero (by rw [HS5.out.lvs.len]; rfl)
       subst hg
       have HVV := Lib.hid (Option.some.inj hv).symm
       obtain ⟨⟨c0, c1, c2, c3⟩, -⟩ := HS5.out.cells
       clear hv hlt hsa hsl hrng
       unfold topP
       go_wp2
       go_region
       all_goals
         go_wp2
         refine bodyPost_ret (zao rfl _ _ r 27 _ (0, 0) _ rfl (by exact set4 HR5.out _ _ _ _) Tryz.underlying27 rfl (by exact zaC) _ _ rfl rfl) rfl ?_
         rw [HVV.out]
         exact ⟨_, rfl, (IsV.setr HV5.out HS5.out _ _ _ _).drew, (zai HB5.out HHR.out _ _ _ _).drew⟩
     | cons top rest =>
       obtain ⟨g, t, ta, tc, cs, rfl, ht1, ht2, hgB, hgG, hgl, hO, hVs, hown⟩ := HG5.out.lastL
       obtain ⟨tn, htn⟩ : ∃ tn, tn = top.l.length := ⟨_, rfl⟩
       rw [← htn] at ht1 hO hgl hown
       have htn2 : tn ≤ 400000 := by
         have h1 := hsl top List.mem_cons_self
         have h2 := HS5.out.small
         omega
       have hgc : W5.cell? ⟨g, 1, none⟩ = some (.slice ta tn tc) := by rw [cell_of_row W5 g 1 _ _ _ hgl]; rfl
       have hgf : W5.frozen? ⟨g, 1, none⟩ = false := frozen_of_row W5 g 1 _ _ hgl
       have hv4l : v4 < W5.heap.size := zag HK5.out
       have hgll : g < W5.heap.size := zag hgl
       have hgt : (Value.slice ta tn tc).ownBlock ≠ some g := fun e => by obtain ⟨ds, hc⟩ := zaz hO e; exact zaM hc hgl (by decide) rfl
       have hvt : (Value.slice ta tn tc).ownBlock ≠ some v4 := fun e => (hown v4 e).2 (.inr rfl)
       have HC0 : Hid (S5v W5 v4 (.int .i64 X.kind) (.int .i64 X.n) (.string (mkB X.s)) (.slice sa sn sc)) := Lib.hid ⟨d0, d1, d2, d3⟩
       have HO := Lib.hid hO
       have HGL := Lib.hid hgl
       have HVS := Lib.hid hVs
       have HTN := Lib.hid htn
       have HBA := Lib.hid (HS5.out.bel.size)
       have HGT := Lib.hid hgt
       have HVT := Lib.hid hvt
       have HVG := Lib.hid (show v4 ≠ g from fun e => hgG (.inr e.symm))
       clear k0 k1 k2 k3 m0 m1 m2 m3 hO hgl hVs htn hown
       unfold topP
       go_upto_region 11 with fail
       have i1 : (0 : Int) ≤ (tn : Int) := by omega
       have i2 : (tn : Int) ≤ 400000 := by omega
       have i3 : (tn : Int) < (tn : Int) + 1 := by omega
       have i4 : (tn : Int) < ((tn + 1 : Nat) : Int) := by omega
       have i5 : tn < tn + 1 := by omega
       have i6 : (tn : Int).toNat = tn := by omega
       obtain ⟨iB, hiB, hzB, hsB, hbB⟩ := info_parts EPV.info
       go_region_law (first | (refine step_append_lies _ (by rfl) _ _ _ (by rfl) w.heap.size 27 iB _ 4 56 EPV.und hiB hzB hsB hbB rfl (by omega) (.slice ta tn tc) tn cs (by rfl) ((HO.out.alloc _).drew) ⟨W5.heap.size, 0, none⟩ 1 1 [.int .i64 0, .int .i64 0, .string ⟨#[]⟩, .slice none 0 0] (by rfl) (by rfl) (World.news_of_block (cs := #[.int .i64 0, .int .i64 0, .string ⟨#[]⟩, .slice none 0 0]) (t := 27) (fr := (0, 0)) (heap_alloc_new W5 _)) (by simp [Value.oneCell']) (by omega) (by unfold maxLen; omega) (by omega) (by simp; have := HBA.out; omega) (W5.heap.size + 1) (by simp) ?_; intro g7 cap7 w7 hO7 hgrow hat hlt7; have HGV : Hid (g ≠ g7 ∧ v4 ≠ g7) := (by rcases hat with e | e; exact Lib.hid ⟨fun e2 => hgt (e2 ▸ e), fun e2 => hvt (e2 ▸ e)⟩; exact Lib.hid ⟨by omega, by omega⟩); have hs7 := (HC0.out.alloc (.cells #[.int .i64 0, .int .i64 0, .string ⟨#[]⟩, .slice none 0 0] 27)).drew.grown hgrow hvt; obtain ⟨s0, s1, s2, s3⟩ := hs7; obtain ⟨⟨z0, z1, z2, z3⟩, zf⟩ := owns_lastC hO7; have hgl7 := Lib.hid ((hgrow.block g (show g < (W5.alloc _).heap.size by rw [zam]; omega) (fun e => hgt e.symm)).trans (zak (.cells #[.int .i64 0, .int .i64 0, .string ⟨#[]⟩, .slice none 0 0] 27) HGL.out)); have hgf7 := frozen_of_row w7 g 1 _ _ hgl7.out; have hgne : g ≠ g7 := HGV.out.1; have zf0 := zf (tn * 4); have zf1 := zf (tn * 4 + 1); have zf2 := zf (tn * 4 + 2); have zf3 := zf (tn * 4 + 3); have hc7 : w7.cell? ⟨g, 1, none⟩ = some (.slice ta tn tc) := (by rw [cell_of_row w7 g 1 _ _ _ hgl7.out]; rfl); have HG7 := Lib.hid hgrow; have HO7 := Lib.hid hO7; have HAT := Lib.hid hat; clear zf hgrow hO7 hat hlt7))
       all_goals
         first
           | rw [zfc w7 hgne]
           | skip
         have HVA := Lib.hid (VAt.put HG5.out HR5.out HGL.out HVS.out HV5.out HTN.out HG7.out HO7.out HAT.out hv (fun v hv => by have := hsl v hv; omega) ⟨by omega, hsa.2⟩)
         clear hv hlt hsa hsl hrng HG5 HR5 HGL HVS HV5 HTN HG7 HO7 HAT HO
         go_wp2
         go_step3
         exact ⟨rfl, n, Nat.lt_succ_self _, F', _, at2, _, _, _, _, _, _, _, _, _, _, _, _, _, _, _, _, _, _, _, _, _, _, _, _, _, _, _, _, _, _, _, _, _, _, _, _, _, _, _, _, _, _, _, _, _, _, _, _, _, _, _, _, HVA, rfl⟩
def oneW (p : Tk → Bool) (V : Tk × Int × Int × Int) : Tk × Int × Int × Int :=
 if V.2.2.2 ≠ 0 then ({ kind := 0 }, 0, 0, V.2.2.2) else if V.1.kind = 0 then ({ kind := 0 }, 0, 0, 10) else if p V.1 = false then ({ kind := 0 }, 0, 0, 11) else (V.1, V.2.1, V.2.2.1, 0)
def wordT (s : List UInt8) (t : Tk) : Bool := t.kind == 6 && t.s == s
def zfr (w : World) (V : Tk × Int × Int × Int) (e : Ending) (w' : World) : Prop := e = .returned (.tuple #[.int .i64 V.1.vn, .int .i64 V.2.2.1, .int .i64 V.2.2.2]) ∧ Below w.heap.size w w'
def zea (w : World) (V : Tk × Int × Int × Int) (e : Ending) (w' : World) : Prop := e = .returned (.tuple #[.int .i64 V.2.2.1, .int .i64 V.2.2.2]) ∧ Below w.heap.size w w'
def OneEnd (w : World) (V : Tk × Int × Int × Int) (e : Ending) (w' : World) : Prop := e = .returned (.tuple #[.agg (tokN V.1 V.2.1 V.2.2.1), .int .i64 V.2.2.2]) ∧ Below w.heap.size w w'
theorem one_any {w : World} {a : Option Addr} {cap : Nat} {bs : List UInt8} (hr : Row w 1 a bs.length cap (bs.map u8C)) (hn : bs.length ≤ 400000) (k : Int) (last : Bool) (g : FuncId) (cb : Array Value) (p : Tk → Bool)
   (henter : ∀ args w, (callFunc g args).run Tryz.prog w = .ok (.enter g args) w)
   (hp : ∀ W, Below w.heap.size w W → ∀ x f t, Calls Tryz.prog g (#[.agg (tokN x f t)] ++ cb) W fun e w' => e = .returned (.bool (p x)) ∧ Below W.heap.size W w') :
   Calls Tryz.prog 76 #[.slice a bs.length cap, .int .i64 k, .bool last, .func (.func g) #[] cb] w (OneEnd w (oneW p (zaf bs k last))) := by
 have HN := Lib.hid (fun (W : World) (h : Below w.heap.size w W) => zcQ (hr.mono h) hn k last)
 obtain ⟨R, hR⟩ : ∃ R, R = oneW p (zaf bs k last) := ⟨_, rfl⟩
 rw [← hR]
 unfold oneW at hR
 generalize zaf bs k last = V at *
 obtain ⟨x, f, t, er⟩ := V
 have HP := Lib.hid (fun W h => hp W h x f t)
 simp only at hR
 unfold zds tokN at HN
 unfold tokN at HP
 simp only at HN
 have HR := Lib.hid hR
 clear hr hR hn hp
 generalize p x = px at *
 obtain ⟨xk, xvk, xvn, xvs, xs⟩ := x
 simp only at HN HP HR
 generalize bs.length = L at *
 go_enter Tryz.func76, Tryz.ntmps76
 obtain ⟨B, hB⟩ : ∃ B, B = w.heap.size := ⟨_, rfl⟩
 have HZ := Lib.hid (zac (w := w) (b := B) (.cells #[.int .i64 0, .int .i64 0, .int .i64 0, .int .i64 0, .int .i64 0, .string ⟨#[]⟩, .slice none 0 0, .string ⟨#[]⟩] 150) hB)
 have HBW := Lib.hid (zah w (.cells #[.int .i64 0, .int .i64 0, .int .i64 0, .int .i64 0, .int .i64 0, .string ⟨#[]⟩, .slice none 0 0, .string ⟨#[]⟩] 150))
 have HBB := Lib.hid (Nat.le_of_eq hB.symm)
 go_upto_region 1 with fail
 rw [← hB]
 clear hB
 generalize w.alloc _ = W1 at *
 go_wp2_with fail
 refine (HN.out _ HBW.out).mono ?_
 rintro e w2 ⟨rfl, hb2⟩
 have hb2a := hb2.alloc hb2.size (.cells #[.int .i64 xk, .int .i64 f, .int .i64 t, .int .i64 xvk, .int .i64 xvn, .string (mkB xvs), .slice none 0 0, .string (mkB xs)] 150)
 have HB2 := Lib.hid (HBW.out.trans (hb2a.mono HBW.out.size))
 have HT2 := Lib.hid (zac (w := w2) (b := w2.heap.size) (.cells #[.int .i64 xk, .int .i64 f, .int .i64 t, .int .i64 xvk, .int .i64 xvn, .string (mkB xvs), .slice none 0 0, .string (mkB xs)] 150) rfl)
 have HZ2 := Lib.hid (zab hb2a HZ.out)
 clear hb2 hb2a HN HZ
 go_upto_region 2 with fail
 obtain ⟨r2, hr2⟩ : ∃ r2, r2 = w2.heap.size := ⟨_, rfl⟩
 rw [← hr2] at HT2 ⊢
 clear hr2
 generalize w2.alloc _ = W2 at *
 obtain ⟨⟨t0, t1, t2, t3, t4, t5, t6, t7⟩, -⟩ := zan HT2.out
 obtain ⟨⟨z0, z1, z2, z3, z4, z5, z6, z7⟩, zf0, zf1, zf2, zf3, zf4, zf5, zf6, zf7⟩ := zan HZ2.out
 have hR := HR.out
 by_cases her : er = 0
 case neg =>
   have e0 : (er == 0) = false := by rw [beq_eq_false_iff_ne]; exact her
   have e1 : (er != 0) = true := by simp only [bne, e0, Bool.not_false]
   rw [if_pos her] at hR
   subst hR
   clear HR her HP henter
   go_wp2
   refine bodyPost_ret (zaa rfl _ _ B 150 _ (0, 0) _ rfl (by exact set8 HZ2.out _ _ _ _ _ _ _ _) Tryz.underlying150 rfl (by exact zas) _ rfl) rfl ?_
   exact ⟨rfl, zaV HB2.out HBB.out _ _ _ _ _ _ _ _⟩
 subst her
 rw [if_neg (by simp)] at hR
 by_cases hk : xk = 0
 · have e0 : (xk == 0) = true := by rw [hk]; rfl
   rw [if_pos hk] at hR
   subst hR
   clear HR hk HP henter
   go_wp2
   refine bodyPost_ret (zaa rfl _ _ B 150 _ (0, 0) _ rfl (by exact set8 HZ2.out _ _ _ _ _ _ _ _) Tryz.underlying150 rfl (by exact zas) _ rfl) rfl ?_
   exact ⟨rfl, zaV HB2.out HBB.out _ _ _ _ _ _ _ _⟩
 have e0 : (xk == 0) = false := by rw [beq_eq_false_iff_ne]; exact hk
 rw [if_neg hk] at hR
 clear HR
 have HR := Lib.hid hR
 clear hR hk
 go_wp2_with fail
 refine (HP.out _ HB2.out).mono ?_
 rintro e w3 ⟨rfl, hb3⟩
 have HB3 := Lib.hid (HB2.out.trans (hb3.mono HB2.out.size))
 have HT3 := Lib.hid (zab hb3 HT2.out)
 have HZ3 := Lib.hid (zab hb3 HZ2.out)
 clear hb3 HP henter t0 t1 t2 t3 t4 t5 t6 t7 z0 z1 z2 z3 z4 z5 z6 z7 zf0 zf1 zf2 zf3 zf4 zf5 zf6 zf7
 obtain ⟨⟨t0, t1, t2, t3, t4, t5, t6, t7⟩, -⟩ := zan HT3.out
 obtain ⟨⟨z0, z1, z2, z3, z4, z5, z6, z7⟩, zf0, zf1, zf2, zf3, zf4, zf5, zf6, zf7⟩ := zan HZ3.out
 have hR := HR.out
 cases px with
 | false =>
   rw [if_pos rfl] at hR
   subst hR
   clear HR
   go_wp2
   refine bodyPost_ret (zaa rfl _ _ B 150 _ (0, 0) _ rfl (by exact set8 HZ3.out _ _ _ _ _ _ _ _) Tryz.underlying150 rfl (by exact zas) _ rfl) rfl ?_
   exact ⟨rfl, zaV HB3.out HBB.out _ _ _ _ _ _ _ _⟩
 | true =>
   rw [if_neg (by decide)] at hR
   subst hR
   clear HR
   go_wp2
   refine bodyPost_ret (zaa rfl _ _ B 150 _ (0, 0) _ rfl (by exact set8 HZ3.out _ _ _ _ _ _ _ _) Tryz.underlying150 rfl (by exact zas) _ rfl) rfl ?_
   exact ⟨rfl, zaV HB3.out HBB.out _ _ _ _ _ _ _ _⟩
theorem pnumber_any {w : World} {a : Option Addr} {cap : Nat} {bs : List UInt8} (hr : Row w 1 a bs.length cap (bs.map u8C)) (hn : bs.length ≤ 400000) (k : Int) (last : Bool) :
   Calls Tryz.prog 57 #[.slice a bs.length cap, .int .i64 k, .bool last] w (zfr w (oneW zay (zaf bs k last))) := by
 have HO := Lib.hid (one_any hr hn k last 95 #[] zay (enters_of Tryz.func95 (by kernel_rfl) rfl) (fun W _ x f t => zfv x f t W))
 generalize oneW zay (zaf bs k last) = R at *
 obtain ⟨x, f, t, er⟩ := R
 unfold OneEnd tokN at HO
 unfold zfr
 simp only at HO ⊢
 clear hr hn
 generalize x.kind = xk at *
 generalize x.vk = xvk at *
 generalize x.vn = xvn at *
 generalize mkB x.vs = xvb at *
 generalize mkB x.s = xb at *
 generalize bs.length = L at *
 go_enter Tryz.func57, Tryz.ntmps57
 go_wp2_with fail
 refine HO.out.mono ?_
 rintro e w2 ⟨rfl, hb2⟩
 have HB2 := Lib.hid (hb2.alloc hb2.size (.cells #[.int .i64 xk, .int .i64 f, .int .i64 t, .int .i64 xvk, .int .i64 xvn, .string xvb, .slice none 0 0, .string xb] 150))
 have HT2 := Lib.hid (zac (w := w2) (b := w2.heap.size) (.cells #[.int .i64 xk, .int .i64 f, .int .i64 t, .int .i64 xvk, .int .i64 xvn, .string xvb, .slice none 0 0, .string xb] 150) rfl)
 clear hb2 HO
 go_upto_region 2 with fail
 obtain ⟨r2, hr2⟩ : ∃ r2, r2 = w2.heap.size := ⟨_, rfl⟩
 rw [← hr2] at HT2 ⊢
 clear hr2
 generalize w2.alloc _ = W2 at *
 obtain ⟨⟨t0, t1, t2, t3, t4, t5, t6, t7⟩, -⟩ := zan HT2.out
 go_wp2
 go_quiet (fail)
 go_wp2
 go_ret3
 exact ⟨rfl, zae HB2.out _⟩
theorem pword1_any {w : World} {b : Nat} {s : List UInt8} (hb : w.cell? ⟨b, 0, none⟩ = some (.string (mkB s))) (x : Tk) (f t : Int) :
   Calls Tryz.prog 77 #[.agg (tokN x f t), .pointer (some ⟨b, 0, none⟩)] w fun e w' => e = .returned (.bool (wordT s x)) ∧ Below w.heap.size w w' := by
 have hq : ((mkB x.s).toList == (mkB s).toList) = decide (x.s = s) := by rw [za1 s]; exact zdC x.s s
 have hw : wordT s x = (x.kind == 6 && decide (x.s = s)) := by unfold wordT; by_cases e : x.s = s <;> simp [e]
 rw [hw]
 unfold tokN
 have hb2 := cell?_keep (zah w (.cells #[.int .i64 x.kind, .int .i64 f, .int .i64 t, .int .i64 x.vk, .int .i64 x.vn, .string (mkB x.vs), .slice none 0 0, .string (mkB x.s)] 150)) hb
 generalize decide (x.s = s) = ds at *
 clear hw
 generalize x.kind = a0 at *
 generalize x.vk = a1 at *
 generalize x.vn = a2 at *
 generalize mkB x.vs = s1 at *
 generalize mkB x.s = s2 at *
 generalize mkB s = s3 at *
 have HK := Lib.hid (zac (w := w) (b := w.heap.size) (.cells #[.int .i64 a0, .int .i64 f, .int .i64 t, .int .i64 a1, .int .i64 a2, .string s1, .slice none 0 0, .string s2] 150) rfl)
 have HB := Lib.hid (zah w (.cells #[.int .i64 a0, .int .i64 f, .int .i64 t, .int .i64 a1, .int .i64 a2, .string s1, .slice none 0 0, .string s2] 150))
 cases h0 : (a0 == 6)
 · go_enter Tryz.func77, Tryz.ntmps77
   go_upto_region 1 with fail
   obtain ⟨r, hr⟩ : ∃ r, r = w.heap.size := ⟨_, rfl⟩
   rw [← hr] at HK ⊢
   clear hr
   generalize w.alloc _ = W1 at *
   obtain ⟨⟨k0, k1, k2, k3, k4, k5, k6, k7⟩, -⟩ := zan HK.out
   go_wp2
   go_ret
   exact ⟨rfl, HB.out⟩
 · cases ds
   · go_enter Tryz.func77, Tryz.ntmps77
     go_upto_region 1 with fail
     obtain ⟨r, hr⟩ : ∃ r, r = w.heap.size := ⟨_, rfl⟩
     rw [← hr] at HK ⊢
     clear hr
     generalize w.alloc _ = W1 at *
     obtain ⟨⟨k0, k1, k2, k3, k4, k5, k6, k7⟩, -⟩ := zan HK.out
     go_wp2
     go_ret
     exact ⟨rfl, HB.out⟩
   · go_enter Tryz.func77, Tryz.ntmps77
     go_upto_region 1 with fail
     obtain ⟨r, hr⟩ : ∃ r, r = w.heap.size := ⟨_, rfl⟩
     rw [← hr] at HK ⊢
     clear hr
     generalize w.alloc _ = W1 at *
     obtain ⟨⟨k0, k1, k2, k3, k4, k5, k6, k7⟩, -⟩ := zan HK.out
     go_wp2
     go_ret
     exact ⟨rfl, HB.out⟩
theorem pword12_any {w : World} {a : Option Addr} {cap : Nat} {bs : List UInt8} (hr : Row w 1 a bs.length cap (bs.map u8C)) (hn : bs.length ≤ 400000) (k : Int) (last : Bool) (s : List UInt8) :
   Calls Tryz.prog 43 #[.slice a bs.length cap, .int .i64 k, .bool last, .string (mkB s)] w (zea w (oneW (wordT s) (zaf bs k last))) := by
 have hbw := zah w (.cells #[.string (mkB s)] 9)
 have hkw := zac (w := w) (b := w.heap.size) (.cells #[.string (mkB s)] 9) rfl
 have hcw : (w.alloc (.cells #[.string (mkB s)] 9)).cell? ⟨w.heap.size, 0, none⟩ = some (.string (mkB s)) := by rw [cell_of_row _ _ 0 _ _ _ hkw]; rfl
 have HO := Lib.hid (one_any (hr.mono hbw) hn k last 77 #[.pointer (some ⟨w.heap.size, 0, none⟩)] (wordT s) (enters_of Tryz.func77 (by kernel_rfl) rfl) (fun W hW x f t => pword1_any (cell?_keep hW hcw) x f t))
 have HBW := Lib.hid hbw
 generalize oneW (wordT s) (zaf bs k last) = R at *
 obtain ⟨x, f, t, er⟩ := R
 unfold OneEnd tokN at HO
 unfold zea
 simp only at HO ⊢
 clear hr hn hbw hkw hcw
 generalize x.kind = xk at *
 generalize x.vk = xvk at *
 generalize x.vn = xvn at *
 generalize mkB x.vs = xvb at *
 generalize mkB x.s = xb at *
 generalize bs.length = L at *
 generalize mkB s = sb at *
 go_enter Tryz.func43, Tryz.ntmps43
 go_upto_region 1 with fail
 obtain ⟨B, hB⟩ : ∃ B, B = w.heap.size := ⟨_, rfl⟩
 rw [← hB] at HO ⊢
 have HBB := Lib.hid (Nat.le_of_eq hB.symm)
 clear hB
 generalize w.alloc _ = W1 at *
 go_wp2_with fail
 refine HO.out.mono ?_
 rintro e w2 ⟨rfl, hb2⟩
 have HB2 := Lib.hid (HBW.out.trans ((hb2.alloc hb2.size (.cells #[.int .i64 xk, .int .i64 f, .int .i64 t, .int .i64 xvk, .int .i64 xvn, .string xvb, .slice none 0 0, .string xb] 150)).mono HBW.out.size))
 have HT2 := Lib.hid (zac (w := w2) (b := w2.heap.size) (.cells #[.int .i64 xk, .int .i64 f, .int .i64 t, .int .i64 xvk, .int .i64 xvn, .string xvb, .slice none 0 0, .string xb] 150) rfl)
 clear hb2 HO
 go_upto_region 2 with fail
 obtain ⟨r2, hr2⟩ : ∃ r2, r2 = w2.heap.size := ⟨_, rfl⟩
 rw [← hr2] at HT2 ⊢
 clear hr2
 generalize w2.alloc _ = W2 at *
 obtain ⟨⟨t0, t1, t2, t3, t4, t5, t6, t7⟩, -⟩ := zan HT2.out
 go_wp2
 go_ret2
 exact ⟨rfl, HB2.out⟩
theorem oneX_le {bs : List UInt8} {last : Bool} {k : Int} {p : Tk → Bool} (h : (oneX p (zaf bs k last)).2 = 0) : 0 ≤ (oneX p (zaf bs k last)).1 ∧ (oneX p (zaf bs k last)).1 ≤ bs.length := by
 by_cases hk : k < 0 ∨ (bs.length : Int) < k
 · unfold oneX zaf at h
   rw [if_pos hk] at h
   simp at h
 · obtain ⟨h1, h2⟩ := zaK (bs := bs) (k := k) last (by omega) (by omega)
   unfold oneX at h ⊢
   split
   · exact ⟨Int.le_refl _, by show (0 : Int) ≤ _; omega⟩
   · split
     · exact ⟨Int.le_refl _, by show (0 : Int) ≤ _; omega⟩
     · split
       · exact ⟨Int.le_refl _, by show (0 : Int) ≤ _; omega⟩
       · exact ⟨by show (0 : Int) ≤ (zaf bs k last).2.2.1; omega, h2⟩
theorem grps_le {bs : List UInt8} {last : Bool} : ∀ (g : Nat) (gs : List Grp) (k : Int), gs.length + g = 65 → 0 ≤ k → k ≤ bs.length → 0 ≤ (zaX bs last g gs k).2.1 ∧ (zaX bs last g gs k).2.1 ≤ bs.length
 | 0, _, _, _, _, _ => ⟨Int.le_refl _, by show (0 : Int) ≤ _; omega⟩
 | g + 1, gs, k, hg, h0, h1 => by
   have hto := zaK (bs := bs) (k := k) last h0 h1
   rw [← nxt_3] at hto
   by_cases he : (nxtV bs last k).2.2.2 = 0
   case neg => rw [grps_err he]; exact ⟨Int.le_refl _, by show (0 : Int) ≤ _; omega⟩
   cases ht : zc0 (nxtV bs last k).1 with
   | true => rw [zeT he ht]; exact ⟨by show (0 : Int) ≤ (nxtV bs last k).2.2.1; omega, hto.2⟩
   | false =>
     by_cases hl : gs.length = 64
     · cases hw : zay (nxtV bs last k).1 with
       | false => rw [grps_bad he ht hw]; exact ⟨Int.le_refl _, by show (0 : Int) ≤ _; omega⟩
       | true => rw [grps_full he ht hw hl]; exact ⟨Int.le_refl _, by show (0 : Int) ≤ _; omega⟩
     · rw [grps_step he ht hl]
       split
       · exact ⟨Int.le_refl _, by show (0 : Int) ≤ _; omega⟩
       · obtain ⟨g1, g2⟩ := grp1_le (bs := bs) (last := last) (x := (nxtV bs last k).1) (k := (nxtV bs last k).2.2.1) (by omega) hto.2
         exact grps_le g _ _ (by rw [List.length_append]; simp; omega) g1 g2
theorem oneW_X (p : Tk → Bool) (V : Tk × Int × Int × Int) : (oneW p V).2.2.1 = (oneX p V).1 ∧ (oneW p V).2.2.2 = (oneX p V).2 := by
 unfold oneW oneX
 split
 · exact ⟨rfl, rfl⟩
 · split
   · exact ⟨rfl, rfl⟩
   · split
     · exact ⟨rfl, rfl⟩
     · exact ⟨rfl, rfl⟩
theorem set5 {w : World} {b : Nat} {x0 x1 x2 x3 x4 : Value} {t : TypeId} (h : w.heap[b]? = some (.cells #[x0, x1, x2, x3, x4] t (0, 0))) (y0 y1 y2 y3 y4 : Value) :
   (((((w.setCell ⟨b, 0, none⟩ y0).setCell ⟨b, 1, none⟩ y1).setCell ⟨b, 2, none⟩ y2).setCell ⟨b, 3, none⟩ y3).setCell ⟨b, 4, none⟩ y4).heap[b]? = some (.cells #[y0, y1, y2, y3, y4] t (0, 0)) := by
 rw [heap_setCell_same _ _ 4 _ _ _ (heap_setCell_same _ _ 3 _ _ _ (heap_setCell_same _ _ 2 _ _ _ (heap_setCell_same _ _ 1 _ _ _ (heap_setCell_same w _ 0 _ _ _ h))))]; rfl
theorem zbQ {B : Nat} {w0 w : World} (h : Below B w0 w) {b : Nat} (hb : B ≤ b) (y0 y1 y2 y3 y4 : Value) : Below B w0 (((((w.setCell ⟨b, 0, none⟩ y0).setCell ⟨b, 1, none⟩ y1).setCell ⟨b, 2, none⟩ y2).setCell ⟨b, 3, none⟩ y3).setCell ⟨b, 4, none⟩ y4) :=
 ((((h.setCell hb _).setCell hb _).setCell hb _).setCell hb _).setCell hb _
theorem zcC {w : World} {b : Nat} {x0 x1 x2 x3 x4 : Value} {t : TypeId} (h : w.heap[b]? = some (.cells #[x0, x1, x2, x3, x4] t (0, 0))) :
   (w.cell? ⟨b, 0, none⟩ = some x0 ∧ w.cell? ⟨b, 1, none⟩ = some x1 ∧ w.cell? ⟨b, 2, none⟩ = some x2 ∧ w.cell? ⟨b, 3, none⟩ = some x3 ∧ w.cell? ⟨b, 4, none⟩ = some x4) ∧
   (w.frozen? ⟨b, 0, none⟩ = false ∧ w.frozen? ⟨b, 1, none⟩ = false ∧ w.frozen? ⟨b, 2, none⟩ = false ∧ w.frozen? ⟨b, 3, none⟩ = false ∧ w.frozen? ⟨b, 4, none⟩ = false) := by
 refine ⟨⟨?_, ?_, ?_, ?_, ?_⟩, frozen_of_row w b 0 _ _ h, frozen_of_row w b 1 _ _ h, frozen_of_row w b 2 _ _ h, frozen_of_row w b 3 _ _ h, frozen_of_row w b 4 _ _ h⟩
 · rw [cell_of_row w b 0 _ _ _ h]; rfl
 · rw [cell_of_row w b 1 _ _ _ h]; rfl
 · rw [cell_of_row w b 2 _ _ _ h]; rfl
 · rw [cell_of_row w b 3 _ _ _ h]; rfl
 · rw [cell_of_row w b 4 _ _ _ h]; rfl
theorem sec_set5 {W : World} {s : Sec} {gv sl : Value} {B r : Nat} (h : zbC W (fun b => B ≤ b) s gv sl) (hr : r < B) (y0 y1 y2 y3 y4 : Value) :
   zbC (((((W.setCell ⟨r, 0, none⟩ y0).setCell ⟨r, 1, none⟩ y1).setCell ⟨r, 2, none⟩ y2).setCell ⟨r, 3, none⟩ y3).setCell ⟨r, 4, none⟩ y4) (fun b => B ≤ b) s gv sl :=
 h.keep ⟨by simp [World.setCell], fun b _ hF => by
   have hb : b ≠ r := by omega
   rw [heap_setCell_other _ _ _ _ hb, heap_setCell_other _ _ _ _ hb, heap_setCell_other _ _ _ _ hb, heap_setCell_other _ _ _ _ hb, heap_setCell_other _ _ _ _ hb]⟩ (fun _ h => h)
theorem zci : (Tryz.prog.info? 29).map (·.size) = some 5 := by kernel_rfl
def zeK (w : World) (V : Sec × Int × Int) (e : Ending) (w' : World) : Prop :=
 ∃ gv sl, e = .returned (.tuple #[secA V.1 gv sl, .int .i64 V.2.1, .int .i64 V.2.2]) ∧ zbC w' (fun b => w.heap.size ≤ b) V.1 gv sl ∧ Below w.heap.size w w'
theorem sec_no {w W : World} {V : Sec × Int × Int} {e : Int} (hV : V = (Sec.none, 0, e)) {r : Nat} (hb : Below w.heap.size w W) (hr : w.heap.size ≤ r) (y0 y1 y2 y3 y4 : Value) :
   zeK w V (.returned (.tuple #[.agg #[.slice none 0 0, .int .i64 0, .int .i64 0, .string ⟨#[]⟩, .slice none 0 0], .int .i64 0, .int .i64 e])) (((((W.setCell ⟨r, 0, none⟩ y0).setCell ⟨r, 1, none⟩ y1).setCell ⟨r, 2, none⟩ y2).setCell ⟨r, 3, none⟩ y3).setCell ⟨r, 4, none⟩ y4) := by
 subst hV
 exact ⟨_, _, rfl, zdg _ _, zbQ hb hr _ _ _ _ _⟩
theorem xparse_any {w : World} {a : Option Addr} {cap : Nat} {bs : List UInt8} (hr : Row w 1 a bs.length cap (bs.map u8C)) (hn : bs.length ≤ 390000) (k : Int) (last : Bool) :
   Calls Tryz.prog 11 #[.slice a bs.length cap, .int .i64 k, .bool last] w (zeK w (secV bs last k)) := by
 have HW := Lib.hid (fun (W : World) (h : Below w.heap.size w W) => pword12_any (hr.mono h) (by omega) k last [120, 114, 101, 102])
 have HOL := Lib.hid (fun h => oneX_le (bs := bs) (last := last) (k := k) (p := zcW) h)
 obtain ⟨o1, o2⟩ := oneW_X zcW (zaf bs k last)
 unfold zea at HW
 rw [show wordT [120, 114, 101, 102] = zcW from rfl, o1, o2] at HW
 clear o1 o2
 obtain ⟨V, hV⟩ : ∃ V, V = secV bs last k := ⟨_, rfl⟩
 rw [← hV]
 unfold secV at hV
 simp only at hV
 generalize oneX zcW (zaf bs k last) = O at *
 obtain ⟨ot, oe⟩ := O
 simp only at hV HW HOL
 have HGV := Lib.hid (fun (W : World) (w0 : World) (p : Nat) (h : IsRd w0 W p a cap bs last ot) (h1 : 0 ≤ ot) (h2 : ot ≤ bs.length) => xgroups_any h h1 h2)
 have HGE := Lib.hid (fun (h1 : 0 ≤ ot) (h2 : ot ≤ bs.length) => grps_le (bs := bs) (last := last) 65 [] ot rfl h1 h2)
 generalize zaX bs last 65 [] ot = G at *
 obtain ⟨gs, gt, ge⟩ := G
 unfold GsEnd at HGV
 simp only at hV HGV HGE
 have HPV := Lib.hid (fun (W : World) (h : Below w.heap.size w W) (h1 : 0 ≤ gt) (h2 : gt ≤ bs.length) => show Calls Tryz.prog 45 #[.slice a bs.length cap, .int .i64 gt, .bool last] W (DocEnd W (zbb bs last gt)) from value_any (hr.mono h) (by omega) gt last _ (zce h1 h2))
 generalize zbb bs last gt = P at *
 obtain ⟨x, xt, xe⟩ := P
 unfold DocEnd at HPV
 simp only at hV HPV
 have HV := Lib.hid hV
 have HRB := Lib.hid hr
 clear hV hr
 obtain ⟨r, hr⟩ : ∃ r, r = w.heap.size := ⟨_, rfl⟩
 have HZ1 := Lib.hid (zac (w := w) (b := r) (.cells #[.slice none 0 0, .int .i64 0, .int .i64 0, .string ⟨#[]⟩, .slice none 0 0] 29) hr)
 have HB1 := Lib.hid (zah w (.cells #[.slice none 0 0, .int .i64 0, .int .i64 0, .string ⟨#[]⟩, .slice none 0 0] 29))
 have HRW := Lib.hid (Nat.le_of_eq hr.symm)
 go_enter Tryz.func11, Tryz.ntmps11
 go_upto_region 1 with fail
 rw [← hr]
 clear hr
 generalize w.alloc _ = W1 at *
 go_wp2_with fail
 refine (HW.out _ HB1.out).mono ?_
 rintro e w2 ⟨rfl, hb2⟩
 have HZ2 := Lib.hid (zab hb2 HZ1.out)
 have HB2 := Lib.hid (HB1.out.trans (hb2.mono HB1.out.size))
 clear HZ1 HB1 HW hb2
 obtain ⟨⟨z0, z1, z2, z3, z4⟩, y0, y1, y2, y3, y4⟩ := zcC HZ2.out
 by_cases hoe : oe = 0
 case neg =>
   have HV2 := Lib.hid (HV.out.trans (if_pos hoe))
   have e0 : (oe == 0) = false := by rw [beq_eq_false_iff_ne]; exact hoe
   have e1 : (oe != 0) = true := by simp only [bne, e0, Bool.not_false]
   clear hoe
   go_wp2
   refine bodyPost_ret (zao rfl _ _ r 29 _ (0, 0) _ rfl (by exact set5 HZ2.out _ _ _ _ _) Tryz.underlying29 rfl (by exact zci) _ _ rfl rfl) rfl ?_
   exact sec_no HV2.out HB2.out HRW.out _ _ _ _ _
 subst hoe
 have HV2 := Lib.hid (HV.out.trans (if_neg (by simp)))
 obtain ⟨ho1, ho2⟩ := HOL.out rfl
 have HO := Lib.hid (And.intro ho1 ho2)
 clear HV HOL ho1 ho2
 have HI3 := Lib.hid (show IsRd w2 (w2.alloc (.cells #[.slice a bs.length cap, .int .i64 ot, .bool last] 103)) w2.heap.size a cap bs last ot from ⟨zac _ rfl, Nat.le_refl _, HRB.out.mono HB2.out, zah _ _, by omega⟩)
 have HZ3 := Lib.hid (zak (.cells #[.slice a bs.length cap, .int .i64 ot, .bool last] 103) HZ2.out)
 have HB3 := Lib.hid (HB2.out.alloc HB2.out.size (.cells #[.slice a bs.length cap, .int .i64 ot, .bool last] 103))
 have HPR := Lib.hid (show r ≠ w2.heap.size by have := zag HZ2.out; omega)
 clear HZ2 z0 z1 z2 z3 z4 y0 y1 y2 y3 y4
 go_upto_region 5 with fail
 have HP2 := Lib.hid HB2.out.size
 generalize w2.heap.size = p at *
 generalize World.alloc _ _ = W3 at *
 go_wp2_with fail
 refine (HGV.out _ _ _ HI3.out HO.out.1 HO.out.2).mono ?_
 rintro e w4 ⟨gv, rfl, hg4, ⟨at2, hi4, hat⟩, hk4⟩
 have HZ4 := Lib.hid (hk4.obj HZ3.out HPR.out)
 have HB4 := Lib.hid (HB3.out.trans (hk4.below (B := w.heap.size) HB3.out.size (fun b hb => by rw [hb]; exact HP2.out)))
 have HI4 := Lib.hid hi4
 have HG4 := Lib.hid hg4
 have HAT := Lib.hid hat
 have HW3 := Lib.hid (show w.heap.size ≤ W3.heap.size ∧ r < W3.heap.size from ⟨HB3.out.size, zag HZ3.out⟩)
 clear HZ3 HB3 HI3 hk4 hi4 hg4 hat HGV
 obtain ⟨⟨z0, z1, z2, z3, z4⟩, y0, y1, y2, y3, y4⟩ := zcC HZ4.out
 obtain ⟨⟨c0, c1, c2⟩, f0, f1, f2⟩ := HI4.out.cells
 by_cases hge : ge = 0
 case neg =>
   have HV3 := Lib.hid (HV2.out.trans (if_pos hge))
   have e0 : (ge == 0) = false := by rw [beq_eq_false_iff_ne]; exact hge
   have e1 : (ge != 0) = true := by simp only [bne, e0, Bool.not_false]
   clear hge
   go_wp2
   refine bodyPost_ret (zao rfl _ _ r 29 _ (0, 0) _ rfl (by exact set5 HZ4.out _ _ _ _ _) Tryz.underlying29 rfl (by exact zci) _ _ rfl rfl) rfl ?_
   exact sec_no HV3.out HB4.out HRW.out _ _ _ _ _
 subst hge
 have HV3 := Lib.hid (HV2.out.trans (if_neg (by simp)))
 obtain rfl : at2 = gt := HAT.out rfl
 have HGG := Lib.hid (HGE.out HO.out.1 HO.out.2)
 obtain ⟨ga, gc, rfl, -, -, -⟩ := HG4.out.len
 clear HV2 HAT HGE
 go_wp2_with fail
 refine (HPV.out _ HB4.out HGG.out.1 HGG.out.2).mono ?_
 rintro e w5 ⟨sl, rfl, hx5, hb5⟩
 obtain ⟨sa, sc, rfl, -, -, -⟩ := hx5.len
 simp only [pvA]
 have hb5a := hb5.alloc hb5.size (.cells #[.int .i64 x.kind, .int .i64 x.n, .string (mkB x.s), .slice sa x.l.length sc] 27)
 have HT5 := Lib.hid (zac (w := w5) (b := w5.heap.size) (.cells #[.int .i64 x.kind, .int .i64 x.n, .string (mkB x.s), .slice sa x.l.length sc] 27) rfl)
 have HX5 := Lib.hid (hx5.below (zah w5 (.cells #[.int .i64 x.kind, .int .i64 x.n, .string (mkB x.s), .slice sa x.l.length sc] 27)))
 have HG5 := Lib.hid (HG4.out.below hb5a)
 have HZ5 := Lib.hid (zab hb5a HZ4.out)
 have HB5 := Lib.hid (HB4.out.trans (hb5a.mono HB4.out.size))
 have HW4 := Lib.hid (show w.heap.size ≤ w4.heap.size ∧ r < w4.heap.size from ⟨HB4.out.size, zag HZ4.out⟩)
 clear hb5 hb5a hx5 HPV HZ4 HB4 HG4 HI4 z0 z1 z2 z3 z4 y0 y1 y2 y3 y4 c0 c1 c2 f0 f1 f2
 go_upto_region 9 with fail
 generalize w5.heap.size = T at *
 generalize World.alloc _ _ = W5 at *
 obtain ⟨⟨t0, t1, t2, t3⟩, -⟩ := zal HT5.out
 obtain ⟨⟨z0, z1, z2, z3, z4⟩, y0, y1, y2, y3, y4⟩ := zcC HZ5.out
 by_cases hxe : xe = 0
 case neg =>
   have HV4 := Lib.hid (HV3.out.trans (if_pos hxe))
   have e0 : (xe == 0) = false := by rw [beq_eq_false_iff_ne]; exact hxe
   have e1 : (xe != 0) = true := by simp only [bne, e0, Bool.not_false]
   clear hxe HX5 HG5
   go_wp2
   refine bodyPost_ret (zao rfl _ _ r 29 _ (0, 0) _ rfl (by exact set5 HZ5.out _ _ _ _ _) Tryz.underlying29 rfl (by exact zci) _ _ rfl rfl) rfl ?_
   exact sec_no HV4.out HB5.out HRW.out _ _ _ _ _
 subst hxe
 have HV4 := Lib.hid (HV3.out.trans (if_neg (by simp)))
 clear HV3
 by_cases hxk : x.kind = 7
 case neg =>
   have HV5 := Lib.hid (HV4.out.trans (if_pos hxk))
   have e0 : (x.kind == 7) = false := by rw [beq_eq_false_iff_ne]; exact hxk
   have e1 : (x.kind != 7) = true := by simp only [bne, e0, Bool.not_false]
   clear hxk HX5 HG5 HV4
   generalize x.kind = xk at *
   go_wp2
   refine bodyPost_ret (zao rfl _ _ r 29 _ (0, 0) _ rfl (by exact set5 HZ5.out _ _ _ _ _) Tryz.underlying29 rfl (by exact zci) _ _ rfl rfl) rfl ?_
   exact sec_no HV5.out HB5.out HRW.out _ _ _ _ _
 have HV5 := Lib.hid (HV4.out.trans (if_neg (fun h => h hxk)))
 have e0 : (x.kind == 7) = true := by rw [beq_iff_eq]; exact hxk
 have e1 : (x.kind != 7) = false := by simp only [bne, e0, Bool.not_true]
 clear hxk HV4
 have HSC := Lib.hid (show zbC W5 (fun b => W3.heap.size ≤ b ∨ w4.heap.size ≤ b) ⟨gs, x⟩ (.slice ga gs.length gc) (.slice sa x.l.length sc) from ⟨HG5.out.keep (zax.refl _ _) (fun b hb => .inl hb), HX5.out.weaken (fun b hb => .inr hb)⟩)
 have HS2 := Lib.hid (fun y0 y1 y2 y3 y4 => sec_set5 (s := ⟨gs, x⟩) (gv := .slice ga gs.length gc) (sl := .slice sa x.l.length sc) (B := r + 1) (HSC.out.keep (zax.refl _ _) (fun b hb => by have := HW3.out.2; have := HW4.out.2; show r + 1 ≤ b; omega)) (Nat.lt_succ_self r) y0 y1 y2 y3 y4)
 clear HX5 HG5 HSC
 have HPA := Lib.hid (show secA ⟨gs, x⟩ (.slice ga gs.length gc) (.slice sa x.l.length sc) = .agg #[.slice ga gs.length gc, .int .i64 x.kind, .int .i64 x.n, .string (mkB x.s), .slice sa x.l.length sc] from rfl)
 generalize x.kind = xk at *
 generalize x.n = xn at *
 generalize mkB x.s = xb at *
 go_wp2
 refine bodyPost_ret (zao rfl _ _ r 29 _ (0, 0) _ rfl (by exact set5 HZ5.out _ _ _ _ _) Tryz.underlying29 rfl (by exact zci) _ _ rfl rfl) rfl ?_
 rw [HV5.out]
 refine ⟨.slice ga gs.length gc, .slice sa x.l.length sc, by rw [HPA.out]; rfl, ?_, zbQ HB5.out HRW.out _ _ _ _ _⟩
 exact (HS2.out _ _ _ _ _).keep (zax.refl _ _) (fun b hb => by have := HRW.out; show w.heap.size ≤ b; omega)
theorem find_go {gs : List Grp} {c : Nat} {g : Grp} {n : Int} (hg : gs[c]? = some g) (h : ¬ (g.first ≤ n ∧ n - g.first < (g.es.length : Int))) : zcf (gs.drop c) n = zcf (gs.drop (c + 1)) n := by
 obtain ⟨hc, rfl⟩ := List.getElem?_eq_some_iff.1 hg
 rw [List.drop_eq_getElem_cons hc, zcf, if_neg h]
theorem find_hit {gs : List Grp} {c : Nat} {g : Grp} {n : Int} (hg : gs[c]? = some g) (h : g.first ≤ n ∧ n - g.first < (g.es.length : Int)) : zcf (gs.drop c) n = some (g.es.getD (n - g.first).toNat {}) := by
 obtain ⟨hc, rfl⟩ := List.getElem?_eq_some_iff.1 hg
 rw [List.drop_eq_getElem_cons hc, zcf, if_pos h]
def smallG (gs : List Grp) : Prop := ∀ g ∈ gs, -2000000000000000000 ≤ g.first ∧ g.first ≤ 2000000000000000000
theorem xfind_any {w : World} {F : Nat → Prop} {s : Sec} {gv sl : Value} (h : zbC w F s gv sl) (n : Int) (hs : smallG s.gs) (hn0 : -2000000000000000000 ≤ n) (hn1 : n ≤ 2000000000000000000) :
   Calls Tryz.prog 16 #[secA s gv sl, .int .i64 n] w fun e w' => e = .returned (.tuple #[entA (findP (zcf s.gs n)).1, .bool (findP (zcf s.gs n)).2]) ∧ Below w.heap.size w w' := by
 obtain ⟨gs, x⟩ := s
 simp only at hs ⊢
 obtain ⟨ga, gc, rfl, hgc, hgm, -⟩ := h.1.len
 simp only at hgc
 obtain ⟨V, hV⟩ : ∃ V, V = zcf gs n := ⟨_, rfl⟩
 rw [← hV]
 have HV := Lib.hid hV
 have HS := Lib.hid hs
 have HGA := Lib.hid (fun (W : World) (hb : Below w.heap.size w W) => (h.1.below hb))
 simp only at HGA
 clear hV hs
 unfold secA
 simp only
 obtain ⟨sa, sc, rfl, -, -, -⟩ := h.2.len
 simp only at h ⊢
 clear h
 have hg63 : (gs.length : Int) ≤ 9223372036854775807 := by unfold maxLen at hgm; omega
 generalize x.kind = xk at *
 generalize x.n = xn at *
 generalize mkB x.s = xb at *
 generalize x.l.length = xl at *
 obtain ⟨B, hB⟩ : ∃ B, B = w.heap.size := ⟨_, rfl⟩
 have HB1 := Lib.hid (za6 w (.cells #[.slice ga gs.length gc, .int .i64 xk, .int .i64 xn, .string xb, .slice sa xl sc] 29) (.cells #[.int .i64 0, .int .i64 0, .bool false] 44))
 have HX1 := Lib.hid (zak (w := w.alloc (.cells #[.slice ga gs.length gc, .int .i64 xk, .int .i64 xn, .string xb, .slice sa xl sc] 29)) (.cells #[.int .i64 0, .int .i64 0, .bool false] 44) (zac (w := w) (b := B) (.cells #[.slice ga gs.length gc, .int .i64 xk, .int .i64 xn, .string xb, .slice sa xl sc] 29) hB))
 have HZ1 := Lib.hid (zac (w := w.alloc (.cells #[.slice ga gs.length gc, .int .i64 xk, .int .i64 xn, .string xb, .slice sa xl sc] 29)) (b := B + 1) (.cells #[.int .i64 0, .int .i64 0, .bool false] 44) (by rw [zam, hB]))
 have HRW := Lib.hid (show w.heap.size ≤ B + 1 by omega)
 go_enter Tryz.func16, Tryz.ntmps16
 go_upto_region 1 with fail
 try rw [← hB]
 generalize World.alloc _ _ = W1 at *
 clear hB
 generalize B + 1 = r at *
 obtain ⟨⟨x0, x1, x2, x3, x4⟩, -⟩ := zcC HX1.out
 go_wp2_with fail
 clear x0 x1 x2 x3 x4 HX1
 go_loopw [11] (fun v wr => ∃ c : Nat, v = .int .i64 c ∧ c ≤ gs.length ∧ Hid (Below w.heap.size w wr) ∧ Hid (wr.heap[r]? = some (.cells #[.int .i64 0, .int .i64 0, .bool false] 44 (0, 0))) ∧ Hid (V = zcf (gs.drop c) n)) (fun v _ => gs.length - (intOf v).toNat)
 case atStart => exact ⟨0, rfl, Nat.zero_le _, HB1, HZ1, HV⟩
 case round =>
   obtain ⟨c, rfl, hc, HB, HZ, HQ⟩ := hrel
   by_cases hlt : c < gs.length
   · have hcd : decide ((c : Int) < (gs.length : Int)) = true := by simp; omega
     have hcd2 : decide (c < gs.length) = true := by simp; omega
     obtain ⟨-, -, -, b, off, ha, -, -, hat⟩ := (HGA.out wr HB.out).at (by omega)
     subst ha
     obtain ⟨g, hg⟩ : ∃ g, gs[c]? = some g := ⟨_, List.getElem?_eq_getElem hlt⟩
     obtain ⟨v, hv, g0, g1⟩ := hat c g hg
     obtain ⟨ea, ec, rfl, hel, hec, -⟩ := hv.len
     obtain ⟨hs1, hs2⟩ := HS.out g (List.mem_of_getElem? hg)
     have HIE := Lib.hid hv
     have HGO := Lib.hid (fun h => HQ.out.trans (find_go hg h))
     have HHT := Lib.hid (fun h => HQ.out.trans (find_hit hg h))
     have he63 : (g.es.length : Int) ≤ 9223372036854775807 := by unfold maxLen at hec; omega
     clear hat hv hg HQ
     obtain ⟨gf, ge⟩ := g
     simp only at *
     have HBA := Lib.hid (HB.out.alloc HB.out.size (.cells #[.int .i64 gf, .slice ea ge.length ec] 42))
     have HZA := Lib.hid (zak (.cells #[.int .i64 gf, .slice ea ge.length ec] 42) HZ.out)
     by_cases h1 : gf ≤ n
     case neg =>
       have HQ2 := Lib.hid (HGO.out (fun h => h1 h.1))
       have hd : decide (gf ≤ n) = false := decide_eq_false h1
       go_wp2
       go_roundw
       case rel => exact ⟨c + 1, by go_num, by omega, HBA, HZA, HQ2⟩
       case measure => simp [intOf]; omega
     obtain ⟨m, hm⟩ : ∃ m : Nat, n - gf = (m : Int) := ⟨(n - gf).toNat, by omega⟩
     have hd : decide (gf ≤ n) = true := decide_eq_true h1
     by_cases h2 : m < ge.length
     case neg =>
       have HQ2 := Lib.hid (HGO.out (fun h => h2 (by omega)))
       have hd2 : decide (m < ge.length) = false := decide_eq_false h2
       have hd3 : decide ((m : Int) < (ge.length : Int)) = false := decide_eq_false (by omega)
       go_wp2
       go_roundw
       case rel => exact ⟨c + 1, by go_num, by omega, HBA, HZA, HQ2⟩
       case measure => simp [intOf]; omega
     have HQ2 := Lib.hid (HHT.out ⟨h1, by omega⟩)
     rw [hm, Int.toNat_natCast] at HQ2
     obtain ⟨-, -, -, be, oe, hae, hbe, -, hae2⟩ := HIE.out.at (by omega)
     subst hae
     obtain ⟨ee, hee⟩ : ∃ ee, ge[m]? = some ee := ⟨_, List.getElem?_eq_getElem h2⟩
     obtain ⟨e0, e1, e2⟩ := hae2 m ee hee
     have HEE := Lib.hid (show ge.getD m {} = ee by rw [List.getD_eq_getElem?_getD, hee]; rfl)
     rw [HEE.out] at HQ2
     have hd2 : decide (m < ge.length) = true := decide_eq_true h2
     have hd3 : decide ((m : Int) < (ge.length : Int)) = true := decide_eq_true (by omega)
     clear hae2 hee HEE HIE HGO HHT
     have e0 := zaN (.cells #[.int .i64 gf, .slice (some ⟨be, oe, none⟩) ge.length ec] 42) e0
     have e1 := zaN (.cells #[.int .i64 gf, .slice (some ⟨be, oe, none⟩) ge.length ec] 42) e1
     have e2 := zaN (.cells #[.int .i64 gf, .slice (some ⟨be, oe, none⟩) ge.length ec] 42) e2
     obtain ⟨⟨z0, z1, z2⟩, y0, y1, y2⟩ := zd6 HZA.out
     go_wp2
     refine bodyPost_ret (zaa rfl _ _ r 44 _ (0, 0) _ rfl (by exact set3a HZA.out _ _ _) Tryz.underlying44 rfl (by exact zem) _ rfl) rfl ?_
     rw [HQ2.out]
     exact ⟨rfl, ((HBA.out.setCell HRW.out _).setCell HRW.out _).setCell HRW.out _⟩
   · have hce : c = gs.length := by omega
     have hcd : decide ((c : Int) < (gs.length : Int)) = false := decide_eq_false (by omega)
     have hcd2 : decide (c < gs.length) = false := decide_eq_false (by omega)
     have HQ2 := Lib.hid (HQ.out.trans (show zcf (gs.drop c) n = none by rw [hce, List.drop_length]; rfl))
     obtain ⟨⟨z0, z1, z2⟩, y0, y1, y2⟩ := zd6 HZ.out
     clear hce
     go_wp2
     refine bodyPost_ret (zaa rfl _ _ r 44 _ (0, 0) _ rfl (by exact set3a HZ.out _ _ _) Tryz.underlying44 rfl (by exact zem) _ rfl) rfl ?_
     rw [HQ2.out]
     exact ⟨rfl, ((HB.out.setCell HRW.out _).setCell HRW.out _).setCell HRW.out _⟩
structure SmM (w W : World) (B1 B2 : Nat) (c1 c2 : Array Value) : Prop where
 bel : Below w.heap.size w W
 one : W.heap[B1]? = some (.cells c1 33 (0, 0))
 two : W.heap[B2]? = some (.cells c2 33 (0, 0))
theorem SmM.on {w W W' : World} {B1 B2 : Nat} {c1 c2 : Array Value} (h : SmM w W B1 B2 c1 c2) (hb : Below W.heap.size W W') : SmM w W' B1 B2 c1 c2 :=
 ⟨h.bel.trans (hb.mono h.bel.size), zab hb h.one, zab hb h.two⟩
structure GgM (W W' : World) (b1 b2 : Nat) (c1 c2 : Array Value) : Prop where
 bel : Below W.heap.size W W'
 one : W'.heap[b1]? = some (.cells c1 42 (0, 0))
 two : W'.heap[b2]? = some (.cells c2 42 (0, 0))
theorem GgM.on {w W W' : World} {B1 B2 : Nat} {c1 c2 : Array Value} (h : GgM w W B1 B2 c1 c2) (hb : Below W.heap.size W W') : GgM w W' B1 B2 c1 c2 :=
 ⟨h.bel.trans (hb.mono h.bel.size), zab hb h.one, zab hb h.two⟩
theorem row_bsX {w : World} (bs : List UInt8) (t : TypeId) (hb : bs.length ≤ 200) : Row (w.alloc (.cells (bs.map u8C).toArray t (bs.length, bs.length + 1))) 1 (some ⟨w.heap.size, 0, none⟩) bs.length bs.length (bs.map u8C) := by
 refine ⟨by simp, Nat.le_refl _, by unfold maxLen; omega, fun h => (by cases h), fun _ => ⟨_, _, rfl, (by rw [zam]; omega), fun j u hj => ?_⟩⟩
 rw [cell_of_row _ _ _ _ _ _ (zac _ rfl)]
 simpa using hj
theorem zeK.split {w w' : World} {s : Sec} {n e : Int} {en : Ending} (h : zeK w (s, n, e) en w') : ∃ ga gc sa sc, en = .returned (.tuple #[.agg #[.slice ga s.gs.length gc, .int .i64 s.tr.kind, .int .i64 s.tr.n, .string (mkB s.tr.s), .slice sa s.tr.l.length sc], .int .i64 n, .int .i64 e]) ∧
   zbC w' anyF s (.slice ga s.gs.length gc) (.slice sa s.tr.l.length sc) ∧ Below w.heap.size w w' := by
 obtain ⟨gv, sl, rfl, hs, hb⟩ := h
 obtain ⟨ga, gc, rfl, -, -, -⟩ := hs.1.len
 obtain ⟨sa, sc, rfl, -, -, -⟩ := hs.2.len
 exact ⟨ga, gc, sa, sc, rfl, hs.keep (zax.refl _ _) (fun _ _ => trivial), hb⟩
def PlEndX (w : World) (e : Ending) (w' : World) : Prop := e = .returned (.bool true) ∧ Below w.heap.size w w'
structure SrcI (w : World) (p : Nat) (bs : List UInt8) (kn : List Bool) : Prop where
 len : kn.length = bs.length
 total : ∀ W, Below w.heap.size w W → Calls Tryz.prog 54 #[.pointer (some ⟨p, 0, none⟩)] W fun e w' => e = .returned (.int .i64 (bs.length : Nat)) ∧ W = w'
 first : ∀ W, Below w.heap.size w W → ∀ a : Nat, a ≤ bs.length → Calls Tryz.prog 38 #[.pointer (some ⟨p, 0, none⟩), .int .i64 a] W fun e w' => e = .returned (.int .i64 (zaw kn a : Nat)) ∧ Below W.heap.size W w'
 read : ∀ W, Below w.heap.size w W → ∀ (a : Nat) (most : Int), a ≤ bs.length → (bs.length : Int) - a ≤ most → most ≤ 9223372036854775807 →
   Calls Tryz.prog 55 #[.pointer (some ⟨p, 0, none⟩), .int .i64 a, .int .i64 most] W (FromEnd W bs kn a)
theorem SrcI.mono {w w' : World} {p : Nat} {bs : List UInt8} {kn : List Bool} (h : SrcI w p bs kn) (hb : Below w.heap.size w w') : SrcI w' p bs kn :=
 ⟨h.len, fun W hW => h.total W (hb.trans (hW.mono hb.size)), fun W hW => h.first W (hb.trans (hW.mono hb.size)), fun W hW => h.read W (hb.trans (hW.mono hb.size))⟩
def sctV (bs : List UInt8) (kn : List Bool) (a : Nat) : Sec × Int × Int :=
 if (zbf bs kn a).2.2 = 0 then ((zbf bs kn a).1, 0, 0) else if (zbf bs kn a).2.2 = 6 then (Sec.none, (zaw kn a : Nat), 6) else (Sec.none, 0, 20)
theorem section_any {w : World} {p : Nat} {bs : List UInt8} {kn : List Bool} (h : SrcI w p bs kn) (hl : bs.length ≤ 390000) {a : Nat} (ha : a < bs.length) :
   Calls Tryz.prog 62 #[.pointer (some ⟨p, 0, none⟩), .int .i64 a] w (zeK w (sctV bs kn a)) := by
 have HT := Lib.hid h.total
 have HF := Lib.hid (fun W hb => h.first W hb a (Nat.le_of_lt ha))
 have HR := Lib.hid (fun W hb => h.read W hb a (bs.length : Nat) (Nat.le_of_lt ha) (by omega) (by omega))
 have HSC := Lib.hid (show zbf bs kn a = secV ((bs.drop a).take (zaw kn a - a)) (zaw kn a == bs.length) 0 from rfl)
 have HBL := Lib.hid (show ((bs.drop a).take (zaw kn a - a)).length ≤ 390000 by rw [List.length_take, List.length_drop]; omega)
 obtain ⟨V, hV⟩ : ∃ V, V = sctV bs kn a := ⟨_, rfl⟩
 rw [← hV]
 unfold sctV at hV
 rw [HSC.out] at hV
 have HV := Lib.hid hV
 unfold FromEnd at HR
 generalize zaw kn a = n at *
 generalize (bs.drop a).take (n - a) = cs at *
 generalize (n == bs.length) = lst at *
 clear h hV HSC
 obtain ⟨r, hr⟩ : ∃ r, r = w.heap.size := ⟨_, rfl⟩
 have HZ1 := Lib.hid (zac (w := w) (b := r) (.cells #[.slice none 0 0, .int .i64 0, .int .i64 0, .string ⟨#[]⟩, .slice none 0 0] 29) hr)
 have HB1 := Lib.hid (zah w (.cells #[.slice none 0 0, .int .i64 0, .int .i64 0, .string ⟨#[]⟩, .slice none 0 0] 29))
 have HRW := Lib.hid (Nat.le_of_eq hr.symm)
 go_enter Tryz.func62, Tryz.ntmps62
 go_upto_region 1 with fail
 try rw [← hr]
 clear hr
 generalize w.alloc _ = W1 at *
 have HT1 := Lib.hid (HT.out _ HB1.out)
 have HR1 := Lib.hid (HR.out _ HB1.out)
 clear HT HR
 go_wp2_with fail
 refine HT1.out.mono ?_
 rintro e w2 ⟨rfl, rfl⟩
 go_wp2_with fail
 refine HR1.out.mono ?_
 rintro e w2 ⟨ba, bc, rfl, hrow, hb2⟩
 have HZ2 := Lib.hid (zab hb2 HZ1.out)
 have HB2 := Lib.hid (HB1.out.trans (hb2.mono HB1.out.size))
 have HP := Lib.hid (xparse_any hrow HBL.out 0 lst)
 clear hb2 hrow HZ1 HB1 HT1 HR1
 go_wp2_with fail
 generalize secV cs lst 0 = S at *
 obtain ⟨s, o, er⟩ := S
 refine HP.out.mono ?_
 rintro e w3 ⟨gv, sl, rfl, hs, hb3⟩
 obtain ⟨ga, gc, rfl, -, -, -⟩ := hs.1.len
 obtain ⟨sa, sc, rfl, -, -, -⟩ := hs.2.len
 simp only [secA] at hs ⊢
 simp only at HV
 have hb3a := hb3.alloc hb3.size (.cells #[.slice ga s.gs.length gc, .int .i64 s.tr.kind, .int .i64 s.tr.n, .string (mkB s.tr.s), .slice sa s.tr.l.length sc] 29)
 have HT3 := Lib.hid (zac (w := w3) (b := w3.heap.size) (.cells #[.slice ga s.gs.length gc, .int .i64 s.tr.kind, .int .i64 s.tr.n, .string (mkB s.tr.s), .slice sa s.tr.l.length sc] 29) rfl)
 have HS3 := Lib.hid (hs.below (zah w3 (.cells #[.slice ga s.gs.length gc, .int .i64 s.tr.kind, .int .i64 s.tr.n, .string (mkB s.tr.s), .slice sa s.tr.l.length sc] 29)))
 have HZ3 := Lib.hid (zab hb3a HZ2.out)
 have HB3 := Lib.hid (HB2.out.trans (hb3a.mono HB2.out.size))
 have HRL := Lib.hid (zag HZ2.out)
 have HWL := Lib.hid HB2.out.size
 clear hb3 hb3a hs HZ2 HB2 HP
 go_upto_region 3 with fail
 generalize w3.heap.size = T at *
 generalize World.alloc _ _ = W3 at *
 obtain ⟨⟨t0, t1, t2, t3, t4⟩, -⟩ := zcC HT3.out
 obtain ⟨⟨z0, z1, z2, z3, z4⟩, y0, y1, y2, y3, y4⟩ := zcC HZ3.out
 by_cases he : er = 0
 · subst he
   have HV2 := Lib.hid (HV.out.trans (if_pos rfl))
   have HS2 := Lib.hid (fun y0 y1 y2 y3 y4 => sec_set5 HS3.out HRL.out y0 y1 y2 y3 y4)
   have HPA := Lib.hid (show secA s (.slice ga s.gs.length gc) (.slice sa s.tr.l.length sc) = .agg #[.slice ga s.gs.length gc, .int .i64 s.tr.kind, .int .i64 s.tr.n, .string (mkB s.tr.s), .slice sa s.tr.l.length sc] from rfl)
   clear HV HF
   generalize s.tr.kind = xk at *
   generalize s.tr.n = xn at *
   generalize mkB s.tr.s = xb at *
   go_wp2
   refine bodyPost_ret (zao rfl _ _ r 29 _ (0, 0) _ rfl (by exact set5 HZ3.out _ _ _ _ _) Tryz.underlying29 rfl (by exact zci) _ _ rfl rfl) rfl ?_
   rw [HV2.out]
   refine ⟨.slice ga s.gs.length gc, .slice sa s.tr.l.length sc, by rw [HPA.out]; rfl, ?_, zbQ HB3.out HRW.out _ _ _ _ _⟩
   exact (HS2.out _ _ _ _ _).keep (zax.refl _ _) (fun b hb => Nat.le_trans HWL.out hb)
 have HV2 := Lib.hid (HV.out.trans (if_neg he))
 have e0 : (er == 0) = false := by rw [beq_eq_false_iff_ne]; exact he
 clear HV he HS3
 by_cases h6 : er = 6
 · subst h6
   have HV3 := Lib.hid (HV2.out.trans (if_pos rfl))
   have HF2 := Lib.hid (HF.out _ HB3.out)
   clear HV2 HF
   go_wp2_with fail
   refine HF2.out.mono ?_
   rintro e w4 ⟨rfl, hb4⟩
   have HZ4 := Lib.hid (zab hb4 HZ3.out)
   have HB4 := Lib.hid (HB3.out.trans (hb4.mono HB3.out.size))
   clear hb4 HZ3 HB3 HT3 t0 t1 t2 t3 t4 z0 z1 z2 z3 z4 y0 y1 y2 y3 y4
   obtain ⟨⟨z0, z1, z2, z3, z4⟩, y0, y1, y2, y3, y4⟩ := zcC HZ4.out
   go_wp2
   refine bodyPost_ret (zao rfl _ _ r 29 _ (0, 0) _ rfl (by exact set5 HZ4.out _ _ _ _ _) Tryz.underlying29 rfl (by exact zci) _ _ rfl rfl) rfl ?_
   rw [HV3.out]
   exact ⟨_, _, rfl, zdg _ _, zbQ HB4.out HRW.out _ _ _ _ _⟩
 · have e6 : (er == 6) = false := by rw [beq_eq_false_iff_ne]; exact h6
   have HV3 := Lib.hid (HV2.out.trans (if_neg h6))
   clear HV2 HF h6
   go_wp2
   refine bodyPost_ret (zao rfl _ _ r 29 _ (0, 0) _ rfl (by exact set5 HZ3.out _ _ _ _ _) Tryz.underlying29 rfl (by exact zci) _ _ rfl rfl) rfl ?_
   rw [HV3.out]
   exact ⟨_, _, rfl, zdg _ _, zbQ HB3.out HRW.out _ _ _ _ _⟩
def IsSs (w : World) (F : Nat → Prop) : List Sec → List Value → Prop
 | [], cs => cs = []
 | s :: l, cs => ∃ gv sl t, cs = secC s gv sl ++ t ∧ zbC w F s gv sl ∧ IsSs w F l t
theorem IsSs.keep {w w' : World} {F G : Nat → Prop} (hk : zax F w w') (hG : ∀ b, F b → G b) : ∀ {l : List Sec} {cs : List Value}, IsSs w F l cs → IsSs w' G l cs
 | [], _, h => h
 | _ :: _, _, ⟨gv, sl, t, e, h1, h2⟩ => ⟨gv, sl, t, e, h1.keep hk hG, IsSs.keep hk hG h2⟩
theorem IsSs.length {w : World} {F : Nat → Prop} : ∀ {l : List Sec} {cs : List Value}, IsSs w F l cs → cs.length = l.length * 5
 | [], _, h => by cases h; rfl
 | _ :: _, _, ⟨gv, sl, t, e, _, h2⟩ => by subst e; have := IsSs.length h2; simp [secC, pvC]; omega
theorem IsSs.append {w : World} {F : Nat → Prop} : ∀ {l m : List Sec} {cs ds : List Value}, IsSs w F l cs → IsSs w F m ds → IsSs w F (l ++ m) (cs ++ ds)
 | [], _, _, _, h, hm => by cases h; exact hm
 | _ :: _, _, _, _, ⟨gv, sl, t, e, h1, h2⟩, hm => ⟨gv, sl, t ++ _, by subst e; simp, h1, IsSs.append h2 hm⟩
theorem IsSs.snoc {w : World} {F : Nat → Prop} {l : List Sec} {cs : List Value} (h : IsSs w F l cs) {s : Sec} {gv sl : Value} (hv : zbC w F s gv sl) : IsSs w F (l ++ [s]) (cs ++ secC s gv sl) := h.append ⟨gv, sl, [], by simp, hv, rfl⟩
theorem IsSs.get {w : World} {F : Nat → Prop} : ∀ {l : List Sec} {cs : List Value}, IsSs w F l cs → ∀ (k : Nat) (s : Sec), l[k]? = some s → ∃ gv sl, zbC w F s gv sl ∧ cs[k * 5]? = some gv ∧ cs[k * 5 + 1]? = some (.int .i64 s.tr.kind) ∧ cs[k * 5 + 2]? = some (.int .i64 s.tr.n) ∧ cs[k * 5 + 3]? = some (.string (mkB s.tr.s)) ∧ cs[k * 5 + 4]? = some sl
 | [], _, _, _, _, hk => by simp at hk
 | x :: l, _, ⟨gv, sl, t, e, h1, h2⟩, 0, g, hk => by
   simp at hk; subst hk e
   exact ⟨gv, sl, h1, rfl, rfl, rfl, rfl, rfl⟩
 | x :: l, _, ⟨gv, sl, t, e, h1, h2⟩, k + 1, g, hk => by
   subst e
   obtain ⟨gv2, sl2, h3, e0, e1, e2, e3, e4⟩ := h2.get k g (by simpa using hk)
   have q : ∀ j, (secC x gv sl ++ t)[(k + 1) * 5 + j]? = t[k * 5 + j]? := fun j => by
     rw [show (k + 1) * 5 + j = k * 5 + j + 1 + 1 + 1 + 1 + 1 by omega]; simp [secC, pvC]
   have q0 := q 0
   rw [Nat.add_zero, Nat.add_zero] at q0
   exact ⟨gv2, sl2, h3, q0.trans e0, (q 1).trans e1, (q 2).trans e2, (q 3).trans e3, (q 4).trans e4⟩
theorem IsE.ltw {W : World} {es : List Ent} {sv : Value} {F : Nat → Prop} (h : IsE W F es sv) : IsE W (fun b => F b ∧ b < W.heap.size) es sv := by
 obtain ⟨a, cap, e, hr, hF⟩ := h
 exact ⟨a, cap, e, hr, fun h0 x hx => ⟨hF h0 x hx, hr.lt h0 x hx⟩⟩
theorem IsGs.ltw {W : World} {F : Nat → Prop} : ∀ {gs : List Grp} {cs : List Value}, IsGs W F gs cs → IsGs W (fun b => F b ∧ b < W.heap.size) gs cs
 | [], _, h => h
 | _ :: _, _, ⟨v, t, e, h1, h2⟩ => ⟨v, t, e, h1.ltw, h2.ltw⟩
theorem IsG.ltw {W : World} {F : Nat → Prop} {gs : List Grp} {v : Value} (h : IsG W F gs v) : IsG W (fun b => F b ∧ b < W.heap.size) gs v := by
 obtain ⟨a, cap, cs, e, hr, hF, hs⟩ := h
 exact ⟨a, cap, cs, e, hr, fun h0 x hx => ⟨hF h0 x hx, hr.lt h0 x hx⟩, hs.ltw⟩
theorem zbC.ltw {W : World} {F : Nat → Prop} {s : Sec} {gv sl : Value} (h : zbC W F s gv sl) : zbC W (fun b => F b ∧ b < W.heap.size) s gv sl := ⟨h.1.ltw, IsV.lt _ h.2⟩
theorem IsSs.ltw {W : World} {F : Nat → Prop} : ∀ {l : List Sec} {cs : List Value}, IsSs W F l cs → IsSs W (fun b => F b ∧ b < W.heap.size) l cs
 | [], _, h => h
 | _ :: _, _, ⟨gv, sl, t, e, h1, h2⟩ => ⟨gv, sl, t, e, h1.ltw, h2.ltw⟩
structure SsM (t : TypeId) (w W : World) (X : Nat → Prop) (l : List Sec) (cs : List Value) (v : Value) : Prop where
 own : W.ownsRow w.heap.size t 5 v l.length cs
 hold : IsSs W (fun b => w.heap.size ≤ b ∧ v.ownBlock ≠ some b ∧ ¬ X b) l cs
theorem SsM.nil (t : TypeId) (w W : World) (X : Nat → Prop) : SsM t w W X [] [] (.slice none 0 0) := ⟨World.ownsRow_nil _ _ _ _, rfl⟩
theorem SsM.on {t : TypeId} {w W W' : World} {X Y : Nat → Prop} {l : List Sec} {cs : List Value} {v : Value} (h : SsM t w W X l cs v) (hk : zad Y W W') (hY : ∀ b, Y b → w.heap.size ≤ b → X b) (hv : ∀ b, v.ownBlock = some b → ¬ Y b) : SsM t w W' X l cs v :=
 ⟨zaG h.own fun b hb => hk.block b (h.own.lt b hb).2 (hv b hb), h.hold.keep ⟨hk.size, fun b hb hF => hk.block b hb (fun e => hF.2.2 (hY b e hF.1))⟩ (fun _ h => h)⟩
theorem SsM.below {t : TypeId} {w W W' : World} {X : Nat → Prop} {l : List Sec} {cs : List Value} {v : Value} (h : SsM t w W X l cs v) (hb : Below W.heap.size W W') : SsM t w W' X l cs v :=
 h.on (zaq (S := fun _ => False) hb) (fun _ h _ => h.elim) (fun _ _ h => h)
theorem SsM.app {t : TypeId} {w W W8 : World} {X : Nat → Prop} {o : Obj} {l : List Sec} {cs : List Value} {v v' : Value} (h : SsM t w W X l cs v) (hg8 : (W.alloc o).grownBy W8 v.ownBlock) {s : Sec} {gv sl : Value} {B : Nat} (he : zbC W (fun b => B ≤ b) s gv sl) (hB : w.heap.size ≤ B) (hv : ∀ b, v.ownBlock = some b → b < B) (hX : ∀ b, X b → b < B)
   (hO : W8.ownsRow w.heap.size t 5 v' (l.length + 1) (cs ++ secC s gv sl)) (hn : ∀ b, v'.ownBlock = some b → v.ownBlock = some b ∨ (W.alloc o).heap.size ≤ b) : SsM t w W8 X (l ++ [s]) (cs ++ secC s gv sl) v' := by
 have hst : zax (fun b => v.ownBlock ≠ some b ∧ b < W.heap.size) W W8 := ⟨by have := hg8.size; rw [zam] at this; omega, fun b hb hF => by
   rw [hg8.block b (by rw [zam]; omega) (fun e => hF.1 e.symm)]
   exact (zb1 W o hb)⟩
 refine ⟨by rw [List.length_append]; exact hO, ?_⟩
 have hnew : ∀ b, b < W.heap.size → v.ownBlock ≠ some b → v'.ownBlock ≠ some b := fun b hb hne e => by
   rcases hn b e with h1 | h1
   · exact hne h1
   · rw [zam] at h1; omega
 refine IsSs.snoc ?_ ?_
 · have h3 : IsSs W8 (fun b => (w.heap.size ≤ b ∧ v.ownBlock ≠ some b ∧ ¬ X b) ∧ b < W.heap.size) l cs := h.hold.ltw.keep ⟨hst.1, fun b hb hF => hst.2 b hb ⟨hF.1.2.1, hF.2⟩⟩ (fun _ h => h)
   exact h3.keep (zax.refl _ _) (fun b hb => ⟨hb.1.1, hnew b hb.2 hb.1.2.1, hb.1.2.2⟩)
 · have hne : ∀ b, B ≤ b → v.ownBlock ≠ some b := fun b hb e => by have := hv b e; omega
   have h3 : zbC W8 (fun b => B ≤ b ∧ b < W.heap.size) s gv sl := he.ltw.keep ⟨hst.1, fun b hb hF => hst.2 b hb ⟨hne b hF.1, hF.2⟩⟩ (fun _ h => h)
   exact h3.keep (zax.refl _ _) (fun b hb => ⟨Nat.le_trans hB hb.1, hnew b hb.2 (hne b hb.1), fun hx => by have := hX b hx; omega⟩)
def IsL (w : World) (F : Nat → Prop) (l : List Sec) (v : Value) : Prop := ∃ a cap cs, v = .slice a l.length cap ∧ Row w 5 a l.length cap cs ∧ (0 < l.length → ∀ x, a = some x → F x.block) ∧ IsSs w F l cs
theorem SsM.fin {t : TypeId} {w W : World} {X : Nat → Prop} {l : List Sec} {cs : List Value} {v : Value} (h : SsM t w W X l cs v) : IsL W (fun b => w.heap.size ≤ b) l v := by
 obtain ⟨a, cap, e, -, -⟩ := zau h.own
 subst e
 exact ⟨a, cap, cs, rfl, (Row.of_own h.own).2, fun h0 x hx => (h.own.lt x.block (by rw [hx]; rfl)).1, h.hold.keep (zax.refl _ _) (fun b hb => hb.1)⟩
theorem IsL.nil (w : World) (F : Nat → Prop) : IsL w F [] (.slice none 0 0) := ⟨none, 0, [], rfl, Row.nil w 5, fun h => (by cases h), rfl⟩
theorem IsL.keep {w w' : World} {F G : Nat → Prop} (hk : zax F w w') (hG : ∀ b, F b → G b) {l : List Sec} {v : Value} (h : IsL w F l v) : IsL w' G l v := by
 obtain ⟨a, cap, cs, e, hr, hF, hs⟩ := h
 exact ⟨a, cap, cs, e, hr.stays hk hF, fun h0 x hx => hG _ (hF h0 x hx), hs.keep hk hG⟩
theorem IsL.below {w w' : World} {F : Nat → Prop} {l : List Sec} {v : Value} (h : IsL w F l v) (hb : Below w.heap.size w w') : IsL w' F l v := h.keep (zax.of_below hb) (fun _ h => h)
theorem IsL.len {w : World} {F : Nat → Prop} {l : List Sec} {v : Value} (h : IsL w F l v) : ∃ a cap, v = .slice a l.length cap ∧ l.length ≤ cap ∧ cap ≤ maxLen ∧ (a = none → cap = 0) := by
 obtain ⟨a, cap, cs, e, hr, _⟩ := h
 exact ⟨a, cap, e, hr.2.1, hr.2.2.1, hr.2.2.2.1⟩
theorem IsL.at {w : World} {F : Nat → Prop} {l : List Sec} {a : Option Addr} {n cap : Nat} (h : IsL w F l (.slice a n cap)) (hn : 0 < n) :
   n = l.length ∧ n ≤ cap ∧ cap ≤ maxLen ∧ ∃ b off, a = some ⟨b, off, none⟩ ∧ b < w.heap.size ∧ F b ∧ ∀ k s, l[k]? = some s → ∃ gv sl, zbC w F s gv sl ∧ w.cell? ⟨b, off + k * 5, none⟩ = some gv ∧ w.cell? ⟨b, off + k * 5 + 1, none⟩ = some (.int .i64 s.tr.kind) ∧
     w.cell? ⟨b, off + k * 5 + 2, none⟩ = some (.int .i64 s.tr.n) ∧ w.cell? ⟨b, off + k * 5 + 3, none⟩ = some (.string (mkB s.tr.s)) ∧ w.cell? ⟨b, off + k * 5 + 4, none⟩ = some sl := by
 obtain ⟨a', cap', cs, e, hr, hF, hs⟩ := h
 simp only [Value.slice.injEq] at e
 obtain ⟨rfl, rfl, rfl⟩ := e
 obtain ⟨b, off, rfl, hb, hc⟩ := hr.2.2.2.2 hn
 refine ⟨rfl, hr.2.1, hr.2.2.1, b, off, rfl, hb, hF hn _ rfl, fun k s hk => ?_⟩
 obtain ⟨gv, sl, h1, e0, e1, e2, e3, e4⟩ := hs.get k s hk
 exact ⟨gv, sl, h1, hc _ _ e0, (Nat.add_assoc off (k * 5) 1).symm ▸ hc _ _ e1, (Nat.add_assoc off (k * 5) 2).symm ▸ hc _ _ e2, (Nat.add_assoc off (k * 5) 3).symm ▸ hc _ _ e3, (Nat.add_assoc off (k * 5) 4).symm ▸ hc _ _ e4⟩
end Go.Proofs.YtfafdeemfeaedaaGreat
