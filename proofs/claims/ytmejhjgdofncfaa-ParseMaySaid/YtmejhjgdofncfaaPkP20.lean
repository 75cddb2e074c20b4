/-
  Our texts PsC to PsE, in one.
-/
import Derived.Test.YtmejhjgdofncfaaPkP19
import Derived.Deep.RegionLaw
/-
  Walks of layer 12: a token is taken.
-/
namespace Go.Proofs.Ytmejhjgdofncfaa
open Go.RowKit

section
variable {w0 w w' : World} {F F' G : Nat → Prop} {p : Nat} {a : Option Addr} {cap : Nat} {bs : List UInt8} {last : Bool} {st : List Lv} {at_ : Int} {gs : List Nat} {osl : Value}
def PStep (w0 w : World) (F G : Nat → Prop) (p : Nat) (a : Option Addr) (cap : Nat) (bs : List UInt8) (last : Bool) (R : Option PV × List Lv × Int × Int) (e : Ending) (w' : World) : Prop :=
  ∃ F' sa sn sc V, e = .returned (.tuple #[pvA V (.slice sa sn sc), .bool R.1.isSome, .int .i64 R.2.2.2]) ∧ (∀ X, R.1 = some X → V = X ∧ IsV w' F' V (.slice sa sn sc)) ∧ Nxt w0 w F G p a cap bs last R.2.1 R.2.2.1 F' w'
theorem stays_cell {S : Nat → Prop} {w w' : World} (h : Stays S w w') {b o : Nat} {v : Value} (hc : w.cell? ⟨b, o, none⟩ = some v) (hS : S b) : w'.cell? ⟨b, o, none⟩ = some v := by
  rw [World.cell?_of_block (w := w) (a := ⟨b, o, none⟩) (h.2 b (World.block_lt_of_cell? w _ hc) hS)]; exact hc
theorem stays_obj {S : Nat → Prop} {w w' : World} (h : Stays S w w') {b : Nat} {o : Obj} (hc : w.heap[b]? = some o) (hS : S b) : w'.heap[b]? = some o := by
  rw [h.2 b (lt_of_heap hc) hS]; exact hc
def G3 (G : Nat → Prop) (r : Nat) : Nat → Prop := fun b => G b ∨ b = r ∨ b = r + 1 ∨ b = r + 2
/-- The result is written, and more blocks of the call's own were. -/
theorem Nxt.fin3 {W1 W2 : World} {r : Nat} (h : IsStk w0 w F G p a cap bs last st at_ gs osl) (hb : Below w.heap.size w W1) {st2 : List Lv} {at2 : Int} (N : Nxt w0 W1 F (G3 G r) p a cap bs last st2 at2 F' W2) (hr : w.heap.size ≤ r) {k : Nat} (hk : k = r + 1) (y0 y1 y2 y3 : Value) :
    Nxt w0 w F G p a cap bs last st2 at2 F' ((((W2.setCell ⟨k, 0, none⟩ y0).setCell ⟨k, 1, none⟩ y1).setCell ⟨k, 2, none⟩ y2).setCell ⟨k, 3, none⟩ y3) := by
  subst hk
  obtain ⟨gs2, osl2, hs⟩ := N.stk
  have hGl : ∀ b, G b → b < w.heap.size := fun b hb => (h.gb b hb).2
  have hFl : ∀ b, F b → b < w.heap.size := fun b hb => h.Flt hb
  have h1 := hb.size
  have h2 := N.sg.1
  refine ⟨⟨gs2, osl2, (hs.set4 (.inr (.inr (.inl rfl))) _ _ _ _).give fun b hb => .inl hb⟩, ⟨by rw [set4_size]; omega, fun b hb1 hG => ?_⟩, ⟨by rw [set4_size]; omega, fun b hb1 hf => ?_⟩, N.ff⟩
  · rw [set4_heap (by have := hGl b hG; omega), N.sg.2 b (by omega) (.inl hG), hb.block b hb1]
  · rw [set4_heap (by have := hFl b hf; omega), N.sf.2 b (by omega) hf, hb.block b hb1]
/-- The variable v is written, then the result. -/
theorem Nxt.fin34 {W1 W2 : World} {r : Nat} (h : IsStk w0 w F G p a cap bs last st at_ gs osl) (hb : Below w.heap.size w W1) {st2 : List Lv} {at2 : Int} (N : Nxt w0 W1 F (G3 G r) p a cap bs last st2 at2 F' W2) (hr : w.heap.size ≤ r) (y0 y1 y2 y3 z0 z1 z2 z3 : Value) :
    Nxt w0 w F G p a cap bs last st2 at2 F' ((((((((W2.setCell ⟨r + 1 + 1, 0, none⟩ z0).setCell ⟨r + 1 + 1, 1, none⟩ z1).setCell ⟨r + 1 + 1, 2, none⟩ z2).setCell ⟨r + 1 + 1, 3, none⟩ z3).setCell ⟨r + 1, 0, none⟩ y0).setCell ⟨r + 1, 1, none⟩ y1).setCell ⟨r + 1, 2, none⟩ y2).setCell ⟨r + 1, 3, none⟩ y3) := by
  obtain ⟨gs2, osl2, hs⟩ := N.stk
  have hGl : ∀ b, G b → b < w.heap.size := fun b hb => (h.gb b hb).2
  have hFl : ∀ b, F b → b < w.heap.size := fun b hb => h.Flt hb
  have h1 := hb.size
  have h2 := N.sg.1
  refine ⟨⟨gs2, osl2, ((hs.set4 (r := r + 1 + 1) (.inr (.inr (.inr rfl))) _ _ _ _).set4 (.inr (.inr (.inl rfl))) _ _ _ _).give fun b hb => .inl hb⟩, ⟨by rw [set4_size, set4_size]; omega, fun b hb1 hG => ?_⟩, ⟨by rw [set4_size, set4_size]; omega, fun b hb1 hf => ?_⟩, N.ff⟩
  · rw [set4_heap (by have := hGl b hG; omega), set4_heap (by have := hGl b hG; omega), N.sg.2 b (by omega) (.inl hG), hb.block b hb1]
  · rw [set4_heap (by have := hFl b hf; omega), set4_heap (by have := hFl b hf; omega), N.sf.2 b (by omega) hf, hb.block b hb1]
theorem IsV.fin34 {W2 : World} {r : Nat} {st2 : List Lv} {at2 : Int} {v : PV} {sl : Value} (h : IsV W2 F' v sl) (N : Stk w0 W2 F' (G3 G r) p a cap bs last st2 at2) (y0 y1 y2 y3 z0 z1 z2 z3 : Value) :
    IsV ((((((((W2.setCell ⟨r + 1 + 1, 0, none⟩ z0).setCell ⟨r + 1 + 1, 1, none⟩ z1).setCell ⟨r + 1 + 1, 2, none⟩ z2).setCell ⟨r + 1 + 1, 3, none⟩ z3).setCell ⟨r + 1, 0, none⟩ y0).setCell ⟨r + 1, 1, none⟩ y1).setCell ⟨r + 1, 2, none⟩ y2).setCell ⟨r + 1, 3, none⟩ y3) F' v sl := by
  obtain ⟨gs2, osl2, hs⟩ := N
  refine IsV.keep ⟨by rw [set4_size, set4_size]; exact Nat.le_refl _, fun b _ hf => ?_⟩ (fun _ h => h) v h
  have hn := (hs.fb b hf).2.1
  rw [set4_heap (fun e => hn (.inr (.inr (.inl e)))), set4_heap (fun e => hn (.inr (.inr (.inr e))))]
theorem single_leaf (bs : List UInt8) (last : Bool) (st : List Lv) (at_ : Int) (x : Tk) : (singleV bs last st at_ x).1.l = [] := by
  unfold singleV
  split
  · rfl
  · split
    · split
      · rfl
      · rename_i v hv
        unfold wordV at hv
        split at hv
        · cases hv; rfl
        · split at hv
          · cases hv; rfl
          · split at hv
            · cases hv; rfl
            · cases hv
    · split
      · unfold refV
        simp only
        split
        · rfl
        · split
          · rfl
          · split
            · rfl
            · rfl
      · rfl
theorem results_val3 {P : Program} {fn : Func} {p u z : Tmp} {ty : TypeId} (h : fn.results = #[.cell p ty, .tmp u, .tmp z]) (tmps : Array Value) (w : World) (g : Nat) (t : TypeId) (cs : Array Value) (fr : Nat × Nat) (d : TypeDesc)
    (hp : tmps.getD p undef = .pointer (some ⟨g, 0, none⟩)) (hg : w.heap[g]? = some (.cells cs t fr))
    (hu : P.underlying ty = some d) (hd : (match d with | .struct _ | .array _ _ => true | _ => false) = true) (hi : (P.info? ty).map (·.size) = some cs.size) (v v2 : Value) (hv : tmps.getD u undef = v) (hv2 : tmps.getD z undef = v2) :
    (results fn tmps).run P w = .ok (.tuple #[.agg cs, v, v2]) w := by
  simp only [Array.getD_eq_getD_getElem?] at hp hv hv2
  simp [results, h, hp, hv, hv2, asAddr, Result.andThen, run_loadVar_row w g t ty cs fr d hg hu hd hi]

/-- What is read of the call's own blocks. -/
def S5 (w : World) (r : Nat) (kd : Int) : Prop := w.cell? ⟨r, 0, none⟩ = some (.int .i64 kd) ∧ w.cell? ⟨r + 2, 0, none⟩ = some (.int .i64 0) ∧ w.cell? ⟨r + 2, 1, none⟩ = some (.int .i64 0) ∧ w.cell? ⟨r + 2, 2, none⟩ = some (.string ⟨#[]⟩) ∧ w.cell? ⟨r + 2, 3, none⟩ = some (.slice none 0 0)
theorem S5.drew {w : World} {r : Nat} {kd : Int} (h : S5 w r kd) : S5 w.drew r kd := h
theorem S5.stays {w w' : World} {r : Nat} {kd : Int} (h : S5 w r kd) (hs : Stays (G3 G r) w w') : S5 w' r kd := by
  exact ⟨stays_cell hs h.1 (.inr (.inl rfl)), stays_cell hs h.2.1 (.inr (.inr (.inr rfl))), stays_cell hs h.2.2.1 (.inr (.inr (.inr rfl))), stays_cell hs h.2.2.2.1 (.inr (.inr (.inr rfl))), stays_cell hs h.2.2.2.2 (.inr (.inr (.inr rfl)))⟩
theorem S5.set4 {w : World} {r : Nat} {kd : Int} (h : S5 w r kd) (y0 y1 y2 y3 : Value) : S5 ((((w.setCell ⟨r + 1, 0, none⟩ y0).setCell ⟨r + 1, 1, none⟩ y1).setCell ⟨r + 1, 2, none⟩ y2).setCell ⟨r + 1, 3, none⟩ y3) r kd := by
  have g : ∀ b o v, b ≠ r + 1 → w.cell? ⟨b, o, none⟩ = some v → ((((w.setCell ⟨r + 1, 0, none⟩ y0).setCell ⟨r + 1, 1, none⟩ y1).setCell ⟨r + 1, 2, none⟩ y2).setCell ⟨r + 1, 3, none⟩ y3).cell? ⟨b, o, none⟩ = some v := fun b o v hb hc => by
    rw [World.cell?_of_block (w := w) (a := ⟨b, o, none⟩) (set4_heap hb _ _ _ _)]; exact hc
  exact ⟨g _ _ _ (by omega) h.1, g _ _ _ (by omega) h.2.1, g _ _ _ (by omega) h.2.2.1, g _ _ _ (by omega) h.2.2.2.1, g _ _ _ (by omega) h.2.2.2.2⟩

set_option maxRecDepth 8000 in
set_option maxHeartbeats 8000000 in
theorem step_any (h : IsStk w0 w F G p a cap bs last st at_ gs osl) (x : Tk) (f t : Int) (hlen : ∀ v ∈ st, v.l.length ≤ 100000) :
    Calls Try.prog 10 #[.pointer (some ⟨p, 0, none⟩), .agg (tokN x f t)] w (PStep w0 w F G p a cap bs last (stepV bs last st at_ x)) := by
  obtain ⟨R, hR⟩ : ∃ R, R = stepV bs last st at_ x := ⟨_, rfl⟩
  rw [← hR]
  have HS := Lib.hid h
  obtain ⟨r, hr⟩ : ∃ r, r = w.heap.size := ⟨_, rfl⟩
  have HRR := Lib.hid hr
  have HB1 := Lib.hid (belowA3 w (.cells (tokN x f t) 40) (.cells #[.int .i64 0, .int .i64 0, .string ⟨#[]⟩, .slice none 0 0] 27) (.cells #[.int .i64 0, .int .i64 0, .string ⟨#[]⟩, .slice none 0 0] 27))
  have h1 := h.res (G' := G3 G r) HB1.out (fun b hb => by
    rw [sizeA, sizeA, sizeA]
    rcases hb with hb | hb | hb | hb
    · exact .inl hb
    · exact .inr (by omega)
    · exact .inr (by omega)
    · exact .inr (by omega))
  have k0 := heapA_old (.cells #[.int .i64 0, .int .i64 0, .string ⟨#[]⟩, .slice none 0 0] 27) (heapA_old (.cells #[.int .i64 0, .int .i64 0, .string ⟨#[]⟩, .slice none 0 0] 27) (heapA_new (w := w) (b := r) (.cells (tokN x f t) 40) hr))
  have k1 := heapA_old (.cells #[.int .i64 0, .int .i64 0, .string ⟨#[]⟩, .slice none 0 0] 27) (heapA_new (w := w.alloc (.cells (tokN x f t) 40)) (b := r + 1) (.cells #[.int .i64 0, .int .i64 0, .string ⟨#[]⟩, .slice none 0 0] 27) (by rw [sizeA, hr]))
  have k2 := heapA_new (w := (w.alloc (.cells (tokN x f t) 40)).alloc (.cells #[.int .i64 0, .int .i64 0, .string ⟨#[]⟩, .slice none 0 0] 27)) (b := r + 2) (.cells #[.int .i64 0, .int .i64 0, .string ⟨#[]⟩, .slice none 0 0] 27) (by rw [sizeA, sizeA, hr])
  have HSG := Lib.hid (fun (W : World) (h : IsStk w0 W F (G3 G r) p a cap bs last st at_ gs osl) => single_any h x f t)
  have hkind : ∃ q0 q1 q2 q3 q4 q5 q6 q7, tokN x f t = #[q0, q1, q2, q3, q4, q5, q6, q7] ∧ q0 = .int .i64 x.kind := ⟨_, _, _, _, _, _, _, _, rfl, rfl⟩
  obtain ⟨q0, q1, q2, q3, q4, q5, q6, q7, htk, rfl⟩ := hkind
  rw [htk] at HB1 h1 k0 k1 k2 HSG ⊢
  have HH1 := Lib.hid h1
  have K0 := Lib.hid k0
  have K1 := Lib.hid k1
  have K2 := Lib.hid k2
  unfold stepV at hR
  have HR := Lib.hid hR
  have HLEN := Lib.hid hlen
  have hpw := h.lt
  have hpr : p ≠ r := by omega
  have hpr1 : p ≠ r + 1 := by omega
  have hpr2 : p ≠ r + 2 := by omega
  have hw0 : w.heap.size ≤ r := by omega
  have HW0 := Lib.hid hw0
  clear h1 k0 k1 k2 h hlen htk hR hpw hw0
  go_enter Try.func10, Try.ntmps10
  go_upto_region 3 with fail
  rw [← hr]
  generalize ((w.alloc _).alloc _).alloc _ = W1 at *
  generalize x.kind = kd at *
  clear hr
  by_cases hk0 : kd = 0
  · subst hk0
    have hR2 := Lib.hid (HR.out.trans (if_pos rfl))
    obtain ⟨⟨c0, -⟩, -⟩ := cells8 K0.out
    obtain ⟨⟨a0, a1, a2, a3⟩, b0, b1, b2, b3⟩ := cells4 K1.out
    obtain ⟨⟨d0, d1, d2, d3⟩, e0, e1, e2, e3⟩ := cells4 K2.out
    go_wp2
    refine bodyPost_ret (results_val3 rfl _ _ (r + 1) 27 _ (0, 0) _ rfl (by exact set4 K1.out _ _ _ _) Try.underlying27 rfl (by exact infoPV) _ _ rfl rfl) rfl ?_
    rw [hR2.out]
    exact ⟨F, none, 0, 0, PV.none, rfl, fun X hX => (by cases hX), Nxt.fin3 HS.out HB1.out (Nxt.refl HH1.out (Below.refl _ _)) HW0.out rfl _ _ _ _⟩
  have hR1 := HR.out.trans (if_neg hk0)
  have e0 : (kd == 0) = false := by rw [beq_eq_false_iff_ne]; exact hk0
  by_cases hk2 : kd = 2 ∨ kd = 4
  · have hR2 := hR1.trans (if_pos hk2)
    obtain ⟨dd, hdd⟩ : ∃ dd, dd = (kd == 4) := ⟨_, rfl⟩
    rw [← hdd] at hR2
    have HR2 := Lib.hid hR2
    have HBG := Lib.hid (begin_any (show IsStk w0 W1.drew F (G3 G r) p a cap bs last st at_ gs osl from HH1.out.drewN 1) dd)
    have HK0 := Lib.hid (show W1.drew.heap[r + 1]? = _ from K1.out)
    clear hR1 hR2 HSG HR
    obtain ⟨⟨c0, -⟩, -⟩ := cells8 K0.out
    obtain ⟨⟨d0, d1, d2, d3⟩, -⟩ := cells4 K2.out
    have HC0 : Hid (S5 W1 r kd) := Lib.hid ⟨c0, d0, d1, d2, d3⟩
    have hgo : ∀ wN, Nxt w0 W1.drew F (G3 G r) p a cap bs last (beginV st dd).1 at_ F wN → ∀ W, W = ((((wN.setCell ⟨r + 1, 0, none⟩ (.int .i64 0)).setCell ⟨r + 1, 1, none⟩ (.int .i64 0)).setCell ⟨r + 1, 2, none⟩ (.string ⟨#[]⟩)).setCell ⟨r + 1, 3, none⟩ (.slice none 0 0)) →
        PStep w0 w F G p a cap bs last R (.returned (.tuple #[.agg #[.int .i64 0, .int .i64 0, .string ⟨#[]⟩, .slice none 0 0], .bool false, .int .i64 (beginV st dd).2])) W := fun wN N W hW => by
      rw [HR2.out, hW]
      exact ⟨F, none, 0, 0, PV.none, rfl, fun X hX => (by cases hX), Nxt.fin3 HS.out HB1.out.drew N HW0.out rfl _ _ _ _⟩
    have HGO := Lib.hid hgo
    have hrr : r + 1 ≠ r := by omega
    clear hgo
    have e4 : (kd == 4) = dd := hdd.symm
    have hcase : (kd == 2) = true ∨ ((kd == 2) = false ∧ dd = true) := by
      rcases hk2 with rfl | rfl
      · exact .inl rfl
      · exact .inr ⟨rfl, hdd⟩
    clear hdd hk2 hk0
    rcases hcase with e2 | ⟨e2, rfl⟩
    all_goals
      go_wp2
      go_region_held3 (fun w' => w'.cell? ⟨r, 0, none⟩ = some (.int .i64 kd) ∧ w'.cell? ⟨r + 2, 0, none⟩ = some (.int .i64 0) ∧ w'.cell? ⟨r + 2, 1, none⟩ = some (.int .i64 0) ∧ w'.cell? ⟨r + 2, 2, none⟩ = some (.string ⟨#[]⟩) ∧ w'.cell? ⟨r + 2, 3, none⟩ = some (.slice none 0 0))
        ((show S5 _ r kd; (first
          | (with_reducible exact HC0.out.drew)
          | (with_reducible exact HC0.out)
          | (with_reducible exact Hid.out (by assumption))
          | (with_reducible exact S5.set4 (Hid.out (by assumption)) _ _ _ _))))
        ((go_at_call 16; (with_reducible refine HBG.out.mono ?_); rintro e wN ⟨rfl, hN⟩; have HSN := Lib.hid (HC0.out.drew.stays hN.sg); have HN := Lib.hid hN; have HK1 := Lib.hid (stays_obj hN.sg HK0.out (.inr (.inr (.inl rfl)))); obtain ⟨⟨a0, a1, a2, a3⟩, b0, b1, b2, b3⟩ := cells4 HK1.out))
      all_goals
        go_wp2
        refine bodyPost_ret (results_val3 rfl _ _ (r + 1) 27 _ (0, 0) _ rfl (by exact set4 HK1.out _ _ _ _) Try.underlying27 rfl (by exact infoPV) _ _ rfl rfl) rfl ?_
        exact HGO.out _ HN.out _ rfl
  have e2 : (kd == 2) = false := by rw [beq_eq_false_iff_ne]; intro e; exact hk2 (.inl e)
  have e4 : (kd == 4) = false := by rw [beq_eq_false_iff_ne]; intro e; exact hk2 (.inr e)
  have hR2 := hR1.trans (if_neg hk2)
  obtain ⟨⟨c0, c1, c2, c3, c4, c5, c6, c7⟩, -⟩ := cells8 K0.out
  have hr12 : r + 1 ≠ r + 2 := by omega
  have hr21 : r + 2 ≠ r + 1 := by omega
  have HFL := Lib.hid (fun b (hb : F b) => (show b < W1.heap.size ∧ b ≠ r + 2 by
    have h1 := HS.out.Flt hb
    have h2 := HB1.out.size
    have h3 := HW0.out
    omega))
  by_cases hk3 : kd = 3 ∨ kd = 5
  · have hR3 := hR2.trans (if_pos hk3)
    obtain ⟨dd, hdd⟩ : ∃ dd, dd = (kd == 5) := ⟨_, rfl⟩
    rw [← hdd] at hR3
    have HR3 := Lib.hid hR3
    have HEN := Lib.hid (end_any HH1.out dd HLEN.out)
    have e5 : (kd == 5) = dd := hdd.symm
    have hcase : (kd == 3) = true ∨ ((kd == 3) = false ∧ dd = true) := by
      rcases hk3 with rfl | rfl
      · exact .inl rfl
      · exact .inr ⟨rfl, hdd⟩
    clear hR1 hR2 hR3 HSG HR hk0 hk2 hk3 hdd c1 c2 c3 c4 c5 c6 c7
    rcases hcase with e3 | ⟨e3, rfl⟩
    all_goals
      go_wp2_with fail
      refine HEN.out.mono ?_
      rintro e wN ⟨F', sl, rfl, hV, hN⟩
      obtain ⟨sa, sc, rfl, -, -, -⟩ := hV.len
      have HN := Lib.hid hN
      have HV := Lib.hid hV
      have HK1 := Lib.hid (stays_obj hN.sg K1.out (.inr (.inr (.inl rfl))))
      have HK2 := Lib.hid (stays_obj hN.sg K2.out (.inr (.inr (.inr rfl))))
      obtain ⟨⟨a0, a1, a2, a3⟩, b0, b1, b2, b3⟩ := cells4 HK1.out
      obtain ⟨⟨d0, d1, d2, d3⟩, g0, g1, g2, g3⟩ := cells4 HK2.out
      clear hN hV c0
      generalize endV12 st _ = Q at *
      obtain ⟨V, st2, er⟩ := Q
      simp only at HR3 HV HN a0
      unfold pvA
      by_cases he : er = 0
      · subst he
        have HR4 := Lib.hid (HR3.out.trans (if_pos rfl))
        go_wp2
        refine bodyPost_ret (results_val3 rfl _ _ (r + 1) 27 _ (0, 0) _ rfl (by exact set4 ((set4_heap hr12 _ _ _ _).trans HK1.out) _ _ _ _) Try.underlying27 rfl (by exact infoPV) _ _ rfl rfl) rfl ?_
        rw [HR4.out]
        exact ⟨F', _, _, _, V, rfl, fun X hX => ⟨Option.some.inj hX, IsV.fin34 HV.out HN.out.stk _ _ _ _ _ _ _ _⟩, Nxt.fin34 HS.out HB1.out HN.out HW0.out _ _ _ _ _ _ _ _⟩
      · have f1 : (er == 0) = false := by rw [beq_eq_false_iff_ne]; exact he
        have HR4 := Lib.hid (HR3.out.trans (if_neg he))
        clear he
        go_wp2
        refine bodyPost_ret (results_val3 rfl _ _ (r + 1) 27 _ (0, 0) _ rfl (by exact set4 ((set4_heap hr12 _ _ _ _).trans HK1.out) _ _ _ _) Try.underlying27 rfl (by exact infoPV) _ _ rfl rfl) rfl ?_
        rw [HR4.out]
        exact ⟨F', _, _, _, V, rfl, fun X hX => (by cases hX), Nxt.fin34 HS.out HB1.out HN.out HW0.out _ _ _ _ _ _ _ _⟩
  have hR3 := hR2.trans (if_neg hk3)
  have e3 : (kd == 3) = false := by rw [beq_eq_false_iff_ne]; intro e; exact hk3 (.inl e)
  have e5 : (kd == 5) = false := by rw [beq_eq_false_iff_ne]; intro e; exact hk3 (.inr e)
  have HR3 := Lib.hid hR3
  have HSX := Lib.hid (HSG.out _ HH1.out)
  have HLF := Lib.hid (single_leaf bs last st at_ x)
  clear hR1 hR2 hR3 HSG HR hk0 hk2 hk3
  go_wp2_with fail
  refine HSX.out.mono ?_
  rintro e wN ⟨he, hs, hkp⟩
  have hN : Nxt w0 W1 F (G3 G r) p a cap bs last st (singleV bs last st at_ x).2.1 F wN := ⟨⟨_, _, hs⟩, ⟨hkp.size, fun b hb hG => hkp.block b hb (fun e => HH1.out.gp (e ▸ hG))⟩, ⟨hkp.size, fun b hb hf => hkp.block b hb (HH1.out.notF hf)⟩, fun _ h => h⟩
  have HN := Lib.hid hN
  have HK1 := Lib.hid (stays_obj hN.sg K1.out (.inr (.inr (.inl rfl))))
  have HK2 := Lib.hid (stays_obj hN.sg K2.out (.inr (.inr (.inr rfl))))
  obtain ⟨⟨a0, a1, a2, a3⟩, b0, b1, b2, b3⟩ := cells4 HK1.out
  obtain ⟨⟨d0, d1, d2, d3⟩, g0, g1, g2, g3⟩ := cells4 HK2.out
  obtain ⟨ao, oc, rfl, ho1, ho2⟩ := owns_slice hs.own
  obtain ⟨⟨p0, p1, p2, p3⟩, -⟩ := hs.cells
  clear hN hs hkp c0 c1 c2 c3 c4 c5 c6 c7 HSX
  generalize singleV bs last st at_ x = Q at *
  obtain ⟨V, at2, er⟩ := Q
  simp only at HR3 HN HLF he p1
  unfold pvA at he
  subst he
  by_cases he : er = 0
  case neg =>
    have f1 : (er == 0) = false := by rw [beq_eq_false_iff_ne]; exact he
    have HR4 := Lib.hid (HR3.out.trans (if_pos he))
    clear he
    go_wp2
    refine bodyPost_ret (results_val3 rfl _ _ (r + 1) 27 _ (0, 0) _ rfl (by exact set4 ((set4_heap hr12 _ _ _ _).trans HK1.out) _ _ _ _) Try.underlying27 rfl (by exact infoPV) _ _ rfl rfl) rfl ?_
    rw [HR4.out]
    exact ⟨F, _, _, _, V, rfl, fun X hX => (by cases hX), Nxt.fin34 HS.out HB1.out HN.out HW0.out _ _ _ _ _ _ _ _⟩
  subst he
  by_cases h64 : 64 ≤ st.length
  · have hd : decide (64 ≤ st.length) = true := decide_eq_true h64
    have hd2 : decide ((64 : Int) ≤ (st.length : Int)) = true := decide_eq_true (by omega)
    have HR4 := Lib.hid ((HR3.out.trans (if_neg (by simp))).trans (if_pos h64))
    clear h64
    go_wp2
    refine bodyPost_ret (results_val3 rfl _ _ (r + 1) 27 _ (0, 0) _ rfl (by exact set4 ((set4_heap hr12 _ _ _ _).trans HK1.out) _ _ _ _) Try.underlying27 rfl (by exact infoPV) _ _ rfl rfl) rfl ?_
    rw [HR4.out]
    exact ⟨F, _, _, _, V, rfl, fun X hX => (by cases hX), Nxt.fin34 HS.out HB1.out HN.out HW0.out _ _ _ _ _ _ _ _⟩
  · have hd : decide (64 ≤ st.length) = false := decide_eq_false h64
    have hd2 : decide ((64 : Int) ≤ (st.length : Int)) = false := decide_eq_false (by omega)
    have HR4 := Lib.hid ((HR3.out.trans (if_neg (by simp))).trans (if_neg h64))
    clear h64
    go_wp2
    refine bodyPost_ret (results_val3 rfl _ _ (r + 1) 27 _ (0, 0) _ rfl (by exact set4 ((set4_heap hr12 _ _ _ _).trans HK1.out) _ _ _ _) Try.underlying27 rfl (by exact infoPV) _ _ rfl rfl) rfl ?_
    rw [HR4.out]
    exact ⟨F, _, _, _, V, rfl, fun X hX => ⟨Option.some.inj hX, IsV.fin34 (IsV.leaf _ _ _ HLF.out) HN.out.stk _ _ _ _ _ _ _ _⟩, Nxt.fin34 HS.out HB1.out HN.out HW0.out _ _ _ _ _ _ _ _⟩
end
end Go.Proofs.Ytmejhjgdofncfaa
/-
  The walk of parse.Value: what holds at the label.
-/
namespace Go.Proofs.Ytmejhjgdofncfaa
open Go.RowKit

/-- What holds at the label: V is what comes of it. -/
structure VAt (w W : World) (F : Nat → Prop) (r p : Nat) (a : Option Addr) (cap : Nat) (bs : List UInt8) (last : Bool) (V : PV × Int × Int) (n : Nat) (st : List Lv) (at_ : Int) : Prop where
  stk : Stk w W F (fun b => b = r) p a cap bs last st at_
  res : W.heap[r]? = some (.cells #[.int .i64 0, .int .i64 0, .string ⟨#[]⟩, .slice none 0 0] 27 (0, 0))
  fuel : valO bs last n st at_ = some V
  len : ∀ v ∈ st, (v.l.length : Int) ≤ at_
  rng : st = [] ∨ (0 ≤ at_ ∧ at_ ≤ bs.length)
def ValI (w : World) (r p : Nat) (a : Option Addr) (cap : Nat) (bs : List UInt8) (last : Bool) (at0 : Int) (V : PV × Int × Int) (n : Nat) (act : Act) (W : World) : Prop :=
  ∃ (F : Nat → Prop) (st : List Lv) (at_ : Int) (u10 u11 u12 u13 u14 u15 u16 u17 u18 u19 u20 u21 u22 u23 u24 u25 u26 u27 u28 u29 u30 u31 u32 u33 u34 u35 u36 u37 u38 u39 u40 u41 u42 u43 u44 u45 u46 u47 u48 u49 u50 u51 u52 u53 u54 u55 u56 u57 u58 u59 u60 u61 : Value), Hid (VAt w W F r p a cap bs last V n st at_) ∧
    act = { tmps := #[.slice a bs.length cap, .int .i64 at0, .bool last, undef, undef, undef, .pointer (some ⟨r, 0, none⟩), .int .i64 0, .int .i64 0, .pointer (some ⟨p, 0, none⟩), u10, u11, u12, u13, u14, u15, u16, u17, u18, u19, u20, u21, u22, u23, u24, u25, u26, u27, u28, u29, u30, u31, u32, u33, u34, u35, u36, u37, u38, u39, u40, u41, u42, u43, u44, u45, u46, u47, u48, u49, u50, u51, u52, u53, u54, u55, u56, u57, u58, u59, u60, u61], defers := [] }
/-- What Value leaves. -/
def ValEnd (w : World) (V : PV × Int × Int) (e : Ending) (w' : World) : Prop :=
  ∃ sl, e = .returned (.tuple #[pvA V.1 sl, .int .i64 V.2.1, .int .i64 V.2.2]) ∧ IsV w' anyF V.1 sl ∧ Below w.heap.size w w'
theorem VAt.small {w W : World} {F : Nat → Prop} {r p : Nat} {a : Option Addr} {cap : Nat} {bs : List UInt8} {last : Bool} {V : PV × Int × Int} {n : Nat} {st : List Lv} {at_ : Int} (h : VAt w W F r p a cap bs last V n st at_) : ∀ v ∈ st, v.l.length ≤ 100000 := by
  intro v hv
  obtain ⟨gs, osl, hs⟩ := h.stk
  have := h.len v hv
  have hsm := hs.small
  rcases h.rng with h0 | h0
  · subst h0; cases hv
  · omega
theorem stepV_len {bs : List UInt8} {last : Bool} {st : List Lv} {k : Int} {t : Tk} {N : Int} (hN : 0 ≤ N) (h : ∀ v ∈ st, (v.l.length : Int) ≤ N) : ∀ v ∈ (stepV bs last st k t).2.1, (v.l.length : Int) ≤ N := by
  unfold stepV
  split
  · exact h
  · split
    · show ∀ v ∈ (beginV st _).1, _
      unfold beginV
      split
      · exact h
      · split
        · exact h
        · intro v hv
          rcases List.mem_cons.1 hv with rfl | hv
          · exact hN
          · exact h v hv
    · split
      · have he : ∀ d, ∀ v ∈ (endV12 st d).2.1, (v.l.length : Int) ≤ N := by
          intro d
          unfold endV12
          split
          · exact h
          · rename_i v rest
            have hr : ∀ u ∈ rest, (u.l.length : Int) ≤ N := fun u hu => h u (List.mem_cons_of_mem _ hu)
            split
            · exact h
            · split
              · exact hr
              · split
                · exact h
                · exact hr
        simp only
        split
        · exact he _
        · exact he _
      · simp only
        split
        · exact h
        · split
          · exact h
          · exact h

theorem IsV.setr {w W : World} {F : Nat → Prop} {r p : Nat} {a : Option Addr} {cap : Nat} {bs : List UInt8} {last : Bool} {st : List Lv} {at_ : Int} {gs : List Nat} {osl : Value} {v : PV} {sl : Value} (h : IsV W F v sl) (hs : IsStk w W F (fun b => b = r) p a cap bs last st at_ gs osl) (y0 y1 y2 y3 : Value) :
    IsV ((((W.setCell ⟨r, 0, none⟩ y0).setCell ⟨r, 1, none⟩ y1).setCell ⟨r, 2, none⟩ y2).setCell ⟨r, 3, none⟩ y3) anyF v sl :=
  IsV.keep ⟨by rw [set4_size]; exact Nat.le_refl _, fun b _ hf => set4_heap (fun e => (hs.fb b hf).2.1 e) _ _ _ _⟩ (fun _ _ => trivial) v h
/-- Four cells that are read. -/
def S5v (w : World) (v : Nat) (y0 y1 y2 y3 : Value) : Prop := w.cell? ⟨v, 0, none⟩ = some y0 ∧ w.cell? ⟨v, 1, none⟩ = some y1 ∧ w.cell? ⟨v, 2, none⟩ = some y2 ∧ w.cell? ⟨v, 3, none⟩ = some y3
theorem S5v.drew {w : World} {v : Nat} {y0 y1 y2 y3 : Value} (h : S5v w v y0 y1 y2 y3) : S5v w.drew v y0 y1 y2 y3 := h
theorem S5v.alloc {w : World} {v : Nat} {y0 y1 y2 y3 : Value} (h : S5v w v y0 y1 y2 y3) (o : Obj) : S5v (w.alloc o) v y0 y1 y2 y3 :=
  ⟨cell_alloc o h.1, cell_alloc o h.2.1, cell_alloc o h.2.2.1, cell_alloc o h.2.2.2⟩
theorem S5v.grown {w w' : World} {row : Option Nat} {v : Nat} {y0 y1 y2 y3 : Value} (h : S5v w v y0 y1 y2 y3) (hg : w.grownBy w' row) (h2 : row ≠ some v) : S5v w' v y0 y1 y2 y3 := by
  have k : ∀ b o y, row ≠ some b → w.cell? ⟨b, o, none⟩ = some y → w'.cell? ⟨b, o, none⟩ = some y := fun b o y hb hc => by
    rw [World.cell?_of_block (w := w) (a := ⟨b, o, none⟩) (hg.block b (World.block_lt_of_cell? w _ hc) (fun e => hb e.symm))]; exact hc
  exact ⟨k _ _ _ h2 h.1, k _ _ _ h2 h.2.1, k _ _ _ h2 h.2.2.1, k _ _ _ h2 h.2.2.2⟩
theorem S5v.set {w : World} {v b : Nat} {y0 y1 y2 y3 : Value} (h : S5v w v y0 y1 y2 y3) (h2 : v ≠ b) (o : Nat) (z : Value) : S5v (w.setCell ⟨b, o, none⟩ z) v y0 y1 y2 y3 := by
  have k : ∀ c o' y, c ≠ b → w.cell? ⟨c, o', none⟩ = some y → (w.setCell ⟨b, o, none⟩ z).cell? ⟨c, o', none⟩ = some y := fun c o' y hb hc => by
    rw [World.cell?_of_block (w := w) (a := ⟨c, o', none⟩) (heap_setCell_other _ _ _ _ hb)]; exact hc
  exact ⟨k _ _ _ h2 h.1, k _ _ _ h2 h.2.1, k _ _ _ h2 h.2.2.1, k _ _ _ h2 h.2.2.2⟩
/-- The last element of a row of the call's own. -/
theorem owns_lastC {w : World} {base g n cap : Nat} {cs : List Value} {z0 z1 z2 z3 : Value} (h : w.ownsRow base 27 4 (.slice (some ⟨g, 0, none⟩) (n + 1) cap) (n + 1) (cs ++ [z0, z1, z2, z3])) :
    (w.cell? ⟨g, n * 4, none⟩ = some z0 ∧ w.cell? ⟨g, n * 4 + 1, none⟩ = some z1 ∧ w.cell? ⟨g, n * 4 + 2, none⟩ = some z2 ∧ w.cell? ⟨g, n * 4 + 3, none⟩ = some z3) ∧ (∀ j, w.frozen? ⟨g, j, none⟩ = false) := by
  have hl : cs.length = n * 4 := by have := h.1; simp at this; omega
  rcases h.2 with ⟨e, -⟩ | ⟨g', cap', cur, e, hb, hh, hn, hm, hs, ht⟩
  · cases e
  · simp only [Value.slice.injEq, Option.some.injEq, Addr.mk.injEq] at e
    obtain ⟨⟨rfl, -⟩, -, rfl⟩ := e
    have hc : ∀ j z, (cs ++ [z0, z1, z2, z3])[j]? = some z → w.cell? ⟨g, j, none⟩ = some z := fun j z hj => by
      rw [cell_of_row w g j cur _ _ hh]
      rw [← ht, List.getElem?_take] at hj
      split at hj
      · simpa using hj
      · cases hj
    refine ⟨⟨hc _ _ ?_, hc _ _ ?_, hc _ _ ?_, hc _ _ ?_⟩, fun j => frozen_of_row w g j cur _ hh⟩
    · rw [List.getElem?_append_right (by omega)]; simp [hl]
    · rw [List.getElem?_append_right (by omega)]; simp [hl]
    · rw [List.getElem?_append_right (by omega)]; simp [hl]
    · rw [List.getElem?_append_right (by omega)]; simp [hl]
theorem owns_setLast {w : World} {base g n cap : Nat} {cs : List Value} {z0 z1 z2 z3 y0 y1 y2 y3 : Value} (h : w.ownsRow base 27 4 (.slice (some ⟨g, 0, none⟩) (n + 1) cap) (n + 1) (cs ++ [z0, z1, z2, z3])) :
    ((((w.setCell ⟨g, n * 4, none⟩ y0).setCell ⟨g, n * 4 + 1, none⟩ y1).setCell ⟨g, n * 4 + 2, none⟩ y2).setCell ⟨g, n * 4 + 3, none⟩ y3).ownsRow base 27 4 (.slice (some ⟨g, 0, none⟩) (n + 1) cap) (n + 1) (cs ++ [y0, y1, y2, y3]) := by
  have hl : cs.length = n * 4 := by have := h.1; simp at this; omega
  rcases h.2 with ⟨e, -⟩ | ⟨g', cap', cur, e, hb, hh, hn, hm, hs, ht⟩
  · cases e
  · simp only [Value.slice.injEq, Option.some.injEq, Addr.mk.injEq] at e
    obtain ⟨⟨rfl, -⟩, -, rfl⟩ := e
    have e0 := heap_setCell_same w g (n * 4) cur _ y0 hh
    have e1 := heap_setCell_same _ g (n * 4 + 1) _ _ y1 e0
    have e2 := heap_setCell_same _ g (n * 4 + 2) _ _ y2 e1
    have e3 := heap_setCell_same _ g (n * 4 + 3) _ _ y3 e2
    refine ⟨by simp [hl]; omega, .inr ⟨g, cap, _, rfl, hb, e3, hn, hm, by simpa using hs, ?_⟩⟩
    have hcur : ∀ j, j < n * 4 → cur.toList[j]? = cs[j]? := fun j hj => by
      have := congrArg (fun l => l[j]?) ht
      simp only [List.getElem?_take] at this
      rw [if_pos (by omega), List.getElem?_append_left (by omega)] at this
      exact this
    apply List.ext_getElem?
    intro j
    rw [List.getElem?_take]
    simp only [Array.toList_setIfInBounds, List.getElem?_set, List.length_set, Array.length_toList]
    by_cases hj : j < (n + 1) * 4
    · rw [if_pos hj]
      by_cases h3 : n * 4 + 3 = j
      · subst h3; rw [List.getElem?_append_right (by omega)]; simp [hl]; omega
      · by_cases h2 : n * 4 + 2 = j
        · subst h2; rw [List.getElem?_append_right (by omega)]; simp [hl]; omega
        · by_cases h1 : n * 4 + 1 = j
          · subst h1; rw [List.getElem?_append_right (by omega)]; simp [hl]; omega
          · by_cases h0 : n * 4 = j
            · subst h0; rw [List.getElem?_append_right (by omega)]; simp [hl]; omega
            · simp only [h0, h1, h2, h3, if_false]
              rw [List.getElem?_append_left (by omega)]; exact hcur j (by omega)
    · rw [if_neg hj, List.getElem?_eq_none (by simp [hl]; omega)]


theorem setCell_comm (w : World) {g b : Nat} (h : g ≠ b) (i j : Nat) (u v : Value) : (w.setCell ⟨g, i, none⟩ u).setCell ⟨b, j, none⟩ v = (w.setCell ⟨b, j, none⟩ v).setCell ⟨g, i, none⟩ u := by
  unfold World.setCell
  simp only
  congr 1
  apply Array.ext_getElem?
  intro k
  simp only [Array.getElem?_modify]
  by_cases h1 : g = k
  · subst h1
    have h2 : ¬ b = g := fun e => h e.symm
    simp [h2]
  · by_cases h2 : b = k
    · subst h2; simp [h1]
    · simp [h1, h2]
theorem setCell_comm4 (w : World) {g b : Nat} (h : g ≠ b) (i j0 j1 j2 j3 : Nat) (u v0 v1 v2 v3 : Value) :
    ((((w.setCell ⟨g, i, none⟩ u).setCell ⟨b, j0, none⟩ v0).setCell ⟨b, j1, none⟩ v1).setCell ⟨b, j2, none⟩ v2).setCell ⟨b, j3, none⟩ v3 = ((((w.setCell ⟨b, j0, none⟩ v0).setCell ⟨b, j1, none⟩ v1).setCell ⟨b, j2, none⟩ v2).setCell ⟨b, j3, none⟩ v3).setCell ⟨g, i, none⟩ u := by
  rw [setCell_comm w h, setCell_comm _ h, setCell_comm _ h, setCell_comm _ h]
/-- The value is put behind in the topmost level. -/
theorem VAt.put {w W5 w7 : World} {F : Nat → Prop} {r v4 p : Nat} {a : Option Addr} {cap : Nat} {bs : List UInt8} {last : Bool} {V : PV × Int × Int} {n : Nat} {top : Lv} {rest : List Lv} {at2 : Int} {g : Nat} {t : List Nat} {osl : Value}
    (HG5 : IsStk w W5 F (fun b => b = r ∨ b = v4) p a cap bs last (top :: rest) at2 (g :: t) osl) (HR5 : W5.heap[r]? = some (.cells #[.int .i64 0, .int .i64 0, .string ⟨#[]⟩, .slice none 0 0] 27 (0, 0)))
    {ta : Option Addr} {tn tc : Nat} (HGL : W5.heap[g]? = some (.cells #[.bool top.dict, .slice ta tn tc] 48 (0, 0))) {cs : List Value} (HVS : IsVs W5 F top.l cs) {X : PV} {sa : Option Addr} {sn sc : Nat} (HX : IsV W5 F X (.slice sa sn sc)) (HTN : tn = top.l.length)
    {o : Obj} (HG7 : ((W5.alloc o).drew).grownBy w7 (Value.slice ta tn tc).ownBlock) {g7 cap7 : Nat} {z0 z1 z2 z3 : Value}
    (HO7 : w7.ownsRow w.heap.size 27 4 (.slice (some ⟨g7, 0, none⟩) (tn + 1) cap7) (tn + 1) (cs ++ [z0, z1, z2, z3])) (HAT : (Value.slice ta tn tc).ownBlock = some g7 ∨ g7 = W5.heap.size + 1)
    (hv : valO bs last n ({ top with l := top.l ++ [X] } :: rest) at2 = some V) (hlen : ∀ v ∈ top :: rest, (v.l.length : Int) + 1 ≤ at2) (hrng : 0 ≤ at2 ∧ at2 ≤ bs.length) :
    VAt w (((((w7.setCell ⟨g7, tn * 4, none⟩ (.int .i64 X.kind)).setCell ⟨g7, tn * 4 + 1, none⟩ (.int .i64 X.n)).setCell ⟨g7, tn * 4 + 2, none⟩ (.string (mkB X.s))).setCell ⟨g7, tn * 4 + 3, none⟩ (.slice sa sn sc)).setCell ⟨g, 1, none⟩ (.slice (some ⟨g7, 0, none⟩) (tn + 1) cap7)) F r p a cap bs last V n ({ top with l := top.l ++ [X] } :: rest) at2 := by
  subst HTN
  have hk : Keeps (fun b => (Value.slice ta top.l.length tc).ownBlock = some b) W5 ((((w7.setCell ⟨g7, top.l.length * 4, none⟩ (.int .i64 X.kind)).setCell ⟨g7, top.l.length * 4 + 1, none⟩ (.int .i64 X.n)).setCell ⟨g7, top.l.length * 4 + 2, none⟩ (.string (mkB X.s))).setCell ⟨g7, top.l.length * 4 + 3, none⟩ (.slice sa sn sc)) := by
    have h0 : Keeps (fun b => (Value.slice ta top.l.length tc).ownBlock = some b) W5 w7 :=
      (keeps_below (belowA W5 o).drew).grown HG7 fun k hk => .inl hk
    have hg7 : (Value.slice ta top.l.length tc).ownBlock = some g7 ∨ W5.heap.size ≤ g7 := by rcases HAT with h | h; exact .inl h; exact .inr (by omega)
    exact (((h0.setCell (a := ⟨g7, _, none⟩) hg7 _).setCell (a := ⟨g7, _, none⟩) hg7 _).setCell (a := ⟨g7, _, none⟩) hg7 _).setCell (a := ⟨g7, _, none⟩) hg7 _
  have N := HG5.put HGL HVS HX (v' := .slice (some ⟨g7, 0, none⟩) (top.l.length + 1) cap7) (owns_setLast HO7) hk (fun b hb => by
    have hb : g7 = b := by simpa [Value.ownBlock] using hb
    subst hb
    rcases HAT with h | h; exact .inl h; exact .inr (by omega))
  refine ⟨(let ⟨gs2, osl2, h⟩ := N.stk; ⟨gs2, osl2, h.give fun b hb => .inl hb⟩), stays_obj N.sg HR5 (.inl rfl), hv, fun v hv => ?_, .inr hrng⟩
  rcases List.mem_cons.1 hv with rfl | hv
  · have := hlen top List.mem_cons_self
    simpa using this
  · have := hlen v (List.mem_cons_of_mem _ hv)
    omega
end Go.Proofs.Ytmejhjgdofncfaa
