/-
  Our texts Zl4 to NSym1, in one.
-/
import Derived.Test.YtkikhmdpcanidaaGreatPkC7
import Derived.Defers
import Derived.Deep.RegionHeld3
import Derived.Lib.AppendZeros
import Derived.Deep.OwnRows
import Derived.Test.YtkikhmdpcanidaaGreatProg
import Derived.Deep.AppendLies
import Derived.BigQuiet
import Derived.Deep.QuietTactic
set_option maxRecDepth 8000
set_option maxHeartbeats 8000000
namespace Go.Proofs.YtkikhmdpcanidaaGreat
open Go.RowKit Go.Sort
structure UnQ (w W : World) (o p q : Nat) (v : Value) (n e : Int) : Prop where
 below : Below w.heap.size w W
 h0 : W.heap[o]? = some (.cells #[v] 22 (0, 0))
 h1 : W.heap[p]? = some (.cells #[.int .i64 n] 3 (0, 0))
 h2 : W.heap[q]? = some (.cells #[.int .i64 e] 24 (0, 0))
 lo : w.heap.size ≤ o
 lp : w.heap.size ≤ p
 lq : w.heap.size ≤ q
 op : o ≠ p
 oq : o ≠ q
 pq : p ≠ q
section
variable {w W : World} {o p q : Nat} {v : Value} {n e : Int}
theorem UnQ.set0 (h : UnQ w W o p q v n e) (v' : Value) : UnQ w (W.setCell ⟨o, 0, none⟩ v') o p q v' n e :=
 { h with below := h.below.setCell h.lo _, h0 := by rw [heap_setCell_same W o 0 _ _ _ h.h0]; rfl, h1 := zay h.h1 (a := ⟨o, 0, none⟩) h.op _, h2 := zay h.h2 (a := ⟨o, 0, none⟩) h.oq _ }
theorem UnQ.set1 (h : UnQ w W o p q v n e) (n' : Int) : UnQ w (W.setCell ⟨p, 0, none⟩ (.int .i64 n')) o p q v n' e :=
 { h with below := h.below.setCell h.lp _, h0 := zay h.h0 (a := ⟨p, 0, none⟩) h.op.symm _, h1 := by rw [heap_setCell_same W p 0 _ _ _ h.h1]; rfl, h2 := zay h.h2 (a := ⟨p, 0, none⟩) h.pq _ }
theorem UnQ.set2 (h : UnQ w W o p q v n e) (e' : Int) : UnQ w (W.setCell ⟨q, 0, none⟩ (.int .i64 e')) o p q v n e' :=
 { h with below := h.below.setCell h.lq _, h0 := zay h.h0 (a := ⟨q, 0, none⟩) h.oq.symm _, h1 := zay h.h1 (a := ⟨q, 0, none⟩) h.pq.symm _, h2 := by rw [heap_setCell_same W q 0 _ _ _ h.h2]; rfl }
theorem UnQ.set3 (h : UnQ w W o p q v n e) (v' : Value) (n' e' : Int) : UnQ w (((W.setCell ⟨o, 0, none⟩ v').setCell ⟨p, 0, none⟩ (.int .i64 n')).setCell ⟨q, 0, none⟩ (.int .i64 e')) o p q v' n' e' := ((h.set0 v').set1 n').set2 e'
theorem UnQ.next {W' : World} (h : UnQ w W o p q v n e) (hb : Below W.heap.size W W') : UnQ w W' o p q v n e :=
 { h with below := h.below.trans (hb.mono h.below.size), h0 := zaU hb h.h0, h1 := zaU hb h.h1, h2 := zaU hb h.h2 }
theorem UnQ.cells (h : UnQ w W o p q v n e) : W.cell? ⟨o, 0, none⟩ = some v ∧ W.cell? ⟨p, 0, none⟩ = some (.int .i64 n) ∧ W.cell? ⟨q, 0, none⟩ = some (.int .i64 e) ∧ W.frozen? ⟨o, 0, none⟩ = false ∧ W.frozen? ⟨p, 0, none⟩ = false ∧ W.frozen? ⟨q, 0, none⟩ = false :=
 ⟨by rw [cell_of_row W o 0 _ _ _ h.h0]; rfl, by rw [cell_of_row W p 0 _ _ _ h.h1]; rfl, by rw [cell_of_row W q 0 _ _ _ h.h2]; rfl, frozen_of_row W o 0 _ _ h.h0, frozen_of_row W p 0 _ _ h.h1, frozen_of_row W q 0 _ _ h.h2⟩
theorem UnQ.start (w : World) : UnQ w (((w.alloc (.cells #[.slice none 0 0] 22)).alloc (.cells #[.int .i64 0] 3)).alloc (.cells #[.int .i64 0] 24)) w.heap.size (w.heap.size + 1) (w.heap.size + 1 + 1) (.slice none 0 0) 0 0 :=
 { below := ((zai w _).alloc (by rw [zac]; omega) _).alloc (by rw [zac, zac]; omega) _
   h0 := zaE _ (zaE _ (zaf _ rfl)), h1 := zaE _ (zaf _ (by rw [zac])), h2 := zaf _ (by rw [zac, zac])
   lo := Nat.le_refl _, lp := by omega, lq := by omega, op := by omega, oq := by omega, pq := by omega }
theorem UnQ.apart (h : UnQ w W o p q v n e) {B m : Nat} {x : Value} {cs : List Value} (hO : W.ownsRow B 5 1 x m cs) : ∀ b, x.ownBlock = some b → b ≠ o ∧ b ≠ p ∧ b ≠ q := fun b hb => by
 rcases hO.2 with ⟨rfl, -⟩ | ⟨g, cap, cur, rfl, -, hg, -⟩
 · cases hb
 · have e1 : g = b := by simpa [Value.ownBlock] using hb
   subst e1
   refine ⟨fun e => ?_, fun e => ?_, fun e => ?_⟩
   · subst e; rw [h.h0] at hg; simp at hg
   · subst e; rw [h.h1] at hg; simp at hg
   · subst e; rw [h.h2] at hg; simp at hg
theorem UnQ.own3 (h : UnQ w W o p q v n e) {B m : Nat} {x : Value} {cs : List Value} (hO : W.ownsRow B 5 1 x m cs) (a b c : Value) : (((W.setCell ⟨o, 0, none⟩ a).setCell ⟨p, 0, none⟩ b).setCell ⟨q, 0, none⟩ c).ownsRow B 5 1 x m cs := by
 have hx := h.apart hO
 have k : ∀ g : Nat, (∀ b, x.ownBlock = some b → b ≠ g) → x.ownBlock ≠ some g := fun g hg e => hg g e rfl
 exact za2 (za2 (za2 hO (a := ⟨o, 0, none⟩) (k o fun b hb => (hx b hb).1) a) (a := ⟨p, 0, none⟩) (k p fun b hb => (hx b hb).2.1) b) (a := ⟨q, 0, none⟩) (k q fun b hb => (hx b hb).2.2) c
end
theorem none_ok {o p q : Nat} {w : World} (u : FrameMode) (c2 : w.cell? ⟨q, 0, none⟩ = some (.int .i64 0)) :
   CallsD Tryz.prog 45 #[.pointer (some ⟨o, 0, none⟩), .pointer (some ⟨p, 0, none⟩), .pointer (some ⟨q, 0, none⟩)] u w fun e u' w' => u' = u ∧ (e = .returned (.tuple #[]) ∧ w' = w) := by
 go_enter_d Tryz.func45, Tryz.ntmps45
 go_wp2
 go_end0
 exact ⟨rfl, rfl⟩
theorem none_bad {o p q : Nat} {e : Int} {v1 v2 : Value} {w : World} (u : FrameMode) (he : e ≠ 0) (c0 : w.cell? ⟨o, 0, none⟩ = some v1) (c1 : w.cell? ⟨p, 0, none⟩ = some v2) (c2 : w.cell? ⟨q, 0, none⟩ = some (.int .i64 e)) (f0 : w.frozen? ⟨o, 0, none⟩ = false) (f1 : w.frozen? ⟨p, 0, none⟩ = false) (hop : ¬ p = o) :
   CallsD Tryz.prog 45 #[.pointer (some ⟨o, 0, none⟩), .pointer (some ⟨p, 0, none⟩), .pointer (some ⟨q, 0, none⟩)] u w fun x u' w' => u' = u ∧ (x = .returned (.tuple #[]) ∧ w' = (w.setCell ⟨o, 0, none⟩ (.slice none 0 0)).setCell ⟨p, 0, none⟩ (.int .i64 0)) := by
 have hd : (e == 0) = false := by simpa using he
 have hd2 : (e != 0) = true := by simpa using he
 go_enter_d Tryz.func45, Tryz.ntmps45
 go_wp2
 go_end0
 exact ⟨rfl, rfl⟩
theorem notAgg {ty : TypeId} {d : TypeDesc} (hu : Tryz.prog.underlying ty = some d) (hd : (match d with | .struct _ | .array _ _ => true | _ => false) = false) {a : Addr} {x : Value} {W : World} (hc : W.cell? a = some x) : (loadVar ty a).run Tryz.prog W = .ok x W := by
 have hagg : (isAgg ty).run Tryz.prog W = .ok false W := by
   unfold isAgg
   rw [Sem.run_bind, run_underlying hu W]
   cases d <;> simp_all
 unfold loadVar
 rw [Sem.run_bind, hagg]
 simp [hc]
theorem results3 {fn : Func} {t0 t1 t2 : Tmp} (h : fn.results = #[.cell t0 22, .cell t1 3, .cell t2 24]) (tmps : Array Value) {w W : World} {o p q : Nat} {v : Value} {n e : Int}
   (h0 : tmps.getD t0 undef = .pointer (some ⟨o, 0, none⟩)) (h1 : tmps.getD t1 undef = .pointer (some ⟨p, 0, none⟩)) (h2 : tmps.getD t2 undef = .pointer (some ⟨q, 0, none⟩)) (hq : UnQ w W o p q v n e) :
   (results fn tmps).run Tryz.prog W = .ok (.tuple #[v, .int .i64 n, .int .i64 e]) W := by
 obtain ⟨c0, c1, c2, -⟩ := hq.cells
 have l0 := notAgg Tryz.underlying22 rfl c0
 have l1 := notAgg Tryz.underlying3 rfl c1
 have l2 := notAgg Tryz.underlying24 rfl c2
 have h0' : tmps[t0]?.getD undef = .pointer (some ⟨o, 0, none⟩) := by simpa using h0
 have h1' : tmps[t1]?.getD undef = .pointer (some ⟨p, 0, none⟩) := by simpa using h1
 have h2' : tmps[t2]?.getD undef = .pointer (some ⟨q, 0, none⟩) := by simpa using h2
 simp [results, h, h0', h1', h2', asAddr, l0, l1, l2, Sem.run_bind, Result.andThen]
theorem door_ok {a : Act} {R : Ending → World → Prop} {w W : World} {o p q : Nat} {v : Value} {n : Int} (hd : a.defers = [{ target := .fn (.func 45) #[], args := #[.pointer (some ⟨o, 0, none⟩), .pointer (some ⟨p, 0, none⟩), .pointer (some ⟨q, 0, none⟩)] }])
   (h0 : a.tmps.getD 4 undef = .pointer (some ⟨o, 0, none⟩)) (h1 : a.tmps.getD 5 undef = .pointer (some ⟨p, 0, none⟩)) (h2 : a.tmps.getD 6 undef = .pointer (some ⟨q, 0, none⟩)) (hq : UnQ w W o p q v n 0) (hR : R (.returned (.tuple #[v, .int .i64 n, .int .i64 0])) W) :
   bodyPostD Tryz.prog Tryz.f19 R .ret a W := by
 show Leaves Tryz.prog Tryz.f19 a.tmps R a.defers .returning W
 rw [hd]
 refine leaves_cons (f := 45) (args := #[.pointer (some ⟨o, 0, none⟩), .pointer (some ⟨p, 0, none⟩), .pointer (some ⟨q, 0, none⟩)]) (by simp) (by simp [go_sem]) ?_
 refine (none_ok .returning hq.cells.2.2.1).mono ?_
 rintro e u' w' ⟨rfl, rfl, rfl⟩
 exact ⟨_, results3 rfl _ h0 h1 h2 hq, hR⟩
theorem zcn {a : Act} {R : Ending → World → Prop} {w W : World} {o p q : Nat} {v : Value} {n e : Int} (hd : a.defers = [{ target := .fn (.func 45) #[], args := #[.pointer (some ⟨o, 0, none⟩), .pointer (some ⟨p, 0, none⟩), .pointer (some ⟨q, 0, none⟩)] }])
   (h0 : a.tmps.getD 4 undef = .pointer (some ⟨o, 0, none⟩)) (h1 : a.tmps.getD 5 undef = .pointer (some ⟨p, 0, none⟩)) (h2 : a.tmps.getD 6 undef = .pointer (some ⟨q, 0, none⟩)) (he : e ≠ 0) (hq : UnQ w W o p q v n e) (hR : ∀ W', Below w.heap.size w W' → R (.returned (.tuple #[.slice none 0 0, .int .i64 0, .int .i64 e])) W') :
   bodyPostD Tryz.prog Tryz.f19 R .ret a W := by
 show Leaves Tryz.prog Tryz.f19 a.tmps R a.defers .returning W
 rw [hd]
 obtain ⟨c0, c1, c2, f0, f1, -⟩ := hq.cells
 refine leaves_cons (f := 45) (args := #[.pointer (some ⟨o, 0, none⟩), .pointer (some ⟨p, 0, none⟩), .pointer (some ⟨q, 0, none⟩)]) (by simp) (by simp [go_sem]) ?_
 refine (none_bad .returning he c0 c1 c2 f0 f1 (fun h => hq.op h.symm)).mono ?_
 rintro e u' w' ⟨rfl, rfl, rfl⟩
 have hq2 := (hq.set0 (.slice none 0 0)).set1 0
 exact ⟨_, results3 rfl _ h0 h1 h2 hq2, hR _ hq2.below⟩
theorem bequal_z {w : World} {a a2 : Option Addr} {cap c2 : Nat} {bs sep : List UInt8} (hr : Row w 1 a bs.length cap (bs.map u8C)) (hs : Row w 1 a2 sep.length c2 (sep.map u8C)) :
   Calls Tryz.prog 46 #[.slice a bs.length cap, .slice a2 sep.length c2] w fun e w' => e = .returned (.bool (decide (bs = sep))) ∧ w = w' := by
 have h1 := conv_z hr
 have h2 := conv_z hs
 have hq := eq_mkB7 bs sep
 clear hr hs
 generalize mkB7 bs = x at *
 generalize mkB7 sep = y at *
 generalize decide (bs = sep) = d at *
 go_enter Tryz.func46, Tryz.ntmps46
 go_wp2
 go_ret
 exact ⟨rfl, rfl⟩
theorem heldU {w2 W W' : World} {p o : Nat} {x y : Value} (h : W.cell? ⟨p, 0, none⟩ = some x ∧ W.cell? ⟨o, 0, none⟩ = some y ∧ Below w2.heap.size w2 W) (hb : Below W.heap.size W W') : W'.cell? ⟨p, 0, none⟩ = some x ∧ W'.cell? ⟨o, 0, none⟩ = some y ∧ Below w2.heap.size w2 W' :=
 ⟨cell?_keep hb h.1, cell?_keep hb h.2.1, h.2.2.trans (hb.mono h.2.2.size)⟩
theorem zdl {w : World} {a : Option Addr} {cap : Nat} {b : List UInt8} (most : Int) (hr : Row w 1 a b.length cap (b.map u8C)) (hal : ∀ x, a = some x → x.block < w.heap.size) (hbl : b.length ≤ 100000) (hsm : ∀ M : Nat, most = M → M ≤ 16777216 → (resO (endI (b.drop 2) M)).length ≤ 2000) :
   Calls Tryz.prog 19 #[.slice a b.length cap, .int .i64 most] w (zc2 w (unpM b most)) := by
 have HQ := Lib.hid (UnQ.start w)
 have hcapn := hr.2.1
 have hcapm := hr.2.2.1
 unfold maxLen at hcapm
 have HR := Lib.hid (fun W (h : Below w.heap.size w W) => hr.mono h)
 have HAL := Lib.hid hal
 have HSM := Lib.hid hsm
 have HR0 := Lib.hid hr
 have hni : (b.length : Int) ≤ 9223372036854775807 := by omega
 clear hr hal hsm
 go_enter_defers Tryz.func19, Tryz.ntmps19
 go_upto_region 2 with fail
 generalize ((w.alloc (.cells #[.slice none 0 0] 22)).alloc (.cells #[.int .i64 0] 3)).alloc (.cells #[.int .i64 0] 24) = W0 at HQ ⊢
 generalize w.heap.size + 1 + 1 = q at HQ ⊢
 generalize w.heap.size + 1 = p at HQ ⊢
 obtain ⟨o, ho⟩ : ∃ o, o = w.heap.size := ⟨_, rfl⟩
 rw [← ho] at HQ ⊢
 clear ho
 obtain ⟨c0, c1, c2, f0, f1, f2⟩ := HQ.out.cells
 have hop : ¬ o = p := HQ.out.op
 have hoq : ¬ o = q := HQ.out.oq
 have hpq : ¬ p = q := HQ.out.pq
 have hpo : ¬ p = o := fun h => hop h.symm
 have hqo : ¬ q = o := fun h => hoq h.symm
 have hqp : ¬ q = p := fun h => hpq h.symm
 by_cases m1 : most < 0
 · have d1 : decide (most < 0) = true := decide_eq_true m1
   have HV := Lib.hid (show unpM b most = ([], 0, 2) from if_pos (.inl m1))
   have HQ1 := Lib.hid (HQ.out.set3 (.slice none 0 0) 0 2)
   go_wp2_with fail
   refine zcn rfl rfl rfl rfl (by decide) HQ1.out (fun W' hb => ?_)
   rw [HV.out]
   exact zc2.bad hb
 have d1 : decide (most < 0) = false := decide_eq_false m1
 by_cases m2 : 16777216 < most
 · have d2 : decide (most > 16777216) = true := decide_eq_true m2
   have HV := Lib.hid (show unpM b most = ([], 0, 2) from if_pos (.inr m2))
   have HQ1 := Lib.hid (HQ.out.set3 (.slice none 0 0) 0 2)
   go_wp2_with fail
   refine zcn rfl rfl rfl rfl (by decide) HQ1.out (fun W' hb => ?_)
   rw [HV.out]
   exact zc2.bad hb
 have d2 : decide (most > 16777216) = false := decide_eq_false m2
 obtain ⟨M, rfl⟩ : ∃ M : Nat, most = M := ⟨most.toNat, by omega⟩
 have hM : M ≤ 16777216 := by omega
 have HV := Lib.hid (show unpM b M = unpV b M from if_neg (by omega))
 have HCK := Lib.hid (check_any (HR.out W0 HQ.out.below))
 by_cases hck : chkV b = 0
 case neg =>
   have HU := Lib.hid (show unpV b M = ([], 0, chkV b) from if_pos hck)
   generalize chkV b = c at *
   have hb : (c != 0) = true := by simpa using hck
   have hb2 : (c == 0) = false := by simpa using hck
   go_wp2_with fail
   refine HCK.out.mono ?_
   rintro e w1 ⟨rfl, r, rfl⟩
   have HQ1 := Lib.hid ((HQ.out.next (zau (Below.refl _ _) r)).set2 c)
   have HQ2 := Lib.hid (HQ1.out.set3 (.slice none 0 0) 0 c)
   go_wp2_with fail
   refine zcn rfl rfl rfl rfl hck HQ2.out (fun W' hb => ?_)
   rw [HV.out, HU.out]
   exact zc2.bad hb
 have hl2 : 2 ≤ b.length := by
   rcases Nat.lt_or_ge b.length 2 with h | h
   · unfold chkV at hck; rw [if_pos h] at hck; cases hck
   · exact h
 have HU := Lib.hid (show unpV b M = _ from by unfold unpV; rw [if_neg (fun h => h hck)])
 rw [hck] at HCK
 clear hck
 obtain ⟨bb, off, rfl, hbb, -⟩ := HR0.out.at 0 0 (by omega)
 have hI := (fun (W : World) (hb : Below w.heap.size w W) => by
   have h := inflate_res W (if cap = 2 then some ⟨bb, off, none⟩ else some ((⟨bb, off, none⟩ : Addr).add 2)) (cap - 2) M (b.drop 2) (by rw [List.length_drop]; exact row_two (HR.out W hb) hl2) (by rw [List.length_drop]; omega) hM
   rw [List.length_drop] at h
   exact h : ∀ (W : World) (hb : Below w.heap.size w W), Calls Tryz.prog 12 #[.slice (if cap = 2 then some ⟨bb, off, none⟩ else some ((⟨bb, off, none⟩ : Addr).add 2)) (b.length - 2) (cap - 2), .int .i64 M] W (InfRes (endI (b.drop 2) M) W))
 have hend := zea (b.drop 2) M
 have hole := HSM.out M rfl hM
 obtain ⟨s, hs⟩ : ∃ s, s = endI (b.drop 2) M := ⟨_, rfl⟩
 rw [← hs] at hI HU hend hole
 have hat := hend.2
 rw [List.length_drop] at hat
 obtain ⟨O, C, D, hOC, HI⟩ : ∃ O C D, ((cap = 2 ∧ O = off ∧ C = 0 ∧ D = 0) ∨ (¬ cap = 2 ∧ O = off + 2 ∧ C = cap - 2 ∧ D = b.length - 2)) ∧ Hid (∀ (W : World), Below w.heap.size w W → Calls Tryz.prog 12 #[.slice (some ⟨bb, O, none⟩) D C, .int .i64 M] W (InfRes s W)) := by
   by_cases h : cap = 2
   · refine ⟨off, 0, 0, .inl ⟨h, rfl, rfl, rfl⟩, Lib.hid fun W hb => ?_⟩
     have := hI W hb
     rw [if_pos h, h, show b.length - 2 = 0 from by omega] at this
     exact this
   · refine ⟨off + 2, cap - 2, b.length - 2, .inr ⟨h, rfl, rfl, rfl⟩, Lib.hid fun W hb => ?_⟩
     have := hI W hb
     rw [if_neg h] at this
     exact this
 obtain ⟨L, hL⟩ : ∃ L, L = b.length := ⟨_, rfl⟩
 rw [← hL] at HCK hOC hl2 hcapn hbl hat HU hni ⊢
 have HL := Lib.hid hL
 have HS := Lib.hid hs
 clear hI hend hL hs
 by_cases he : s.e = 0
 case neg =>
   rw [if_pos he] at HU
   have hb : (s.e != 0) = true := by simpa using he
   have hb2 : (s.e == 0) = false := by simpa using he
   clear hat hole
   rcases hOC with ⟨rfl, rfl, rfl, rfl⟩ | ⟨hc2, rfl, rfl, rfl⟩ <;> (
     go_wp2_with fail
     refine HCK.out.mono ?_
     rintro e w1 ⟨rfl, r, rfl⟩
     have HQ1 := Lib.hid ((HQ.out.next (zau (Below.refl _ _) r)).set2 0)
     go_wp2_with fail
     refine (HI.out _ HQ1.out.below).mono ?_
     rintro e w2 ⟨v1, B1, rfl, hO1, hb2⟩
     have HQ2 := Lib.hid (HQ1.out.next hb2)
     obtain ⟨d0, d1, d2, g0, g1, g2⟩ := HQ2.out.cells
     obtain ⟨a1, c1, rfl, -, -⟩ := Row.of_owns hO1
     have HQ3 := Lib.hid ((HQ2.out.set3 (.slice a1 (resO s).length c1) (resN s) s.e).set3 (.slice a1 (resO s).length c1) (resN s) s.e)
     clear hO1 hb2
     go_wp2_with fail
     refine zcn rfl rfl rfl rfl he HQ3.out (fun W' hb => ?_)
     rw [HV.out, HU.out]
     exact zc2.bad hb)
 rw [if_neg (fun h => h he)] at HU
 have hNv : resN s = (s.at_ + 7) / 8 := if_pos he
 have hNl : resN s ≤ L - 2 := by omega
 have HE := Lib.hid he
 have hb : (s.e != 0) = false := by simpa using he
 clear hNv hat he
 obtain ⟨N, hN⟩ : ∃ N, N = resN s := ⟨_, rfl⟩
 rw [← hN] at hNl HU
 have HN := Lib.hid hN.symm
 obtain ⟨out, ho⟩ : ∃ o, o = resO s := ⟨_, rfl⟩
 rw [← ho] at HU hole
 have HO := Lib.hid ho.symm
 clear hN ho
 by_cases hlen : L < N + 6
 case pos =>
   rw [if_pos hlen] at HU
   have hlt : decide ((L : Int) - ((N : Int) + 2) < 4) = true := decide_eq_true (by omega)
   rcases hOC with ⟨rfl, rfl, rfl, rfl⟩ | ⟨hc2, rfl, rfl, rfl⟩ <;> (
     go_wp2_with fail
     refine HCK.out.mono ?_
     rintro e w1 ⟨rfl, r, rfl⟩
     have HQ1 := Lib.hid ((HQ.out.next (zau (Below.refl _ _) r)).set2 0)
     go_wp2_with fail
     refine (HI.out _ HQ1.out.below).mono ?_
     rintro e w2 ⟨v1, B1, rfl, hO1, hb2⟩
     rw [HN.out, HE.out]
     rw [HO.out] at hO1
     have HQ2 := Lib.hid (HQ1.out.next hb2)
     obtain ⟨d0, d1, d2, g0, g1, g2⟩ := HQ2.out.cells
     obtain ⟨a1, c1, rfl, -, -⟩ := Row.of_owns hO1
     have HQ3 := Lib.hid (HQ2.out.set3 (.slice a1 out.length c1) N 0)
     clear hO1 hb2
     go_upto_region 8 with fail
     generalize ((w2.setCell ⟨o, 0, none⟩ (.slice a1 out.length c1)).setCell ⟨p, 0, none⟩ (.int .i64 N)).setCell ⟨q, 0, none⟩ (.int .i64 0) = w3 at HQ3 ⊢
     clear d0 d1 d2 g0 g1 g2 HQ2
     obtain ⟨d0, d1, d2, g0, g1, g2⟩ := HQ3.out.cells
     have HQ4 := Lib.hid (HQ3.out.set1 ((N : Int) + 2))
     go_upto_region 11 with fail
     generalize w3.setCell ⟨p, 0, none⟩ (.int .i64 ((N : Int) + 2)) = w4 at HQ4 ⊢
     clear d0 d1 d2 g0 g1 g2 HQ3
     obtain ⟨d0, d1, d2, g0, g1, g2⟩ := HQ4.out.cells
     have HQ5 := Lib.hid (HQ4.out.set3 (.slice a1 out.length c1) ((N : Int) + 2) 10)
     go_wp2_with fail
     refine zcn rfl rfl rfl rfl (by decide) HQ5.out (fun W' hb => ?_)
     rw [HV.out, HU.out]
     exact zc2.bad hb)
 rw [if_neg hlen] at HU
 have hlt : decide ((L : Int) - ((N : Int) + 2) < 4) = false := decide_eq_false (by omega)
 obtain ⟨hc2, rfl, rfl, rfl⟩ := hOC.resolve_left (fun h => by omega)
 obtain ⟨s4, hs4⟩ : ∃ s4, s4 = (b.drop (N + 2)).take 4 := ⟨_, rfl⟩
 have hl4 : s4.length = 4 := by rw [hs4, List.length_take, List.length_drop]; have := HL.out; omega
 obtain ⟨dd, hdd⟩ : ∃ dd, dd = decide (s4 = by4 (adV out)) := ⟨_, rfl⟩
 have HDD := Lib.hid hdd.symm
 have HEQ := Lib.hid (fun (W : World) (hb : Below w.heap.size w W) (aB : Option Addr) (cB : Nat) (hrB : Row W 1 aB 4 cB ((by4 (adV out)).map u8C)) => show Calls Tryz.prog 46 #[.slice (some ⟨bb, off + (N + 2), none⟩) 4 (cap - (N + 2)), .slice aB 4 cB] W (fun e w' => e = .returned (.bool dd) ∧ W = w') from by
   have h := row_four (N := N) (HR.out W hb) (by have := HL.out; omega)
   rw [← hs4] at h
   have h2 := bequal_z (bs := s4) (sep := by4 (adV out)) (by rw [hl4]; exact h) hrB
   rw [hl4, ← hdd] at h2
   exact h2)
 rw [← hs4] at HU
 clear hs4 hdd hOC
 have i1 : ¬ ((cap : Int) = (N : Int) + 2) := by omega
 have i2 : (N : Int) + 6 ≤ (cap : Int) := by omega
 have i3 : ¬ cap = N + 2 := by omega
 have i4 : IntKind.i64.wrap ((N : Int) + 2) = (N : Int) + 2 := IntWalk.i64_in _ (by omega)
 have i5 : IntKind.i64.wrap ((N : Int) + 2 + 4) = (N : Int) + 6 := by rw [IntWalk.i64_in _ (by omega)]; omega
 have i6 : ((N : Int) + 2).toNat = N + 2 := by omega
 have i7 : ((N : Int) + 6).toNat = N + 6 := by omega
 have i8 : (0 : Int) ≤ (N : Int) + 2 := by omega
 have i9 : (0 : Int) ≤ (N : Int) + 6 := by omega
 have i10 : (N : Int) + 2 ≤ (N : Int) + 6 := by omega
 have i11 : N + 6 - (N + 2) = 4 := by omega
 have i12 : N + 6 ≤ cap := by omega
 go_wp2_with fail
 refine HCK.out.mono ?_
 rintro e w1 ⟨rfl, r, rfl⟩
 have HQ1 := Lib.hid ((HQ.out.next (zau (Below.refl _ _) r)).set2 0)
 go_wp2_with fail
 refine (HI.out _ HQ1.out.below).mono ?_
 rintro e w2 ⟨v1, B1, rfl, hO1, hb2⟩
 rw [HN.out, HE.out]
 rw [HO.out] at hO1
 have HQ2 := Lib.hid (HQ1.out.next hb2)
 obtain ⟨d0, d1, d2, g0, g1, g2⟩ := HQ2.out.cells
 obtain ⟨a1, c1, rfl, hR1, -⟩ := Row.of_owns hO1
 have HQ3 := Lib.hid (HQ2.out.set3 (.slice a1 out.length c1) N 0)
 have HO3 := Lib.hid (HQ2.out.own3 hO1 (.slice a1 out.length c1) (.int .i64 N) (.int .i64 0))
 clear hO1 hb2 hR1 HQ HQ1 HCK HI HAL HR0
 go_upto_region 8 with fail
 generalize ((w2.setCell ⟨o, 0, none⟩ (.slice a1 out.length c1)).setCell ⟨p, 0, none⟩ (.int .i64 N)).setCell ⟨q, 0, none⟩ (.int .i64 0) = w3 at HQ3 HO3 ⊢
 clear d0 d1 d2 g0 g1 g2 HQ2
 obtain ⟨d0, d1, d2, g0, g1, g2⟩ := HQ3.out.cells
 have HQ4 := Lib.hid (HQ3.out.set1 ((N : Int) + 2))
 have HO4 := Lib.hid (za2 HO3.out (a := ⟨p, 0, none⟩) (fun h => (HQ3.out.apart HO3.out p h).2.1 rfl) (.int .i64 ((N : Int) + 2)))
 go_upto_region 11 with fail
 generalize w3.setCell ⟨p, 0, none⟩ (.int .i64 ((N : Int) + 2)) = w4 at HQ4 HO4 ⊢
 clear d0 d1 d2 g0 g1 g2 HQ3 HO3
 obtain ⟨d0, d1, d2, g0, g1, g2⟩ := HQ4.out.cells
 have hR4 := (Row.of_own HO4.out).2
 have hA4 : ∀ x, a1 = some x → x.block < w4.heap.size := fun x hx => (HO4.out.lt x.block (by rw [hx]; rfl)).2
 have HSU := Lib.hid (fun W (h : Below w4.heap.size w4 W) => asum_any (hR4.mono h) hole (fun x hx => Nat.lt_of_lt_of_le (hA4 x hx) h.size))
 have HBY := Lib.hid (fun W => zeK (w := W) (adV_lt out))
 have HEQ4 := Lib.hid (fun W (h : Below w4.heap.size w4 W) => HEQ.out W (HQ4.out.below.trans (h.mono HQ4.out.below.size)))
 clear hR4 hA4 HEQ
 go_upto_region 13 with fail
 have e0 : w4.drew.cell? ⟨p, 0, none⟩ = some (.int .i64 ((N : Int) + 2)) := d1
 have e1 : w4.drew.cell? ⟨o, 0, none⟩ = some (.slice a1 out.length c1) := d0
 have e2 : Below w4.heap.size w4 w4.drew := (Below.refl _ _).drew
 go_region_held3 (fun w' => w'.cell? ⟨p, 0, none⟩ = some (.int .i64 ((N : Int) + 2)) ∧ w'.cell? ⟨o, 0, none⟩ = some (.slice a1 out.length c1) ∧ Below w4.heap.size w4 w') (first | assumption | exact ⟨e0, e1, e2⟩ | exact heldU (by assumption) hbS | exact heldU (by assumption) hbB)
   (first
     | (go_at_call 48; refine (HSU.out _ (And.right (And.right (by assumption)))).mono ?_; rintro e wS ⟨rfl, hbS⟩)
     | (go_at_call 47; refine (HBY.out _).mono ?_; rintro e wB ⟨vB, rfl, hOB, hbB⟩; obtain ⟨aB, cB, rfl, hrB, -⟩ := Row.of_owns hOB; clear hOB)
     | (go_at_call 46; refine (HEQ4.out _ (And.right (And.right (by assumption))) aB cB (by first | exact hrB | exact hrB.mono (by assumption))).mono ?_; rintro e wE ⟨rfl, rfl⟩))
 have hb4 : Below w4.heap.size w4 wB := And.right (And.right (by assumption))
 have HQ6 := Lib.hid (HQ4.out.next hb4)
 have HO6 := Lib.hid (zag HO4.out hb4)
 clear d0 d1 d2 g0 g1 g2 HQ4 HO4 hb4 HSU HBY HEQ4 e0 e1 e2
 obtain ⟨d0, d1, d2, g0, g1, g2⟩ := HQ6.out.cells
 cases dd with
 | true =>
   rw [if_neg (fun h => h (of_decide_eq_true HDD.out))] at HU
   have HQ7 := Lib.hid (HQ6.out.set3 (.slice a1 out.length c1) ((N : Int) + 6) 0)
   have HO7 := Lib.hid (HQ6.out.own3 HO6.out (.slice a1 out.length c1) (.int .i64 ((N : Int) + 6)) (.int .i64 0))
   go_wp2_with fail
   refine door_ok rfl rfl rfl rfl HQ7.out ?_
   rw [HV.out, HU.out]
   exact ⟨_, _, rfl, HO7.out, HQ7.out.below⟩
 | false =>
   rw [if_pos (of_decide_eq_false HDD.out)] at HU
   have HQ7 := Lib.hid (HQ6.out.set3 (.slice a1 out.length c1) ((N : Int) + 2) 12)
   go_wp2_with fail
   refine zcn rfl rfl rfl rfl (by decide) HQ7.out (fun W' hb => ?_)
   rw [HV.out, HU.out]
   exact zc2.bad hb
end Go.Proofs.YtkikhmdpcanidaaGreat
namespace Go.Proofs.YtkikhmdpcanidaaGreat
open Go.RowKit
def CatV (r : Option Addr × Nat × List Value) : Value := .slice r.1 r.2.2.length r.2.1
def CatL (L : List (Option Addr × Nat × List Value)) : List Value := L.flatMap fun r => r.2.2
theorem zc5 {L : List (Option Addr × Nat × List Value)} {k : Nat} {r : Option Addr × Nat × List Value} (h : L[k]? = some r) : CatL (L.take (k + 1)) = CatL (L.take k) ++ r.2.2 := by
 unfold CatL
 rw [List.take_add_one, h, List.flatMap_append]
 simp
theorem CatL_le (L : List (Option Addr × Nat × List Value)) (k : Nat) : (CatL (L.take k)).length ≤ (CatL L).length := by
 have h := congrArg CatL (List.take_append_drop k L)
 unfold CatL at h ⊢
 rw [List.flatMap_append] at h
 rw [← h, List.length_append]
 omega
theorem growI (k : Nat) (hk : k ≤ 1000000) (w : World) : Calls Tryz.prog 121 #[.slice none 0 0, .int .i64 k] w fun e w' => ∃ v, e = .returned v ∧ w'.ownsRow w.heap.size 3 1 v 0 [] ∧ Below w.heap.size w w' := by
 obtain ⟨i0, hi, hz, hs, hb⟩ := info_parts ETI.info
 rcases Nat.eq_zero_or_pos k with rfl | h0
 · clear hi hz hs hb
   go_enter Tryz.func121, Tryz.ntmps121
   go_wp2
   go_ret
   exact ⟨_, rfl, World.ownsRow_nil _ _ _ _, Below.refl _ _⟩
 · have hr := Lib.hid (Lib.run_append_nil_zeros (P := Tryz.prog) w 34 3 34 3 i0 _ .i64 .i64 Tryz.underlying34 Tryz.underlying3 hi hz k h0 (by omega) (by omega) (by rw [hb]; omega))
   have hg1 := grownCap_ge w k 0 3
   have hg2 := grownCap_le_maxLen w k 0 3 (by unfold maxLen; omega)
   generalize grownCap w k 0 3 = C at *
   have h1 : (0 : Int) < (k : Int) := by omega
   clear hi hz hs hb h0
   go_enter Tryz.func121, Tryz.ntmps121
   go_wp2_with (at_builtin; refine Lib.wpList_append_run _ rfl _ _ _ _ rfl _ _ rfl rfl _ _ hr.out ?_)
   go_ret
   refine ⟨_, rfl, ⟨rfl, .inr ⟨w.heap.size, C, _, rfl, Nat.le_refl _, zaf _ rfl, Nat.zero_le _, hg2, ?_, rfl⟩⟩, (Below.refl _ _).drew.alloc (Nat.le_refl _) _⟩
   rw [Array.size_append, size_zeroCells, size_zeroCells, ← Nat.add_mul]
   show (k + (C - k)) * 1 = C * 1
   rw [Nat.add_sub_cancel' hg1]
theorem catI {w : World} {a : Option Addr} {cap m : Nat} {L : List (Option Addr × Nat × List Value)} (ht : Row w 1 a m cap (L.map CatV)) (hr : ∀ r ∈ L, Row w 1 r.1 r.2.2.length r.2.1 r.2.2) (h1 : ∀ r ∈ L, ∀ u ∈ r.2.2, u.oneCell' = true) (hm : m ≤ 100) (hs : (CatL L).length ≤ 900000) :
   Calls Tryz.prog 91 #[.slice a m cap] w fun e w' => ∃ v, e = .returned v ∧ w'.ownsRow w.heap.size 3 1 v (CatL L).length (CatL L) ∧ Below w.heap.size w w' := by
 have hml := ht.len1
 have HT := Lib.hid ht
 have HR := Lib.hid hr
 have H1 := Lib.hid h1
 have HG := Lib.hid (fun W => growI (CatL L).length (by omega) W)
 have hcapn := ht.2.1
 have hcapm := ht.2.2.1
 unfold maxLen at hcapm
 have HM := Lib.hid hml
 have HTL := Lib.hid (show CatL (L.take m) = CatL L from by rw [List.take_of_length_le (Nat.le_of_eq hml)])
 have HLE := Lib.hid (CatL_le L)
 clear ht hr h1 hml
 go_enter Tryz.func91, Tryz.ntmps91
 go_wp2
 go_loop [3, 11] (fun s i => ∃ (k S : Nat), k ≤ m ∧ i = .int .i64 k ∧ s = .int .i64 S ∧ S ≤ 900000 ∧ Hid (S = (CatL (L.take k)).length)) (fun _ i => m - (intOf i).toNat)
 case atStart => exact ⟨0, 0, Nat.zero_le _, rfl, rfl, by omega, Lib.hid rfl⟩
 case round =>
   obtain ⟨k, S, hk, rfl, rfl, hS1, HS⟩ := hrel
   by_cases hlt : k < m
   · obtain ⟨b1, o1, rfl, hb1, hc1⟩ := HT.out.2.2.2.2 (by omega)
     have hqk : L[k]? = some (L[k]'(by rw [HM.out]; exact hlt)) := List.getElem?_eq_getElem _
     have hck := hc1 k _ (by rw [List.getElem?_map, hqk]; rfl)
     unfold CatV at hck
     have hsc := zc5 hqk
     generalize L[k]'_ = q at *
     obtain ⟨qa, qc, qx⟩ := q
     dsimp only at hck hsc
     obtain ⟨N, hN⟩ : ∃ N, N = qx.length := ⟨_, rfl⟩
     rw [← hN] at hck
     have HS2 := Lib.hid (show S + N = (CatL (L.take (k + 1))).length from by rw [hsc, List.length_append, ← hN, HS.out])
     have hSN : S + N ≤ 900000 := by have := HLE.out (k + 1); have := HS2.out; omega
     clear hc1 hqk hsc hN HS
     have i1 : (k : Int) < (m : Int) := by omega
     have i2 : (0 : Int) ≤ (k : Int) := by omega
     have i5 : decide ((S : Int) + (N : Int) < 0) = false := decide_eq_false (by omega)
     go_wp2
     go_round
     case rel => exact ⟨k + 1, S + N, by omega, by go_num, by go_num, hSN, HS2⟩
     case measure => simp [intOf]; omega
   · obtain rfl : k = m := by omega
     obtain rfl : S = (CatL L).length := by have := HS.out; rw [HTL.out] at this; exact this
     clear hk HS
     have hkd : decide (k < k) = false := by simp
     clear hlt
     go_wp2_with (go_at_call 121; refine (HG.out _).mono ?_; rintro e w1 ⟨v1, rfl, hO1, hb1⟩)
     have HO1 := Lib.hid hO1
     have HB1 := Lib.hid hb1
     clear hO1 hb1 hkd HG
     go_loopw [6, 27] (fun v i wr => ∃ j : Nat, j ≤ k ∧ i = .int .i64 j ∧ Hid (wr.ownsRow w.heap.size 3 1 v (CatL (L.take j)).length (CatL (L.take j))) ∧ Hid (Below w.heap.size w wr)) (fun _ i _ => k - (intOf i).toNat)
     case atStart => exact ⟨0, Nat.zero_le _, rfl, HO1, HB1⟩
     case round =>
       obtain ⟨j, hj, rfl, HO, HB⟩ := hrel
       by_cases hlt : j < k
       · obtain ⟨b1, o1, rfl, hb1, hc1⟩ := HT.out.2.2.2.2 (by omega)
         have hqk : L[j]? = some (L[j]'(by rw [HM.out]; exact hlt)) := List.getElem?_eq_getElem _
         have hck := cell?_keep HB.out (hc1 j _ (by rw [List.getElem?_map, hqk]; rfl))
         have hqm := HR.out _ (List.getElem_mem (l := L) (n := j) (by rw [HM.out]; exact hlt))
         have hq1 := H1.out _ (List.getElem_mem (l := L) (n := j) (by rw [HM.out]; exact hlt))
         have hsc := zc5 hqk
         unfold CatV at hck
         have hle := HLE.out (j + 1)
         rw [hsc, List.length_append] at hle
         generalize L[j]'_ = q at *
         obtain ⟨qa, qc, qx⟩ := q
         dsimp only at hck hqm hq1 hsc hle
         have HTS := Lib.hid hsc
         have HPR := Lib.hid (hqm.mono HB.out)
         have HP1 := Lib.hid hq1
         obtain ⟨N, hN⟩ : ∃ N, N = qx.length := ⟨_, rfl⟩
         obtain ⟨S, hS⟩ : ∃ S, S = (CatL (L.take j)).length := ⟨_, rfl⟩
         rw [← hN] at hck HPR hle
         rw [← hS] at HO hle
         have HSN := Lib.hid (And.intro hN hS)
         clear hc1 hqk hsc hqm hq1 hN hS
         have i1 : (j : Int) < (k : Int) := by omega
         have i2 : (0 : Int) ≤ (j : Int) := by omega
         go_wp2_with (at_builtin; refine zal ETI rfl _ _ rfl w.heap.size _ S _ rfl HO.out qa N qc qx rfl HPR.out HP1.out (by unfold maxLen; omega) (by omega) HB.out.size ?_; intro v2 w2 hO2 hg2 _)
         have HO2 := Lib.hid (show w2.ownsRow w.heap.size 3 1 v2 (CatL (L.take (j + 1))).length (CatL (L.take (j + 1))) by
           rw [HTS.out, List.length_append, ← HSN.out.1, ← HSN.out.2]; exact hO2)
         have HB2 := Lib.hid (HB.out.grown hg2 HB.out.size (fun r e => (HO.out.lt r e).1))
         clear hO2 hg2
         go_roundw
         case rel => exact ⟨j + 1, by omega, by go_num, HO2, HB2⟩
         case measure => simp [intOf]; omega
       · obtain rfl : j = k := by omega
         have hO := HO.out
         rw [HTL.out] at hO
         have HO3 := Lib.hid hO
         clear hO
         go_wp2
         go_ret
         exact ⟨_, rfl, HO3.out, HB.out⟩
theorem growB (k : Nat) (hk : k ≤ 1000000) (w : World) : Calls Tryz.prog 78 #[.slice none 0 0, .int .i64 k] w fun e w' => ∃ v, e = .returned v ∧ w'.ownsRow w.heap.size 5 1 v 0 [] ∧ Below w.heap.size w w' := by
 obtain ⟨i0, hi, hz, hs, hb⟩ := info_parts ETB.info
 rcases Nat.eq_zero_or_pos k with rfl | h0
 · clear hi hz hs hb
   go_enter Tryz.func78, Tryz.ntmps78
   go_wp2
   go_ret
   exact ⟨_, rfl, World.ownsRow_nil _ _ _ _, Below.refl _ _⟩
 · have hr := Lib.hid (Lib.run_append_nil_zeros (P := Tryz.prog) w 22 3 22 5 i0 _ .i64 .i64 Tryz.underlying22 Tryz.underlying3 hi hz k h0 (by omega) (by omega) (by rw [hb]; omega))
   have hg1 := grownCap_ge w k 0 5
   have hg2 := grownCap_le_maxLen w k 0 5 (by unfold maxLen; omega)
   generalize grownCap w k 0 5 = C at *
   have h1 : (0 : Int) < (k : Int) := by omega
   clear hi hz hs hb h0
   go_enter Tryz.func78, Tryz.ntmps78
   go_wp2_with (at_builtin; refine Lib.wpList_append_run _ rfl _ _ _ _ rfl _ _ rfl rfl _ _ hr.out ?_)
   go_ret
   refine ⟨_, rfl, ⟨rfl, .inr ⟨w.heap.size, C, _, rfl, Nat.le_refl _, zaf _ rfl, Nat.zero_le _, hg2, ?_, rfl⟩⟩, (Below.refl _ _).drew.alloc (Nat.le_refl _) _⟩
   rw [Array.size_append, size_zeroCells, size_zeroCells, ← Nat.add_mul]
   show (k + (C - k)) * 1 = C * 1
   rw [Nat.add_sub_cancel' hg1]
theorem catB {w : World} {a : Option Addr} {cap m : Nat} {L : List (Option Addr × Nat × List Value)} (ht : Row w 1 a m cap (L.map CatV)) (hr : ∀ r ∈ L, Row w 1 r.1 r.2.2.length r.2.1 r.2.2) (h1 : ∀ r ∈ L, ∀ u ∈ r.2.2, u.oneCell' = true) (hm : m ≤ 100) (hs : (CatL L).length ≤ 900000) :
   Calls Tryz.prog 51 #[.slice a m cap] w fun e w' => ∃ v, e = .returned v ∧ w'.ownsRow w.heap.size 5 1 v (CatL L).length (CatL L) ∧ Below w.heap.size w w' := by
 have hml := ht.len1
 have HT := Lib.hid ht
 have HR := Lib.hid hr
 have H1 := Lib.hid h1
 have HG := Lib.hid (fun W => growB (CatL L).length (by omega) W)
 have hcapn := ht.2.1
 have hcapm := ht.2.2.1
 unfold maxLen at hcapm
 have HM := Lib.hid hml
 have HTL := Lib.hid (show CatL (L.take m) = CatL L from by rw [List.take_of_length_le (Nat.le_of_eq hml)])
 have HLE := Lib.hid (CatL_le L)
 clear ht hr h1 hml
 go_enter Tryz.func51, Tryz.ntmps51
 go_wp2
 go_loop [3, 11] (fun s i => ∃ (k S : Nat), k ≤ m ∧ i = .int .i64 k ∧ s = .int .i64 S ∧ S ≤ 900000 ∧ Hid (S = (CatL (L.take k)).length)) (fun _ i => m - (intOf i).toNat)
 case atStart => exact ⟨0, 0, Nat.zero_le _, rfl, rfl, by omega, Lib.hid rfl⟩
 case round =>
   obtain ⟨k, S, hk, rfl, rfl, hS1, HS⟩ := hrel
   by_cases hlt : k < m
   · obtain ⟨b1, o1, rfl, hb1, hc1⟩ := HT.out.2.2.2.2 (by omega)
     have hqk : L[k]? = some (L[k]'(by rw [HM.out]; exact hlt)) := List.getElem?_eq_getElem _
     have hck := hc1 k _ (by rw [List.getElem?_map, hqk]; rfl)
     unfold CatV at hck
     have hsc := zc5 hqk
     generalize L[k]'_ = q at *
     obtain ⟨qa, qc, qx⟩ := q
     dsimp only at hck hsc
     obtain ⟨N, hN⟩ : ∃ N, N = qx.length := ⟨_, rfl⟩
     rw [← hN] at hck
     have HS2 := Lib.hid (show S + N = (CatL (L.take (k + 1))).length from by rw [hsc, List.length_append, ← hN, HS.out])
     have hSN : S + N ≤ 900000 := by have := HLE.out (k + 1); have := HS2.out; omega
     clear hc1 hqk hsc hN HS
     have i1 : (k : Int) < (m : Int) := by omega
     have i2 : (0 : Int) ≤ (k : Int) := by omega
     have i5 : decide ((S : Int) + (N : Int) < 0) = false := decide_eq_false (by omega)
     go_wp2
     go_round
     case rel => exact ⟨k + 1, S + N, by omega, by go_num, by go_num, hSN, HS2⟩
     case measure => simp [intOf]; omega
   · obtain rfl : k = m := by omega
     obtain rfl : S = (CatL L).length := by have := HS.out; rw [HTL.out] at this; exact this
     clear hk HS
     have hkd : decide (k < k) = false := by simp
     clear hlt
     go_wp2_with (go_at_call 78; refine (HG.out _).mono ?_; rintro e w1 ⟨v1, rfl, hO1, hb1⟩)
     have HO1 := Lib.hid hO1
     have HB1 := Lib.hid hb1
     clear hO1 hb1 hkd HG
     go_loopw [6, 27] (fun v i wr => ∃ j : Nat, j ≤ k ∧ i = .int .i64 j ∧ Hid (wr.ownsRow w.heap.size 5 1 v (CatL (L.take j)).length (CatL (L.take j))) ∧ Hid (Below w.heap.size w wr)) (fun _ i _ => k - (intOf i).toNat)
     case atStart => exact ⟨0, Nat.zero_le _, rfl, HO1, HB1⟩
     case round =>
       obtain ⟨j, hj, rfl, HO, HB⟩ := hrel
       by_cases hlt : j < k
       · obtain ⟨b1, o1, rfl, hb1, hc1⟩ := HT.out.2.2.2.2 (by omega)
         have hqk : L[j]? = some (L[j]'(by rw [HM.out]; exact hlt)) := List.getElem?_eq_getElem _
         have hck := cell?_keep HB.out (hc1 j _ (by rw [List.getElem?_map, hqk]; rfl))
         have hqm := HR.out _ (List.getElem_mem (l := L) (n := j) (by rw [HM.out]; exact hlt))
         have hq1 := H1.out _ (List.getElem_mem (l := L) (n := j) (by rw [HM.out]; exact hlt))
         have hsc := zc5 hqk
         unfold CatV at hck
         have hle := HLE.out (j + 1)
         rw [hsc, List.length_append] at hle
         generalize L[j]'_ = q at *
         obtain ⟨qa, qc, qx⟩ := q
         dsimp only at hck hqm hq1 hsc hle
         have HTS := Lib.hid hsc
         have HPR := Lib.hid (hqm.mono HB.out)
         have HP1 := Lib.hid hq1
         obtain ⟨N, hN⟩ : ∃ N, N = qx.length := ⟨_, rfl⟩
         obtain ⟨S, hS⟩ : ∃ S, S = (CatL (L.take j)).length := ⟨_, rfl⟩
         rw [← hN] at hck HPR hle
         rw [← hS] at HO hle
         have HSN := Lib.hid (And.intro hN hS)
         clear hc1 hqk hsc hqm hq1 hN hS
         have i1 : (j : Int) < (k : Int) := by omega
         have i2 : (0 : Int) ≤ (j : Int) := by omega
         go_wp2_with (at_builtin; refine zal ETB rfl _ _ rfl w.heap.size _ S _ rfl HO.out qa N qc qx rfl HPR.out HP1.out (by unfold maxLen; omega) (by omega) HB.out.size ?_; intro v2 w2 hO2 hg2 _)
         have HO2 := Lib.hid (show w2.ownsRow w.heap.size 5 1 v2 (CatL (L.take (j + 1))).length (CatL (L.take (j + 1))) by
           rw [HTS.out, List.length_append, ← HSN.out.1, ← HSN.out.2]; exact hO2)
         have HB2 := Lib.hid (HB.out.grown hg2 HB.out.size (fun r e => (HO.out.lt r e).1))
         clear hO2 hg2
         go_roundw
         case rel => exact ⟨j + 1, by omega, by go_num, HO2, HB2⟩
         case measure => simp [intOf]; omega
       · obtain rfl : j = k := by omega
         have hO := HO.out
         rw [HTL.out] at hO
         have HO3 := Lib.hid hO
         clear hO
         go_wp2
         go_ret
         exact ⟨_, rfl, HO3.out, HB.out⟩
end Go.Proofs.YtkikhmdpcanidaaGreat
namespace Go.Proofs.YtkikhmdpcanidaaGreat
open Go.RowKit Go.Sort
def zipB (p b : List UInt8) : List UInt8 := 0x78 :: 0x9c :: (p ++ by4 (adV b))
theorem zb5 (p b : List UInt8) : (zipB p b).length = p.length + 6 := by unfold zipB; simp [zbZ]
def ZipEnd (w : World) (b : List UInt8) (kind : Nat) (e : Ending) (w' : World) : Prop :=
 Below w.heap.size w w' ∧ ∃ (p : List UInt8) (v : Value) (Z : List Bool) (k : Nat), e = .returned (.tuple #[v, .int .i64 0]) ∧ w'.ownsRow w.heap.size 5 1 v (zipB p b).length ((zipB p b).map u8C) ∧ k ≤ 2 ∧ (kind ≤ 2 → k = kind) ∧ zdB 0 k true b Z ∧ zaX p false Z ∧ Z.length ≤ 60 * b.length + 8000
theorem row_cells {w : World} {t : TypeId} (vs : List Value) (hl : vs.length ≤ 100) : Row (w.alloc (.cells vs.toArray t)) 1 (some ⟨w.heap.size, 0, none⟩) vs.length vs.length vs :=
 ⟨by rw [Nat.mul_one], Nat.le_refl _, by unfold maxLen; omega, fun h => (by cases h), fun _ => ⟨_, 0, rfl, by rw [zac]; exact Nat.lt_succ_self _, fun j u hj => by
   rw [Nat.zero_add, cell_of_row _ _ _ _ _ _ (zaf _ rfl), List.getElem?_toArray]; exact hj⟩⟩
theorem u8_one (l : List UInt8) : ∀ u ∈ l.map u8C, u.oneCell' = true := fun u hu => by
 obtain ⟨x, -, rfl⟩ := List.mem_map.1 hu
 rfl
theorem head2 : headBy 2 = [0x78, 0x9c] := by decide
theorem zfF {w : World} {a : Option Addr} {n cap kind : Nat} {b : List UInt8} (hD : Calls Tryz.prog 11 #[.slice a n cap, .int .i64 kind] w (DefEnd w b kind)) (hr : Row w 1 a n cap (b.map u8C)) (hal : ∀ x, a = some x → x.block < w.heap.size) (hb : n ≤ 2000) :
   Calls Tryz.prog 25 #[.slice a n cap, .int .i64 kind] w (ZipEnd w b kind) := by
 have HD := Lib.hid hD
 have HR := Lib.hid hr
 have HAL := Lib.hid hal
 have hl : b.length = n := hr.len1
 have HL := Lib.hid hl
 have HH := Lib.hid (fun W => head_any 2 W (by omega))
 have HBY := Lib.hid (fun W => zeK (w := W) (adV_lt b))
 clear hD hr hal hl
 go_enter Tryz.func25, Tryz.ntmps25
 go_wp2_with fail
 refine HD.out.mono ?_
 rintro e w1 ⟨hb1, p, v, Z, k, rfl, hO, hk, hkk, hP, hw, hz⟩
 obtain ⟨a1, c1, rfl, hR1, -⟩ := Row.of_owns hO
 have HB1 := Lib.hid hb1
 have HP := Lib.hid (And.intro hk (And.intro hkk (And.intro hP (And.intro hw hz))))
 have hpl : p.length ≤ 200000 := by have := wrote_len hw; have := HL.out; omega
 have HR1 := Lib.hid hR1
 clear hb1 hO hk hkk hP hw hz hR1 HD
 go_wp2_with fail
 refine (HH.out _).mono ?_
 rintro e w2 ⟨hb2, vh, rfl, hOH⟩
 obtain ⟨ah, ch, rfl, hRH, -⟩ := Row.of_owns hOH
 rw [head2] at hRH
 have HB2 := Lib.hid (HB1.out.trans (hb2.mono HB1.out.size))
 have HRH := Lib.hid hRH
 have HR2 := Lib.hid (HR1.out.mono hb2)
 have HSU := Lib.hid (asum_any (HR.out.mono HB2.out) hb (fun x hx => Nat.lt_of_lt_of_le (HAL.out x hx) HB2.out.size))
 clear hb2 hOH hRH HR1 HB1
 go_wp2_with fail
 refine HSU.out.mono ?_
 rintro e w3 ⟨rfl, hb3⟩
 have HB3 := Lib.hid (HB2.out.trans (hb3.mono HB2.out.size))
 have HRH3 := Lib.hid (HRH.out.mono hb3)
 have HR3 := Lib.hid (HR2.out.mono hb3)
 clear hb3 HB2 HRH HR2 HSU
 go_wp2_with fail
 refine (HBY.out _).mono ?_
 rintro e w4 ⟨vs, rfl, hOS, hb4⟩
 obtain ⟨aS, cS, rfl, hRS, -⟩ := Row.of_owns hOS
 have HB4 := Lib.hid (HB3.out.trans (hb4.mono HB3.out.size))
 have hbA := zai w4 (.cells #[.slice ah 2 ch, .slice a1 p.length c1, .slice aS 4 cS] 22)
 have HB5 := Lib.hid (HB4.out.trans (hbA.mono HB4.out.size))
 have q1 := (HRH3.out.mono hb4).mono hbA
 have q2 := (HR3.out.mono hb4).mono hbA
 have q3 := hRS.mono hbA
 have HCAT := Lib.hid (by
   have h := catB (w := w4.alloc (.cells #[.slice ah 2 ch, .slice a1 p.length c1, .slice aS 4 cS] 22)) (a := some ⟨w4.heap.size, 0, none⟩) (cap := 3) (m := 3) (L := [(ah, ch, ([0x78, 0x9c] : List UInt8).map u8C), (a1, c1, p.map u8C), (aS, cS, (by4 (adV b)).map u8C)])
     (by
       have h := row_cells (w := w4) (t := 22) [.slice ah 2 ch, .slice a1 p.length c1, .slice aS 4 cS] (by simp)
       simpa [CatV, zbZ] using h)
     (fun r hr => by
       simp only [List.mem_cons, List.not_mem_nil, or_false] at hr
       rcases hr with rfl | rfl | rfl
       · exact q1
       · show Row _ 1 a1 (p.map u8C).length c1 (p.map u8C)
         rw [List.length_map]; exact q2
       · show Row _ 1 aS ((by4 (adV b)).map u8C).length cS ((by4 (adV b)).map u8C)
         rw [List.length_map, zbZ]; exact q3)
     (fun r hr => by
       simp only [List.mem_cons, List.not_mem_nil, or_false] at hr
       rcases hr with rfl | rfl | rfl
       · exact u8_one _
       · exact u8_one _
       · exact u8_one _)
     (by omega)
     (by simp [CatL, zbZ]; omega)
   have e : CatL [(ah, ch, ([0x78, 0x9c] : List UInt8).map u8C), (a1, c1, p.map u8C), (aS, cS, (by4 (adV b)).map u8C)] = (zipB p b).map u8C := by
     simp [CatL, zipB]
   rw [e, List.length_map] at h
   exact h)
 clear hb4 hOS hRS hbA q1 q2 q3 HB3 HRH3 HR3 HB4
 go_wp2_with fail
 refine HCAT.out.mono ?_
 rintro e w6 ⟨v6, rfl, hO6, hb6⟩
 have HB6 := Lib.hid (HB5.out.trans (hb6.mono HB5.out.size))
 have HO6 := Lib.hid (zaD hO6 HB5.out.size)
 clear hO6 hb6 HCAT HB5
 go_wp2_with fail
 go_ret2
 obtain ⟨h1, h2, h3, h4, h5⟩ := HP.out
 exact ⟨HB6.out, p, v6, Z, k, rfl, HO6.out, h1, h2, h3, h4, h5⟩
theorem zip_unp {p b : List UInt8} {Z : List Bool} {k most : Nat} (hP : zdB 0 k true b Z) (hw : zaX p false Z) (hm : b.length ≤ most) (h16 : most ≤ 16777216) (behind : List UInt8) : unpM (zipB p b ++ behind) most = (b, (zipB p b).length, 0) := by
 unfold unpM
 rw [if_neg (by omega)]
 have h := unp_back (behind := behind) (most := most) (zbb.one (p := 0) hP) (by simp) hw hm
 rw [zb5]
 show unpV (zipB p b ++ behind) most = _
 rw [show zipB p b ++ behind = 0x78 :: 0x9c :: (p ++ (by4 (adV b) ++ behind)) from by simp [zipB]]
 exact h
theorem row_first2 {w : World} {a : Option Addr} {cap : Nat} {p b : List UInt8} (h : Row w 1 a (zipB p b).length cap ((zipB p b).map u8C)) : Row w 1 a 2 cap (([0x78, 0x9c] : List UInt8).map u8C) := by
 have hl := zb5 p b
 obtain ⟨h1, h2, h3, h4, h5⟩ := h
 obtain ⟨bb, off, rfl, hb, hc⟩ := h5 (by omega)
 refine ⟨rfl, by omega, h3, h4, fun _ => ⟨bb, off, rfl, hb, fun j u hj => hc j u ?_⟩⟩
 unfold zipB
 match j, hj with
 | 0, hj => exact hj
 | 1, hj => exact hj
 | j + 2, hj => simp at hj
set_option maxRecDepth 20000 in
theorem zeI (w : World) : Calls Tryz.prog 18 #[] w fun e w' => e = .returned (.bool true) ∧ Below w.heap.size w w' := by
 have kc := fun (W : World) (C : Array Value) (n c : Nat) => Lib.run_convert_bytes_const (P := Tryz.prog) W 22 5 C n c Tryz.underlying22 Tryz.underlying5
 have hrow : Row (w.alloc (.cells #[.int .u8 97] 5 (1, 2))) 1 (some ⟨w.heap.size, 0, none⟩) 1 1 (([97] : List UInt8).map u8C) :=
   ⟨rfl, Nat.le_refl _, by simp [maxLen], fun h => (by cases h), fun _ => ⟨_, _, rfl, by rw [zac]; omega, fun j u hj => by
     rw [Nat.zero_add, World.cell?_alloc_mark]; simpa [u8C] using hj⟩⟩
 have hal : ∀ x, some (⟨w.heap.size, 0, none⟩ : Addr) = some x → x.block < (w.alloc (.cells #[.int .u8 97] 5 (1, 2))).heap.size := fun x hx => by cases hx; rw [zac]; exact Nat.lt_succ_self _
 have HP := Lib.hid (zfF (zcF (kind := 1) (b := [97]) (by omega) (fun h => by omega) hrow hal (by omega)) hrow hal (by omega))
 have HB := Lib.hid (zai w (.cells #[.int .u8 97] 5 (1, 2)))
 clear hrow hal
 go_enter Tryz.func18, Tryz.ntmps18
 go_wp2_with fail
 refine HP.out.mono ?_
 rintro e w1 ⟨hb1, p, v, Z, k, rfl, hO, -, hkk, hP, hw, -⟩
 obtain rfl := hkk (by omega)
 have hbl : p.length ≤ 100 := by
   rcases hP with ⟨h, -⟩ | ⟨-, ts, hts, rfl⟩ | ⟨h, -⟩
   · cases h
   · have h1 := fixB_le true (zb1 hts)
     have h2 := zek ts hts
     have h3 := wrote_len hw
     simp at h2
     omega
   · cases h
 obtain ⟨a1, c1, rfl, hR, -⟩ := Row.of_owns hO
 have hlen := zb5 p [97]
 have HU := Lib.hid (zdl (b := zipB p [97]) 9 hR (fun x hx => (hO.lt x.block (by rw [hx]; rfl)).2) (by omega) (fun M hM _ => by
   have h := endI_le ((zipB p [97]).drop 2) M
   omega))
 have hv : unpM (zipB p [97]) 9 = ([97], (zipB p [97]).length, 0) := by
   have h := zip_unp hP hw (most := 9) (by decide) (by decide) []
   rw [List.append_nil] at h
   exact h
 rw [hv] at HU
 have HC1 := Lib.hid (row_first2 hR)
 have HB1 := Lib.hid (HB.out.trans (hb1.mono HB.out.size))
 obtain ⟨P, hPe⟩ : ∃ P, P = (zipB p [97]).length := ⟨_, rfl⟩
 rw [← hPe] at HU hlen ⊢
 have hP6 : 6 ≤ P ∧ P ≤ 200 := by omega
 clear hlen hb1 hO hkk hP hw hR hv hPe HP HB
 go_wp2_with fail
 refine HU.out.mono ?_
 rintro e w2 ⟨v2, B2, rfl, hO2, hb2⟩
 obtain ⟨a2, c2, rfl, -, -⟩ := Row.of_owns hO2
 have hcx : (convert 22 9 (.slice a2 ([97] : List UInt8).length c2)).run Tryz.prog w2 = .ok (.string (mkB7 [97])) w2 := conv_own7 hO2
 have hcy : (convert 22 9 (.slice a1 ([0x78, 0x9c] : List UInt8).length c1)).run Tryz.prog w2 = .ok (.string (mkB7 [0x78, 0x9c])) w2 := conv_z (HC1.out.mono hb2)
 have HB2 := Lib.hid (HB1.out.trans (hb2.mono HB1.out.size))
 have HCK := Lib.hid (check_any (Row.nil w2 1) (b := []))
 have hck : chkV [] = 10 := rfl
 rw [hck] at HCK
 have hcap : 2 ≤ c1 := HC1.out.2.1
 have hmin : ¬ ((P : Int) < 2) := by omega
 have hmin2 : (2 : Int) ≤ (P : Int) := by omega
 have hc2 : (2 : Int) ≤ (c1 : Int) := by omega
 have hd2 : decide ((P : Int) < 2) = false := decide_eq_false (by omega)
 clear hO2 hb2 HU HC1 hck
 dsimp only [List.length_cons, List.length_nil] at hcx hcy ⊢
 have ht : ((mkB7 [97]).toList == [97]) = true := by kernel_rfl
 have ht2 : ((mkB7 [0x78, 0x9c]).toList == [120, 156]) = true := by kernel_rfl
 go_wp2_with fail
 refine HCK.out.mono ?_
 rintro e w3 ⟨rfl, q, rfl⟩
 have HB3 := Lib.hid (zau HB2.out q)
 go_wp2_with fail
 go_ret
 exact ⟨rfl, HB3.out⟩
theorem zfq (a a2 : Option Addr) (n c n2 c2 : Nat) (w : World) (hn : n ≤ 1000000000) (hn2 : n2 ≤ 1000000000) :
   Calls Tryz.prog 32 #[.slice a n c, .slice a2 n2 c2] w fun e w' => e = .returned (.int .i64 ((n : Int) - n2)) ∧ w = w' := by
 go_enter Tryz.func32, Tryz.ntmps32
 go_wp2
 go_ret
 exact ⟨rfl, rfl⟩
theorem min3_any {w : World} {g : Nat} {a0 a1 a2 : Option Addr} {n0 n1 n2 c0 c1 c2 : Nat} (z0 : w.cell? ⟨g, 0, none⟩ = some (.slice a0 n0 c0)) (z1 : w.cell? ⟨g, 1, none⟩ = some (.slice a1 n1 c1)) (z2 : w.cell? ⟨g, 2, none⟩ = some (.slice a2 n2 c2))
   (h0 : n0 ≤ 1000000000) (h1 : n1 ≤ 1000000000) (h2 : n2 ≤ 1000000000) :
   Calls Tryz.prog 31 #[.slice (some ⟨g, 0, none⟩) 3 3, .func (.func 32) #[] #[]] w fun e w' => w' = w ∧ ((e = .returned (.slice a0 n0 c0) ∧ n0 ≤ n1 ∧ n0 ≤ n2) ∨ (e = .returned (.slice a1 n1 c1) ∧ n1 ≤ n0 ∧ n1 ≤ n2) ∨ (e = .returned (.slice a2 n2 c2) ∧ n2 ≤ n0 ∧ n2 ≤ n1)) := by
 go_enter Tryz.func31, Tryz.ntmps31
 go_wp2_with fail
 go_loopw [5, 6] (fun v vi wr => wr = w ∧ ((v = .slice a0 n0 c0 ∧ vi = .int .i64 1) ∨ (v = .slice a0 n0 c0 ∧ vi = .int .i64 2 ∧ n0 ≤ n1) ∨ (v = .slice a1 n1 c1 ∧ vi = .int .i64 2 ∧ n1 < n0) ∨ (v = .slice a0 n0 c0 ∧ vi = .int .i64 3 ∧ n0 ≤ n1 ∧ n0 ≤ n2) ∨ (v = .slice a1 n1 c1 ∧ vi = .int .i64 3 ∧ n1 ≤ n0 ∧ n1 ≤ n2) ∨ (v = .slice a2 n2 c2 ∧ vi = .int .i64 3 ∧ n2 ≤ n0 ∧ n2 ≤ n1))) (fun _ vi _ => 3 - (intOf vi).toNat)
 case atStart => exact ⟨rfl, .inl ⟨rfl, rfl⟩⟩
 case round =>
   obtain ⟨rfl, ⟨rfl, rfl⟩ | ⟨rfl, rfl, q1⟩ | ⟨rfl, rfl, q1⟩ | ⟨rfl, rfl, q1, q2⟩ | ⟨rfl, rfl, q1, q2⟩ | ⟨rfl, rfl, q1, q2⟩⟩ := hrel
   · go_wp2_with fail
     refine (zfq _ _ _ _ _ _ _ h1 h0).mono ?_
     rintro e W ⟨rfl, rfl⟩
     by_cases hc : n1 < n0
     · have hd : decide ((n1 : Int) - (n0 : Int) < 0) = true := decide_eq_true (by omega)
       go_wp2_with fail
       go_roundw
       case rel => exact ⟨by trivial, .inr (.inr (.inl ⟨rfl, rfl, hc⟩))⟩
       case measure => simp [intOf]
     · have hd : decide ((n1 : Int) - (n0 : Int) < 0) = false := decide_eq_false (by omega)
       go_wp2_with fail
       go_roundw
       case rel => exact ⟨by trivial, .inr (.inl ⟨rfl, rfl, by omega⟩)⟩
       case measure => simp [intOf]
   · go_wp2_with fail
     refine (zfq _ _ _ _ _ _ _ h2 h0).mono ?_
     rintro e W ⟨rfl, rfl⟩
     by_cases hc : n2 < n0
     · have hd : decide ((n2 : Int) - (n0 : Int) < 0) = true := decide_eq_true (by omega)
       go_wp2_with fail
       go_roundw
       case rel => exact ⟨by trivial, .inr (.inr (.inr (.inr (.inr ⟨rfl, rfl, by omega, by omega⟩))))⟩
       case measure => simp [intOf]
     · have hd : decide ((n2 : Int) - (n0 : Int) < 0) = false := decide_eq_false (by omega)
       go_wp2_with fail
       go_roundw
       case rel => exact ⟨by trivial, .inr (.inr (.inr (.inl ⟨rfl, rfl, by omega, by omega⟩)))⟩
       case measure => simp [intOf]
   · go_wp2_with fail
     refine (zfq _ _ _ _ _ _ _ h2 h1).mono ?_
     rintro e W ⟨rfl, rfl⟩
     by_cases hc : n2 < n1
     · have hd : decide ((n2 : Int) - (n1 : Int) < 0) = true := decide_eq_true (by omega)
       go_wp2_with fail
       go_roundw
       case rel => exact ⟨by trivial, .inr (.inr (.inr (.inr (.inr ⟨rfl, rfl, by omega, by omega⟩))))⟩
       case measure => simp [intOf]
     · have hd : decide ((n2 : Int) - (n1 : Int) < 0) = false := decide_eq_false (by omega)
       go_wp2_with fail
       go_roundw
       case rel => exact ⟨by trivial, .inr (.inr (.inr (.inr (.inl ⟨rfl, rfl, by omega, by omega⟩))))⟩
       case measure => simp [intOf]
   · go_wp2_with fail
     go_ret
     exact ⟨rfl, .inl ⟨rfl, q1, q2⟩⟩
   · go_wp2_with fail
     go_ret
     exact ⟨rfl, .inr (.inl ⟨rfl, q1, q2⟩)⟩
   · go_wp2_with fail
     go_ret
     exact ⟨rfl, .inr (.inr ⟨rfl, q1, q2⟩)⟩
end Go.Proofs.YtkikhmdpcanidaaGreat
namespace Go.Proofs.YtkikhmdpcanidaaGreat
def incN (L : List Nat) (k : Nat) : List Nat := L.set k (L.getD k 0 + 1)
theorem zdr (L : List Nat) (k v j : Nat) : (L.set k v).getD j 0 = if k = j ∧ k < L.length then v else L.getD j 0 := by
 rw [List.getD_eq_getElem?_getD, List.getElem?_set]
 by_cases e : k = j
 · subst e
   by_cases h : k < L.length
   · rw [if_pos rfl, if_pos h, if_pos ⟨rfl, h⟩]; rfl
   · rw [if_pos rfl, if_neg h, if_neg (fun q => h q.2), List.getD_eq_getElem?_getD, List.getElem?_eq_none (by omega)]
 · rw [if_neg e, if_neg (fun q => e q.1), List.getD_eq_getElem?_getD]
theorem zdL (L : List Nat) (k : Nat) : (incN L k).length = L.length := by simp [incN]
theorem incN_at (L : List Nat) (k j : Nat) : (incN L k).getD j 0 = if k = j ∧ k < L.length then L.getD k 0 + 1 else L.getD j 0 := zdr _ _ _ _
theorem zdW (L : List Nat) (k j : Nat) : L.getD j 0 ≤ (incN L k).getD j 0 := by
 rw [incN_at]
 split
 · rename_i h; rw [← h.1]; omega
 · omega
theorem zfJ {L : List Nat} {m : Nat} (h : ∀ j, L.getD j 0 ≤ m) (k j : Nat) : (incN L k).getD j 0 ≤ m + 1 := by
 have h1 := h j
 have h2 := h k
 rw [incN_at]
 split <;> omega
theorem zdE {L : List Nat} {k : Nat} (h : k < L.length) : 0 < (incN L k).getD k 0 := by
 rw [incN_at, if_pos ⟨rfl, h⟩]; omega
def cntS (p : List Nat × List Nat) (t : LT) : List Nat × List Nat := if t.len = 0 then (incN p.1 t.b.toNat, p.2) else (incN p.1 (symN t.len), incN p.2 (farN t.far))
def cntV (ts : List LT) : List Nat × List Nat := ts.foldl cntS ((List.replicate 286 0).set 256 1, List.replicate 30 0)
theorem cntV_snoc (ts : List LT) (t : LT) : cntV (ts ++ [t]) = cntS (cntV ts) t := by unfold cntV; rw [List.foldl_append]; rfl
structure CntI (n : Nat) (p : List Nat × List Nat) : Prop where
 la : p.1.length = 286
 lb : p.2.length = 30
 ma : ∀ k, p.1.getD k 0 ≤ n + 1
 mb : ∀ k, p.2.getD k 0 ≤ n
 e : 0 < p.1.getD 256 0
def CntN (p : List Nat × List Nat) (t : LT) : Prop := if t.len = 0 then 0 < p.1.getD t.b.toNat 0 else 0 < p.1.getD (symN t.len) 0 ∧ 0 < p.2.getD (farN t.far) 0
theorem rep_at (n k : Nat) : (List.replicate n 0).getD k 0 = 0 := by
 rw [List.getD_eq_getElem?_getD, List.getElem?_replicate]; split <;> rfl
theorem cnt_zero : CntI 0 (cntV []) := by
 refine ⟨?_, ?_, fun k => ?_, fun k => ?_, ?_⟩
 · show ((List.replicate 286 0).set 256 1).length = 286
   rw [List.length_set, List.length_replicate]
 · show (List.replicate 30 0).length = 30
   rw [List.length_replicate]
 · show ((List.replicate 286 0).set 256 1).getD k 0 ≤ 1
   rw [zdr, rep_at]; split <;> omega
 · show (List.replicate 30 0).getD k 0 ≤ 0
   rw [rep_at]; omega
 · show 0 < ((List.replicate 286 0).set 256 1).getD 256 0
   rw [zdr, if_pos ⟨rfl, by rw [List.length_replicate]; decide⟩]; decide
theorem may_idx {t : LT} (h : t.may) : (t.len = 0 → t.b.toNat < 286) ∧ (t.len ≠ 0 → 3 ≤ t.len ∧ t.len ≤ 258 ∧ 1 ≤ t.far ∧ t.far ≤ 32768 ∧ symN t.len < 286 ∧ farN t.far < 30) := by
 unfold LT.may at h
 by_cases h0 : t.len = 0
 · exact ⟨fun _ => by have := t.b.toNat_lt; omega, fun h => absurd h0 h⟩
 · rw [if_neg h0] at h
   obtain ⟨-, m3, m8, f1, f2⟩ := h
   have y := zc4 m3 m8
   have z := zcO f1 f2
   refine ⟨fun h => absurd h h0, fun _ => ⟨m3, m8, f1, f2, ?_, ?_⟩⟩
   · obtain ⟨y1, y2, -⟩ := y; omega
   · obtain ⟨z1, -⟩ := z; omega
theorem CntI.step {n : Nat} {p : List Nat × List Nat} (h : CntI n p) (t : LT) : CntI (n + 1) (cntS p t) := by
 unfold cntS
 split
 · exact ⟨by rw [zdL]; exact h.la, h.lb, fun k => zfJ h.ma _ k, fun k => Nat.le_succ_of_le (h.mb k), Nat.lt_of_lt_of_le h.e (zdW _ _ _)⟩
 · exact ⟨by rw [zdL]; exact h.la, by rw [zdL]; exact h.lb, fun k => zfJ h.ma _ k, fun k => zfJ h.mb _ k, Nat.lt_of_lt_of_le h.e (zdW _ _ _)⟩
theorem CntN.step {p : List Nat × List Nat} {t : LT} (h : CntN p t) (u : LT) : CntN (cntS p u) t := by
 have e1 : ∀ k, p.1.getD k 0 ≤ (cntS p u).1.getD k 0 := fun k => by unfold cntS; split <;> exact zdW _ _ _
 have e2 : ∀ k, p.2.getD k 0 ≤ (cntS p u).2.getD k 0 := fun k => by
   unfold cntS; split
   · exact Nat.le_refl _
   · exact zdW _ _ _
 unfold CntN at h ⊢
 split
 · rename_i h0; rw [if_pos h0] at h; exact Nat.lt_of_lt_of_le h (e1 _)
 · rename_i h0; rw [if_neg h0] at h; exact ⟨Nat.lt_of_lt_of_le h.1 (e1 _), Nat.lt_of_lt_of_le h.2 (e2 _)⟩
theorem CntN.new {n : Nat} {p : List Nat × List Nat} (h : CntI n p) {t : LT} (ht : t.may) : CntN (cntS p t) t := by
 obtain ⟨h1, h2⟩ := may_idx ht
 unfold CntN cntS
 by_cases h0 : t.len = 0
 · rw [if_pos h0, if_pos h0]
   exact zdE (by rw [h.la]; exact h1 h0)
 · rw [if_neg h0, if_neg h0]
   obtain ⟨-, -, -, -, q1, q2⟩ := h2 h0
   exact ⟨zdE (by rw [h.la]; exact q1), zdE (by rw [h.lb]; exact q2)⟩
theorem cnt_all (ts : List LT) (hts : ∀ t ∈ ts, t.may) : ∀ k, k ≤ ts.length → CntI k (cntV (ts.take k)) ∧ ∀ t ∈ ts.take k, CntN (cntV (ts.take k)) t
 | 0, _ => ⟨cnt_zero, fun t h => by simp at h⟩
 | k + 1, hk => by
   obtain ⟨h1, h2⟩ := cnt_all ts hts k (by omega)
   have e : ts.take (k + 1) = ts.take k ++ [ts[k]'hk] := by rw [List.take_add_one, List.getElem?_eq_getElem hk]; rfl
   rw [e, cntV_snoc]
   refine ⟨h1.step _, fun t ht => ?_⟩
   rcases List.mem_append.1 ht with h | h
   · exact (h2 t h).step _
   · rw [List.mem_singleton.1 h]
     exact CntN.new h1 (hts _ (List.getElem_mem _))
def zbN (L : List Nat) : List Nat := (L.set 0 (max (L.getD 0 0) 1)).set 1 (max (L.getD 1 0) 1)
theorem zby (L : List Nat) : (zbN L).length = L.length := by simp [zbN]
theorem bumpN_at (L : List Nat) (h : 2 ≤ L.length) (k : Nat) : (zbN L).getD k 0 = if k < 2 then max (L.getD k 0) 1 else L.getD k 0 := by
 unfold zbN
 rw [zdr, zdr, List.length_set]
 by_cases h1 : 1 = k
 · subst h1; rw [if_pos ⟨rfl, by omega⟩, if_pos (by omega)]
 · rw [if_neg (fun q => h1 q.1)]
   by_cases h0 : 0 = k
   · subst h0; rw [if_pos ⟨rfl, by omega⟩, if_pos (by omega)]
   · rw [if_neg (fun q => h0 q.1), if_neg (by omega)]
theorem zcS (L : List Nat) (h : 2 ≤ L.length) (k : Nat) : L.getD k 0 ≤ (zbN L).getD k 0 := by
 rw [bumpN_at L h]; split <;> omega
theorem bumpN_le {L : List Nat} (h : 2 ≤ L.length) {m : Nat} (hm : ∀ k, L.getD k 0 ≤ m) (k : Nat) : (zbN L).getD k 0 ≤ m + 1 := by
 have := hm k
 rw [bumpN_at L h]; split <;> omega
def cntR (R : List (Nat × Nat)) : List Nat := R.foldl (fun L x => incN L x.1) (List.replicate 19 0)
theorem cntR_snoc (R : List (Nat × Nat)) (x : Nat × Nat) : cntR (R ++ [x]) = incN (cntR R) x.1 := by unfold cntR; rw [List.foldl_append]; rfl
theorem cntR_all (R : List (Nat × Nat)) (hR : ∀ x ∈ R, x.1 < 19) : ∀ k, k ≤ R.length → (cntR (R.take k)).length = 19 ∧ (∀ j, (cntR (R.take k)).getD j 0 ≤ k) ∧ ∀ x ∈ R.take k, 0 < (cntR (R.take k)).getD x.1 0
 | 0, _ => ⟨rfl, fun j => by show (List.replicate 19 0).getD j 0 ≤ 0; rw [rep_at]; omega, fun t h => by simp at h⟩
 | k + 1, hk => by
   obtain ⟨h1, h2, h3⟩ := cntR_all R hR k (by omega)
   have e : R.take (k + 1) = R.take k ++ [R[k]'hk] := by rw [List.take_add_one, List.getElem?_eq_getElem hk]; rfl
   rw [e, cntR_snoc]
   refine ⟨by rw [zdL]; exact h1, fun j => zfJ h2 _ j, fun x hx => ?_⟩
   rcases List.mem_append.1 hx with h | h
   · exact Nat.lt_of_lt_of_le (h3 x h) (zdW _ _ _)
   · rw [List.mem_singleton.1 h]
     exact zdE (by rw [h1]; exact hR _ (List.getElem_mem _))
theorem CntN.bump {p : List Nat × List Nat} {t : LT} (h : CntN p t) (h1 : 2 ≤ p.1.length) (h2 : 2 ≤ p.2.length) : CntT (iL (zbN p.1)) (iL (zbN p.2)) t := by
 unfold CntN at h
 unfold CntT
 split
 · rename_i h0; rw [if_pos h0] at h; rw [zaS]; have := zcS p.1 h1 t.b.toNat; omega
 · rename_i h0; rw [if_neg h0] at h; rw [zaS, zaS]
   have q1 := zcS p.1 h1 (symN t.len)
   have q2 := zcS p.2 h2 (farN t.far)
   exact ⟨by omega, by omega⟩
end Go.Proofs.YtkikhmdpcanidaaGreat
namespace Go.Proofs.YtkikhmdpcanidaaGreat
inductive HT where
 | leaf (s : Nat)
 | node (a b : HT)
namespace HT
def zcz : HT → List Nat
 | leaf s => [s]
 | node a b => a.zcz ++ b.zcz
def lay : HT → Nat → List Nat → List Nat
 | leaf s, d, l => l.set s (max 1 d)
 | node a b, d, l => b.lay (d + 1) (a.lay (d + 1) l)
theorem zdt : ∀ t : HT, 1 ≤ t.zcz.length
 | leaf _ => Nat.le_refl _
 | node a b => by have := zdt a; simp only [zcz, List.length_append]; omega
theorem lay_len : ∀ (t : HT) (d : Nat) (l : List Nat), (t.lay d l).length = l.length
 | leaf s, d, l => by simp [lay]
 | node a b, d, l => by rw [lay, lay_len b, lay_len a]
theorem lay_out : ∀ (t : HT) (d : Nat) (l : List Nat) (k : Nat), k ∉ t.zcz → (t.lay d l).getD k 0 = l.getD k 0
 | leaf s, d, l, k, h => by
   simp only [zcz, List.mem_singleton] at h
   simp only [lay, List.getD_eq_getElem?_getD]
   rw [List.getElem?_set_ne (fun e => h e.symm)]
 | node a b, d, l, k, h => by
   simp only [zcz, List.mem_append, not_or] at h
   rw [lay, lay_out b _ _ _ h.2, lay_out a _ _ _ h.1]
theorem lay_in : ∀ (t : HT) (d : Nat) (l : List Nat) (k : Nat), (∀ s ∈ t.zcz, s < l.length) → k ∈ t.zcz → 1 ≤ (t.lay d l).getD k 0 ∧ (t.lay d l).getD k 0 ≤ d + t.zcz.length
 | leaf s, d, l, k, hl, h => by
   simp only [zcz, List.mem_singleton] at h
   subst h
   have := hl k (by simp [zcz])
   simp only [lay, List.getD_eq_getElem?_getD]
   rw [List.getElem?_set_self this]
   simp only [Option.getD_some, zcz, List.length_singleton]
   omega
 | node a b, d, l, k, hl, h => by
   have ha : ∀ s ∈ a.zcz, s < l.length := fun s hs => hl s (by simp [zcz, hs])
   have hb : ∀ s ∈ b.zcz, s < (a.lay (d + 1) l).length := fun s hs => by rw [lay_len]; exact hl s (by simp [zcz, hs])
   have hpa := zdt a
   have hpb := zdt b
   simp only [zcz, List.length_append]
   by_cases hkb : k ∈ b.zcz
   · have := lay_in b (d + 1) (a.lay (d + 1) l) k hb hkb
     rw [lay]; omega
   · have hka : k ∈ a.zcz := by
       simp only [zcz, List.mem_append] at h
       exact h.resolve_right hkb
     have := lay_in a (d + 1) l k ha hka
     rw [lay, lay_out b _ _ _ hkb]; omega
end HT
end Go.Proofs.YtkikhmdpcanidaaGreat
namespace Go.Proofs.YtkikhmdpcanidaaGreat
def rowR (n : Nat) (R D : List Nat) : List Nat := zcN R D (List.replicate n 0)
theorem zb4 (n : Nat) (R D : List Nat) : (rowR n R D).length = n := by unfold rowR; rw [zeb]; simp
theorem zff {n : Nat} {R D : List Nat} (hn : R.Nodup) (hD : D.length = R.length) (hr : ∀ r ∈ R, r < n) {i : Nat} (hi : i < R.length) : (rowR n R D).getD (R.getD i 0) 0 = D.getD i 0 := by
 have := zfD R D (List.replicate n 0) i hn hD (fun r h => by simpa using hr r h) hi
 unfold rowR
 rw [← this, List.getD_eq_getElem?_getD (l := R), List.getElem?_eq_getElem hi]; rfl
theorem zfg {n : Nat} {R D : List Nat} {k : Nat} (h : k ∉ R) : (rowR n R D).getD k 0 = 0 := by
 unfold rowR
 rw [zcR R D _ k h]
 simp only [List.getD_eq_getElem?_getD, List.getElem?_replicate]
 split <;> rfl
theorem zfs {n : Nat} {R D L : List Nat} (hn : R.Nodup) (hr : ∀ r ∈ R, r < n) (hD : D.length = R.length) (hl : L.length = n)
   (h1 : ∀ i, i < R.length → L.getD (R.getD i 0) 0 = D.getD i 0) (h2 : ∀ k, k ∉ R → L.getD k 0 = 0) : L = rowR n R D :=
 give_ext hn hr hD hl (fun i hi => by
   have := h1 i hi
   rwa [List.getD_eq_getElem?_getD (l := R), List.getElem?_eq_getElem hi, Option.getD_some] at this) h2
theorem zft (l : List Nat) (i k v : Nat) (h : i < l.length) : (l.set i v).getD k 0 = if k = i then v else l.getD k 0 := by
 simp only [List.getD_eq_getElem?_getD, List.getElem?_set]
 by_cases e : i = k
 · subst e; rw [if_pos rfl, if_pos h, if_pos rfl]; rfl
 · rw [if_neg e, if_neg (fun h => e h.symm)]
theorem nodup_getD {R : List Nat} (hn : R.Nodup) {i j : Nat} (hi : i < R.length) (hj : j < R.length) (h : R.getD i 0 = R.getD j 0) : i = j := by
 rw [List.getD_eq_getElem?_getD, List.getElem?_eq_getElem hi, List.getD_eq_getElem?_getD, List.getElem?_eq_getElem hj] at h
 have hp := List.pairwise_iff_getElem.1 hn
 rcases Nat.lt_trichotomy i j with e | e | e
 · exact absurd h (hp i j hi hj e)
 · exact e
 · exact absurd h.symm (hp j i hj hi e)
theorem rowR_set {n : Nat} {R D : List Nat} (hn : R.Nodup) (hr : ∀ r ∈ R, r < n) (hD : D.length = R.length) {i v : Nat} (hi : i < R.length) : (rowR n R D).set (R.getD i 0) v = rowR n R (D.set i v) := by
 have hm : R.getD i 0 ∈ R := by rw [List.getD_eq_getElem?_getD, List.getElem?_eq_getElem hi]; exact List.getElem_mem hi
 have hlt : R.getD i 0 < (rowR n R D).length := by rw [zb4]; exact hr _ hm
 refine zfs hn hr (by rw [List.length_set, hD]) (by rw [List.length_set, zb4]) (fun j hj => ?_) (fun k hk => ?_)
 · rw [zft _ _ _ _ hlt, zft _ _ _ _ (by omega)]
   by_cases e : j = i
   · rw [if_pos (by rw [e]), if_pos e]
   · rw [if_neg (fun h => e (nodup_getD hn hj hi h)), if_neg e, zff hn hD hr hj]
 · rw [zft _ _ _ _ hlt, if_neg (fun (h : k = R.getD i 0) => hk (h ▸ hm)), zfg hk]
theorem lay_row {n : Nat} {R : List Nat} {t : HT} (hn : R.Nodup) (hr : ∀ r ∈ R, r < n) (hp : t.zcz.Perm R) :
   ∃ D, D.length = R.length ∧ t.lay 0 (List.replicate n 0) = rowR n R D ∧ ∀ x ∈ D, 1 ≤ x ∧ x ≤ R.length := by
 have hl : t.zcz.length = R.length := hp.length_eq
 have hlt : ∀ s ∈ t.zcz, s < (List.replicate n 0).length := fun s hs => by simpa using hr s (hp.mem_iff.1 hs)
 refine ⟨R.map fun r => (t.lay 0 (List.replicate n 0)).getD r 0, by simp, ?_, fun x hx => ?_⟩
 · refine zfs hn hr (by simp) (by rw [HT.lay_len]; simp) (fun i hi => ?_) (fun k hk => ?_)
   · rw [List.getD_eq_getElem?_getD (l := R.map _), List.getElem?_map, List.getD_eq_getElem?_getD (l := R), List.getElem?_eq_getElem hi]; rfl
   · rw [HT.lay_out _ _ _ _ (fun h => hk (hp.mem_iff.1 h))]
     simp only [List.getD_eq_getElem?_getD, List.getElem?_replicate]
     split <;> rfl
 · obtain ⟨r, hr2, rfl⟩ := List.mem_map.1 hx
   have := HT.lay_in t 0 (List.replicate n 0) r hlt (hp.mem_iff.2 hr2)
   rw [hl, Nat.zero_add] at this
   exact this
theorem rowR_perm {n : Nat} {R R2 D : List Nat} (hn : R.Nodup) (hr : ∀ r ∈ R, r < n) (hD : D.length = R.length) (hp : R2.Perm R) (h1 : ∀ x ∈ D, 1 ≤ x ∧ x ≤ R.length) :
   ∃ D2, D2.length = R2.length ∧ rowR n R D = rowR n R2 D2 ∧ ∀ x ∈ D2, 1 ≤ x ∧ x ≤ R2.length := by
 have hn2 : R2.Nodup := hp.nodup_iff.2 hn
 refine ⟨R2.map fun r => (rowR n R D).getD r 0, by simp, ?_, fun x hx => ?_⟩
 · refine zfs hn2 (fun r h => hr r (hp.mem_iff.1 h)) (by simp) (zb4 ..) (fun i hi => ?_) (fun k hk => zfg (fun h => hk (hp.mem_iff.2 h)))
   rw [List.getD_eq_getElem?_getD (l := R2.map _), List.getElem?_map, List.getD_eq_getElem?_getD (l := R2), List.getElem?_eq_getElem hi]; rfl
 · obtain ⟨r, hr2, rfl⟩ := List.mem_map.1 hx
   obtain ⟨i, hi, rfl⟩ := List.mem_iff_getElem.1 (hp.mem_iff.1 hr2)
   have e := zff (n := n) hn hD hr hi
   rw [List.getD_eq_getElem?_getD (l := R), List.getElem?_eq_getElem hi, Option.getD_some] at e
   rw [e, List.getD_eq_getElem?_getD, List.getElem?_eq_getElem (by omega), Option.getD_some, hp.length_eq]
   exact h1 _ (List.getElem_mem _)
def cutV (limit g : Nat) (D : List Nat) : Option (List Nat) := (zbk limit g (D.map fun x => min x limit)).map fun M => (zaq M.reverse (32768 - sumW M)).1.reverse
theorem slack_le (limit : Nat) : ∀ L : List Nat, zey limit L ≤ limit * L.length
 | [] => Nat.zero_le _
 | x :: l => by
   have := slack_le limit l
   simp only [zey, List.length_cons, Nat.mul_add]; omega
theorem cutV_good {limit g : Nat} {D : List Nat} (h1 : 1 ≤ limit) (h15 : limit ≤ 15) (hD : ∀ x ∈ D, 1 ≤ x) (h2 : 2 ≤ D.length) (hn : D.length ≤ 2 ^ limit) (hg : limit * D.length < g) :
   ∃ E, cutV limit g D = some E ∧ E.length = D.length ∧ (∀ x ∈ E, 1 ≤ x ∧ x ≤ limit) ∧ sumW E = 32768 := by
 have hin : InL limit (D.map fun x => min x limit) := fun x hx => by
   obtain ⟨y, hy, rfl⟩ := List.mem_map.1 hx
   have := hD y hy
   omega
 have hsl := slack_le limit (D.map fun x => min x limit)
 rw [List.length_map] at hsl
 obtain ⟨M, m1, m2, m3, m4⟩ := zdu h1 h15 g _ hin (by rw [List.length_map]; exact hn) (by omega)
 rw [List.length_map] at m3
 have hrev : InL limit M.reverse := fun x hx => m2 x (List.mem_reverse.1 hx)
 have hsr : sumW M.reverse = sumW M := zel M.reverse_perm
 obtain ⟨-, q2, q3, -, -⟩ := all_is h15 M.reverse (32768 - sumW M) hrev
 have hc := complete_all h15 (L := M.reverse) hrev (by rw [List.length_reverse]; omega) (by rw [hsr]; exact m4)
 rw [hsr] at hc
 refine ⟨_, by unfold cutV; rw [m1]; rfl, by rw [List.length_reverse, q3, List.length_reverse, m3], fun x hx => q2 x (List.mem_reverse.1 hx), ?_⟩
 rw [zel (List.reverse_perm _)]; exact hc
theorem zes {counts : List Int} {most : Nat} {R D : List Nat} (hn : R.Nodup) (hR : ∀ k, k ∈ R ↔ k < counts.length ∧ 0 < counts.getD k 0)
   (hS : ∀ i j, (hi : i < R.length) → (hj : j < R.length) → i < j → counts.getD R[i] 0 ≤ counts.getD R[j] 0)
   (hD : D.length = R.length) (hP : ∀ d ∈ D, 1 ≤ d ∧ d ≤ most) (hT : ∀ i j, i ≤ j → j < D.length → D.getD j 0 ≤ D.getD i 0)
   (hs : sumW D ≤ 32768) (hf : 2 ≤ R.length → sumW D = 32768) (ho : R.length = 1 → ∀ d ∈ D, d ≤ 1) : zbW counts most R.length (rowR counts.length R D) :=
 good_give hn hR hS hD hP hT (zb4 ..) (fun i hi => by
   have := zff (n := counts.length) hn hD (fun r h => ((hR r).1 h).1) hi
   rwa [List.getD_eq_getElem?_getD (l := R), List.getElem?_eq_getElem hi, Option.getD_some] at this) (fun k hk => zfg hk) hs hf ho
end Go.Proofs.YtkikhmdpcanidaaGreat
namespace Go.Proofs.YtkikhmdpcanidaaGreat
open Go.RowKit
def IsHT (w : World) (S : Nat → Prop) : HT → Nat → Nat → Prop
 | .leaf s, p, c => S p ∧ w.heap[p]? = some (.cells #[.int .i64 c, .int .i64 s, .pointer none, .pointer none] 180 (0, 0))
 | .node a b, p, c => S p ∧ ∃ pa pb ca cb, w.heap[p]? = some (.cells #[.int .i64 c, .int .i64 0, .pointer (some ⟨pa, 0, none⟩), .pointer (some ⟨pb, 0, none⟩)] 180 (0, 0)) ∧ IsHT w S a pa ca ∧ IsHT w S b pb cb
theorem IsHT.keep {w w' : World} {S T : Nat → Prop} (hk : zaa T w w') (hT : ∀ b, S b → ¬ T b) : ∀ {t : HT} {p c : Nat}, IsHT w S t p c → IsHT w' S t p c
 | .leaf _, p, _, h => ⟨h.1, hk.obj h.2 (hT p h.1)⟩
 | .node _ _, p, _, ⟨h, pa, pb, ca, cb, h1, h2, h3⟩ => ⟨h, pa, pb, ca, cb, hk.obj h1 (hT p h), IsHT.keep hk hT h2, IsHT.keep hk hT h3⟩
theorem IsHT.weaken {w : World} {S S' : Nat → Prop} (hS : ∀ b, S b → S' b) : ∀ {t : HT} {p c : Nat}, IsHT w S t p c → IsHT w S' t p c
 | .leaf _, p, _, h => ⟨hS p h.1, h.2⟩
 | .node _ _, p, _, ⟨h, pa, pb, ca, cb, h1, h2, h3⟩ => ⟨hS p h, pa, pb, ca, cb, h1, IsHT.weaken hS h2, IsHT.weaken hS h3⟩
theorem IsHT.top {w : World} {S : Nat → Prop} : ∀ {t : HT} {p c : Nat}, IsHT w S t p c → S p ∧ p < w.heap.size ∧ w.cell? ⟨p, 0, none⟩ = some (.int .i64 c)
 | .leaf _, p, _, h => ⟨h.1, (Array.getElem?_eq_some_iff.1 h.2).1, by rw [cell_of_row w p 0 _ _ _ h.2]; rfl⟩
 | .node _ _, p, _, ⟨h, _, _, _, _, h1, _, _⟩ => ⟨h, (Array.getElem?_eq_some_iff.1 h1).1, by rw [cell_of_row w p 0 _ _ _ h1]; rfl⟩
def natV (L : List Nat) : List Value := L.map fun n : Nat => Value.int .i64 n
def OutR (w : World) (bo : Nat) (L : List Nat) : Prop := w.heap[bo]? = some (.cells (natV L).toArray 3 (0, 0))
theorem zbv (L : List Nat) : (natV L).length = L.length := by simp [natV]
theorem zcD {L : List Nat} {k : Nat} (h : k < L.length) : (natV L)[k]? = some (.int .i64 (L.getD k 0 : Nat)) := by
 unfold natV
 rw [List.getElem?_map, List.getElem?_eq_getElem h, List.getD_eq_getElem?_getD, List.getElem?_eq_getElem h]; rfl
theorem OutR.cell {w : World} {bo : Nat} {L : List Nat} (h : OutR w bo L) {k : Nat} (hk : k < L.length) : w.cell? ⟨bo, k, none⟩ = some (.int .i64 (L.getD k 0 : Nat)) := by
 rw [cell_of_row w bo k _ _ _ h, List.getElem?_toArray, zcD hk]
theorem OutR.free {w : World} {bo : Nat} {L : List Nat} (h : OutR w bo L) (k : Nat) : w.frozen? ⟨bo, k, none⟩ = false := frozen_of_row w bo k _ _ h
theorem OutR.lt {w : World} {bo : Nat} {L : List Nat} (h : OutR w bo L) : bo < w.heap.size := (Array.getElem?_eq_some_iff.1 h).1
theorem OutR.set {w : World} {bo : Nat} {L : List Nat} (h : OutR w bo L) (k v : Nat) : OutR (w.setCell ⟨bo, k, none⟩ (.int .i64 v)) bo (L.set k v) := by
 unfold OutR
 rw [heap_setCell_same w bo k _ _ _ h, List.setIfInBounds_toArray]
 unfold natV
 rw [List.map_set]
theorem OutR.keep {w w' : World} {bo : Nat} {L : List Nat} {T : Nat → Prop} (h : OutR w bo L) (hk : zaa T w w') (hT : ¬ T bo) : OutR w' bo L := hk.obj h hT
theorem OutR.drewN {w : World} {bo : Nat} {L : List Nat} (h : OutR w bo L) (q : Nat) : OutR (w.drewN q) bo L := h
theorem OutR.row {w : World} {bo : Nat} {L : List Nat} (h : OutR w bo L) (hl : L.length ≤ maxLen) : Row w 1 (some ⟨bo, 0, none⟩) L.length L.length (natV L) :=
 ⟨by rw [zbv, Nat.mul_one], Nat.le_refl _, hl, fun e => (by cases e), fun _ => ⟨bo, 0, rfl, h.lt, fun j u hj => by
   rw [Nat.zero_add, cell_of_row w bo j _ _ _ h, List.getElem?_toArray]; exact hj⟩⟩
end Go.Proofs.YtkikhmdpcanidaaGreat
namespace Go.Proofs.YtkikhmdpcanidaaGreat
open Go.RowKit Go.Sort
theorem zdh (l : List Nat) (least k : Nat) : zcy l least (k + 1) = if least < k + 1 ∧ l.getD k 0 = 0 then zcy l least k else k + 1 := rfl
theorem trimV_k (l : List Nat) (least : Nat) (h : least ≤ l.length) : (zaJ l least).length = zcy l least l.length := by
 unfold zaJ
 rw [List.length_take]
 have := (zcP l least l.length h).2.1
 omega
theorem natV_take (l : List Nat) (k : Nat) : natV (l.take k) = (natV l).take k := by unfold natV; rw [List.map_take]
theorem Row.takeZ {w : World} {a : Option Addr} {n cap : Nat} {xs : List Value} (h : Row w 1 a n cap xs) (q : Nat) (hq : q ≤ n) : Row w 1 a q cap (xs.take q) := by
 obtain ⟨h1, h2, h3, h4, h5⟩ := h
 refine ⟨by rw [List.length_take]; omega, by omega, h3, h4, fun hn => ?_⟩
 obtain ⟨b, off, rfl, hb, hc⟩ := h5 (by omega)
 refine ⟨b, off, rfl, hb, fun j u hj => hc j u ?_⟩
 rw [List.getElem?_take] at hj
 split at hj
 · exact hj
 · cases hj
theorem zcX {w : World} {a : Option Addr} {n cap least : Nat} {l : List Nat} (hr : Row w 1 a n cap (natV l)) (h : least ≤ n) : Row w 1 a (zaJ l least).length cap (natV (zaJ l least)) := by
 have hl : l.length = n := hr.len1
 rw [trimV_k l least (by omega)]
 unfold zaJ
 rw [natV_take]
 exact hr.takeZ _ (by rw [hl]; exact (zcP l least n h).2.1)
theorem zfz {w : World} {a : Option Addr} {n cap least : Nat} {l : List Nat} (hr : Row w 1 a n cap (natV l)) (h : least ≤ n) :
   Calls Tryz.prog 88 #[.slice a n cap, .int .i64 least] w fun e w' => e = .returned (.slice a (zaJ l least).length cap) ∧ w = w' := by
 have hl : l.length = n := hr.len1
 have HR := Lib.hid hr
 have hcapn := hr.2.1
 have hcapm := hr.2.2.1
 unfold maxLen at hcapm
 have HK := Lib.hid (trimV_k l least (by omega))
 have HL := Lib.hid hl
 clear hr hl
 go_enter Tryz.func88, Tryz.ntmps88
 go_wp2
 go_loop [0] (fun v => ∃ m : Nat, v = .slice a m cap ∧ least ≤ m ∧ m ≤ n ∧ Hid (zcy l least m = zcy l least n)) (fun v => match v with | .slice _ m _ => m | _ => 0)
 case atStart => exact ⟨n, rfl, h, Nat.le_refl _, Lib.hid rfl⟩
 case round =>
   obtain ⟨m, rfl, hm1, hm2, HT⟩ := hrel
   by_cases hml : least < m
   · have hd : decide ((m : Int) > (least : Int)) = true := decide_eq_true (by omega)
     obtain ⟨k, hk⟩ : ∃ k, m = k + 1 := ⟨m - 1, by omega⟩
     have hki : (m : Int) - 1 = (k : Int) := by omega
     obtain ⟨b, off, rfl, hb, hc⟩ := HR.out.at 0 0 (by omega)
     have z0 := hc k (by omega)
     have hkm : (k : Int) < (m : Int) := by omega
     have hkc : (k : Int) ≤ (cap : Int) := by omega
     have HKK := Lib.hid hk
     have HU := Lib.hid (show zcy l least m = if l.getD k 0 = 0 then zcy l least k else m from by
       rw [hk]
       by_cases h0 : l.getD k 0 = 0
       · rw [if_pos h0, zdh, if_pos ⟨by omega, h0⟩]
       · rw [if_neg h0, zdh, if_neg (fun q => h0 q.2)])
     clear hc hk
     generalize l.getD k 0 = x at z0 HU
     by_cases hx : x = 0
     · subst hx
       go_wp2
       go_round
       case rel => exact ⟨k, rfl, by have := HKK.out; omega, by omega, Lib.hid (by rw [← HT.out, HU.out, if_pos rfl])⟩
       case measure => simp; have := HKK.out; omega
     · have hxd : ((x : Int) == 0) = false := by simp; omega
       have hxd2 : decide ((x : Int) = 0) = false := decide_eq_false (by omega)
       have HF := Lib.hid (show m = zcy l least n from by rw [← HT.out, HU.out, if_neg hx])
       go_wp2
       go_ret
       exact ⟨by rw [HK.out, HL.out, ← HF.out]; rfl, rfl⟩
   · have hme : m = least := by omega
     subst hme
     have HF := Lib.hid (show m = zcy l m n from by
       rw [← HT.out]
       cases m with
       | zero => rfl
       | succ k => rw [zdh, if_neg (fun q => by omega)])
     have hd : decide ((m : Int) > (m : Int)) = false := decide_eq_false (by omega)
     clear HT
     go_wp2
     go_ret
     exact ⟨by rw [HK.out, HL.out, ← HF.out]; rfl, rfl⟩
theorem extra_any (s : Nat) (w : World) : Calls Tryz.prog 94 #[.int .i64 s] w fun e w' => e = .returned (.int .i64 (exB s : Nat)) ∧ w = w' := by
 by_cases h1 : s = 16
 · subst h1
   go_enter Tryz.func94, Tryz.ntmps94
   go_wp2
   go_ret
   exact ⟨rfl, rfl⟩
 by_cases h2 : s = 17
 · subst h2
   go_enter Tryz.func94, Tryz.ntmps94
   go_wp2
   go_ret
   exact ⟨rfl, rfl⟩
 by_cases h3 : s = 18
 · subst h3
   go_enter Tryz.func94, Tryz.ntmps94
   go_wp2
   go_ret
   exact ⟨rfl, rfl⟩
 have HV := Lib.hid (show exB s = 0 from by unfold exB; rw [if_neg h1, if_neg h2, if_neg h3])
 have i1 : ((s : Int) == 16) = false := by simp; omega
 have i2 : ((s : Int) == 17) = false := by simp; omega
 have i3 : ((s : Int) == 18) = false := by simp; omega
 go_enter Tryz.func94, Tryz.ntmps94
 go_wp2
 go_ret
 exact ⟨by rw [HV.out]; rfl, rfl⟩
theorem mk286 (w : World) : (Instr.makeSlice 34 (.int .i64 286) (.int .i64 286)).run Tryz.prog w = .ok (.slice (some ⟨w.heap.size, 0, none⟩) 286 286) (w.alloc (.cells (fl 286 fun _ => .int .i64 0).toArray 3)) := by
 rw [← zdC]
 exact run_make_row' (P := Tryz.prog) 34 3 (.int .i64 0) 8 Tryz.underlying34 zfB rfl .i64 .i64 286 (by omega) (by omega) w
theorem zce (n : Nat) : natV (List.replicate n 0) = fl n fun _ => .int .i64 0 := by
 unfold natV
 rw [List.map_replicate]
 unfold fl
 apply List.ext_getElem (by simp)
 intro i h1 h2
 simp
structure CntM (w wr : World) (g1 g2 : Nat) (p : List Nat × List Nat) : Prop where
 below : Below w.heap.size w wr
 r1 : OutR wr g1 p.1
 r2 : OutR wr g2 p.2
 l1 : w.heap.size ≤ g1
 l2 : w.heap.size ≤ g2
 ne : g1 ≠ g2
theorem CntM.alloc {w wr : World} {g1 g2 : Nat} {p : List Nat × List Nat} (h : CntM w wr g1 g2 p) (o : Obj) : CntM w (wr.alloc o) g1 g2 p :=
 ⟨h.below.alloc h.below.size o, zaE o h.r1, zaE o h.r2, h.l1, h.l2, h.ne⟩
theorem CntM.inc1 {w wr : World} {g1 g2 : Nat} {p : List Nat × List Nat} (h : CntM w wr g1 g2 p) (k : Nat) : CntM w (wr.setCell ⟨g1, k, none⟩ (.int .i64 (p.1.getD k 0 + 1 : Nat))) g1 g2 (incN p.1 k, p.2) :=
 ⟨h.below.setCell h.l1 _, h.r1.set k _, zay h.r2 (a := ⟨g1, k, none⟩) h.ne _, h.l1, h.l2, h.ne⟩
theorem CntM.inc2 {w wr : World} {g1 g2 : Nat} {p : List Nat × List Nat} (h : CntM w wr g1 g2 p) (k : Nat) : CntM w (wr.setCell ⟨g2, k, none⟩ (.int .i64 (p.2.getD k 0 + 1 : Nat))) g1 g2 (p.1, incN p.2 k) :=
 ⟨h.below.setCell h.l2 _, zay h.r1 (a := ⟨g2, k, none⟩) h.ne.symm _, h.r2.set k _, h.l1, h.l2, h.ne⟩
theorem CntM.first {w wr : World} {g1 g2 : Nat} (h : CntM w wr g1 g2 (List.replicate 286 0, List.replicate 30 0)) : CntM w (wr.setCell ⟨g1, 256, none⟩ (.int .i64 1)) g1 g2 (cntV []) :=
 ⟨h.below.setCell h.l1 _, h.r1.set 256 1, zay h.r2 (a := ⟨g1, 256, none⟩) h.ne _, h.l1, h.l2, h.ne⟩
def CntEnd (w : World) (ts : List LT) (e : Ending) (w' : World) : Prop := ∃ g1 g2, e = .returned (.tuple #[.slice (some ⟨g1, 0, none⟩) 286 286, .slice (some ⟨g2, 0, none⟩) 30 30]) ∧ CntM w w' g1 g2 (cntV ts)
theorem count_any {w : World} {cap : Nat} {a : Option Addr} {ts : List LT} (hr : Row w 3 a ts.length cap (tokV ts)) (hts : ∀ t ∈ ts, t.may) (hlen : ts.length ≤ 100000) :
   Calls Tryz.prog 87 #[.slice a ts.length cap] w (CntEnd w ts) := by
 have hm1 := mk286
 have hm2 := mk30
 have HR := Lib.hid hr
 have HTS := Lib.hid hts
 have HALL := Lib.hid (cnt_all ts hts)
 have hcapm := hr.2.2.1
 have hcapn := hr.2.1
 unfold maxLen at hcapm
 obtain ⟨n, hn⟩ : ∃ n, n = ts.length := ⟨_, rfl⟩
 rw [← hn] at HR hlen hcapn HALL ⊢
 have HLN := Lib.hid hn
 clear hr hts hn
 go_enter Tryz.func87, Tryz.ntmps87
 go_wp2_with fail
 go_cut [4, 5] from 11 (fun v4 v5 wc => ∃ g1 g2, v4 = .slice (some ⟨g1, 0, none⟩) 286 286 ∧ v5 = .slice (some ⟨g2, 0, none⟩) 30 30 ∧ Hid (CntM w wc g1 g2 (List.replicate 286 0, List.replicate 30 0)))
 case first =>
   go_region
   all_goals (try go_wp2_with fail)
   all_goals go_meet
   · exact ⟨_, _, rfl, rfl, Lib.hid ⟨(zeq w _ _).drew, (zaE _ (zaf _ rfl)).trans (by rw [zce]), (zaf _ (by rw [zac])).trans (by rw [zce]), Nat.le_refl _, Nat.le_succ _, by omega⟩⟩
   · exact ⟨_, _, rfl, rfl, Lib.hid ⟨(zeq w _ _).drew, (zaf _ (by rw [zac])).trans (by rw [zce]), (zaE _ (zaf _ rfl)).trans (by rw [zce]), Nat.le_succ _, Nat.le_refl _, by omega⟩⟩
 case rest =>
   obtain ⟨g1, g2, rfl, rfl, HX⟩ := hcut
   have z256 := HX.out.r1.cell (k := 256) (by rw [List.length_replicate]; omega)
   have f256 := HX.out.r1.free 256
   rw [rep_at] at z256
   have HX1 := Lib.hid HX.out.first
   clear hm1 hm2 HX
   go_wp2
   go_loopw [17] (fun v wr => ∃ i : Nat, v = .int .i64 i ∧ i ≤ n ∧ Hid (CntM w wr g1 g2 (cntV (ts.take i)))) (fun v _ => n - (intOf v).toNat)
   case atStart => exact ⟨0, rfl, Nat.zero_le _, HX1⟩
   case round =>
     obtain ⟨i, rfl, hi, HM⟩ := hrel
     by_cases hlt2 : i < n
     case neg =>
       have hie : i = n := by omega
       subst hie
       have hcd : decide ((i : Int) < (i : Int)) = false := decide_eq_false (by omega)
       have HE := Lib.hid (show CntM w wr g1 g2 (cntV ts) from by
         have h := HM.out
         rwa [List.take_of_length_le (by rw [← HLN.out]; exact Nat.le_refl _)] at h)
       clear HM
       go_wp2
       go_ret2
       exact ⟨g1, g2, rfl, HE.out⟩
     have hcd : decide ((i : Int) < (n : Int)) = true := decide_eq_true (by omega)
     have hin : (i : Int) < (n : Int) := by omega
     obtain ⟨t, ht⟩ : ∃ t, ts[i]? = some t := ⟨_, List.getElem?_eq_getElem (by rw [← HLN.out]; exact hlt2)⟩
     have hmay := HTS.out t (List.mem_of_getElem? ht)
     have hrow : Row wr 3 a n cap (tokV ts) := HR.out.mono HM.out.below
     obtain ⟨bb, off, rfl, hbb, hcc⟩ := hrow.2.2.2.2 (by omega)
     obtain ⟨t0, t1, t2⟩ := tokV_at ts i t ht
     have z0 := hcc _ _ t0
     have z1 := hcc _ _ t1
     have z2 := hcc _ _ t2
     rw [← Nat.add_assoc] at z1 z2
     have HSN := Lib.hid (show cntV (ts.take (i + 1)) = cntS (cntV (ts.take i)) t from by
       rw [List.take_add_one, ht]; exact cntV_snoc _ _)
     have hci := (HALL.out i (by omega)).1
     have hla := hci.la
     have hlb := hci.lb
     have hma := hci.ma
     have hmb := hci.mb
     generalize cntV (ts.take i) = p at HM HSN hci hla hlb hma hmb
     have HM2 := Lib.hid (HM.out.alloc (.cells #[.int .u8 t.b.toNat, .int .i64 t.len, .int .i64 t.far] 123))
     obtain ⟨hx0, hx1⟩ := may_idx hmay
     have hszr : g1 < wr.heap.size ∧ g2 < wr.heap.size := ⟨HM.out.r1.lt, HM.out.r2.lt⟩
     have hgn1 : ¬ g1 = wr.heap.size := by omega
     have hgn2 : ¬ g2 = wr.heap.size := by omega
     clear hcc hrow t0 t1 t2 hmay hci
     unfold cntS at HSN
     by_cases h0 : t.len = 0
     · rw [if_pos h0] at HSN
       have hbt := hx0 h0
       have he : decide ((t.len : Int) = 0) = true := decide_eq_true (by omega)
       have heb : ((t.len : Int) == 0) = true := he
       have c0 := HM2.out.r1.cell (k := t.b.toNat) (by rw [hla]; exact hbt)
       have f0 := HM2.out.r1.free t.b.toNat
       have hx := hma t.b.toNat
       have HN := Lib.hid ((HM.out.inc1 t.b.toNat).alloc (.cells #[.int .u8 t.b.toNat, .int .i64 t.len, .int .i64 t.far] 123))
       rw [← HSN.out] at HN
       clear hx0 hx1 hma hmb hla hlb h0 HM2 HSN HM
       generalize p.1.getD t.b.toNat 0 = x at *
       obtain ⟨y, hy⟩ : ∃ y, y = x + 1 := ⟨_, rfl⟩
       rw [← hy] at HN
       have hyi : (x : Int) + 1 = (y : Int) := by omega
       clear hy
       generalize t.len = ln at *
       generalize t.far = fa at *
       generalize t.b.toNat = bt at *
       have hbi : (bt : Int) < 286 := by omega
       go_wp2
       go_roundw
       case rel => exact ⟨i + 1, by go_num, by omega, HN⟩
       case measure => simp [intOf]; omega
     · rw [if_neg h0] at HSN
       obtain ⟨m3, m8, q1, q2, hs1, hs2⟩ := hx1 h0
       have he : decide ((t.len : Int) = 0) = false := decide_eq_false (by omega)
       have heb : ((t.len : Int) == 0) = false := he
       have HSY := Lib.hid (fun W : World => by have h := dsym_any (t.len : Int) W (by omega); rw [symV7_is m3 m8] at h; exact h)
       have HFY := Lib.hid (fun W : World => by have h := dfar_any (t.far : Int) W (by omega); rw [farV7_is q1 q2] at h; exact h)
       have c0 := HM2.out.r1.cell (k := symN t.len) (by rw [hla]; exact hs1)
       have f0 := HM2.out.r1.free (symN t.len)
       have hx := hma (symN t.len)
       have HN1 := (HM.out.inc1 (symN t.len)).alloc (.cells #[.int .u8 t.b.toNat, .int .i64 t.len, .int .i64 t.far] 123)
       have c1 := HN1.r2.cell (k := farN t.far) (by dsimp only; rw [hlb]; exact hs2)
       have f1 := HN1.r2.free (farN t.far)
       have hx2 := hmb (farN t.far)
       have HN := Lib.hid (((HM.out.inc1 (symN t.len)).inc2 (farN t.far)).alloc (.cells #[.int .u8 t.b.toNat, .int .i64 t.len, .int .i64 t.far] 123))
       dsimp only at HN c1
       rw [← HSN.out] at HN
       clear hx0 hx1 hma hmb hla hlb h0 HM2 HSN HN1 HM
       generalize p.1.getD (symN t.len) 0 = x at *
       generalize p.2.getD (farN t.far) 0 = x2 at *
       obtain ⟨y, hy⟩ : ∃ y, y = x + 1 := ⟨_, rfl⟩
       obtain ⟨y2, hy2⟩ : ∃ y, y = x2 + 1 := ⟨_, rfl⟩
       rw [← hy, ← hy2] at HN
       rw [← hy] at c1 f1
       have hyi : (x : Int) + 1 = (y : Int) := by omega
       have hyi2 : (x2 : Int) + 1 = (y2 : Int) := by omega
       clear hy hy2 m3 m8 q1 q2
       unfold Tri at HSY HFY
       dsimp only at HSY HFY
       generalize symN t.len = sN at *
       generalize symR t.len = sR at *
       generalize symB t.len = sB at *
       generalize farN t.far = fN at *
       generalize farR t.far = fR at *
       generalize farB t.far = fB at *
       generalize t.len = ln at *
       generalize t.far = fa at *
       generalize t.b.toNat = bt at *
       have hbi : (sN : Int) < 286 := by omega
       have hbi2 : (fN : Int) < 30 := by omega
       go_wp2_with fail
       refine (HSY.out _).mono ?_
       rintro e W ⟨rfl, rfl⟩
       go_wp2_with fail
       refine (HFY.out _).mono ?_
       rintro e W ⟨rfl, rfl⟩
       go_wp2_with fail
       go_roundw
       case rel => exact ⟨i + 1, by go_num, by omega, HN⟩
       case measure => simp [intOf]; omega
end Go.Proofs.YtkikhmdpcanidaaGreat
namespace Go.Proofs.YtkikhmdpcanidaaGreat
open Go.RowKit
set_option maxRecDepth 20000 in
theorem depths_any {S : Nat → Prop} {bo : Nat} (hbo : ¬ S bo) : ∀ (t : HT) (p c d : Nat) (L : List Nat) (w : World), IsHT w S t p c → OutR w bo L → (∀ s ∈ t.zcz, s < L.length) → d + t.zcz.length ≤ 1000000 → L.length ≤ 1000000 →
   Calls Tryz.prog 132 #[.pointer (some ⟨p, 0, none⟩), .int .i64 d, .slice (some ⟨bo, 0, none⟩) L.length L.length] w fun e w' => e = .returned (.tuple #[]) ∧ OutR w' bo (t.lay d L) ∧ zaa (fun b => b = bo) w w' := by
 intro t
 induction t with
 | leaf s =>
   intro p c d L w h hO hs hd hL
   have c1 : w.cell? ⟨p, 1, none⟩ = some (.int .i64 s) := by rw [cell_of_row w p 1 _ _ _ h.2]; rfl
   have c2 : w.cell? ⟨p, 2, none⟩ = some (.pointer none) := by rw [cell_of_row w p 2 _ _ _ h.2]; rfl
   have hsl : s < L.length := hs s (by simp [HT.zcz])
   have o1 := hO.cell hsl
   have o2 := hO.free s
   have HO := Lib.hid hO
   have hm : max (1 : Int) (d : Int) = ((max 1 d : Nat) : Int) := by omega
   have hsi : (s : Int) < (L.length : Int) := by omega
   clear h hO hs
   go_enter Tryz.func132, Tryz.ntmps132
   go_wp2
   all_goals refine bodyPost_ret (results_none rfl _ _ _) rfl ?_
   · have e : (d : Int) = ((max 1 d : Nat) : Int) := by omega
     rw [e]
     exact ⟨rfl, HO.out.set s (max 1 d), (zaa.refl (fun b => b = bo) w).setCell (a := ⟨bo, s, none⟩) (.inl rfl) _⟩
   · have e : (1 : Int) = ((max 1 d : Nat) : Int) := by omega
     rw [e]
     exact ⟨rfl, HO.out.set s (max 1 d), (zaa.refl (fun b => b = bo) w).setCell (a := ⟨bo, s, none⟩) (.inl rfl) _⟩
 | node a b iha ihb =>
   intro p c d L w h hO hs hd hL
   obtain ⟨hp, pa, pb, ca, cb, h1, ha, hb⟩ := h
   have c2 : w.cell? ⟨p, 2, none⟩ = some (.pointer (some ⟨pa, 0, none⟩)) := by rw [cell_of_row w p 2 _ _ _ h1]; rfl
   have c3 : w.cell? ⟨p, 3, none⟩ = some (.pointer (some ⟨pb, 0, none⟩)) := by rw [cell_of_row w p 3 _ _ _ h1]; rfl
   have hpa := HT.zdt a
   have hpb := HT.zdt b
   simp only [HT.zcz, List.length_append] at hd
   have HA := Lib.hid (iha pa ca (d + 1) L w ha hO (fun s h => hs s (by simp [HT.zcz, h])) (by omega) hL)
   have hl2 := HT.lay_len a (d + 1) L
   have HB := Lib.hid (fun (W : World) (hk : zaa (fun b => b = bo) w W) (hO : OutR W bo (a.lay (d + 1) L)) => ihb pb cb (d + 1) (a.lay (d + 1) L) W (hb.keep hk (fun x hx e => hbo (e ▸ hx))) hO (fun s h => by rw [hl2]; exact hs s (by simp [HT.zcz, h])) (by omega) (by rw [hl2]; exact hL))
   rw [hl2] at HB
   have hpbo : ¬ p = bo := fun e => hbo (e ▸ hp)
   obtain ⟨d1, hd1⟩ : ∃ d1, d1 = d + 1 := ⟨_, rfl⟩
   rw [← hd1] at HA HB
   have i1 : IntKind.i64.wrap ((d : Int) + 1) = (d1 : Int) := by rw [IntWalk.i64_in _ (by omega)]; omega
   have HD1 := Lib.hid hd1
   have HP := Lib.hid h1
   clear h1 ha hb hO hs hl2 hd1 iha ihb
   go_enter Tryz.func132, Tryz.ntmps132
   go_wp2_with fail
   refine HA.out.mono ?_
   rintro e w2 ⟨rfl, hO2, hk2⟩
   have c3b := hk2.cell c3 hpbo
   have HB2 := Lib.hid (HB.out w2 hk2 hO2)
   clear HA HB c2 c3
   go_wp2_with fail
   refine HB2.out.mono ?_
   rintro e w3 ⟨rfl, hO3, hk3⟩
   go_wp2_with fail
   go_end0
   rw [HD1.out] at hO3
   exact ⟨rfl, hO3, hk2.trans hk3 (fun _ h => .inl h)⟩
def OwnO (w : World) (base : Nat) (e : TypeId) (v : Value) (xs : List Value) : Prop :=
 ∃ g o cap cur, v = .slice (some ⟨g, o, none⟩) xs.length cap ∧ base ≤ g ∧ w.heap[g]? = some (.cells cur e (0, 0)) ∧ xs.length ≤ cap ∧ o + cap ≤ maxLen ∧ o + cap ≤ cur.size ∧ (cur.toList.drop o).take xs.length = xs
theorem OwnO.of {w : World} {base e : Nat} {v : Value} {n : Nat} {xs : List Value} (h : w.ownsRow base e 1 v n xs) (hn : 0 < n) : OwnO w base e v xs := by
 obtain ⟨h1, h2⟩ := h
 rw [Nat.mul_one] at h1
 rcases h2 with ⟨-, h0⟩ | ⟨g, cap, cur, hv, hb, hg, hc, hm, hs, ht⟩
 · omega
 · rw [Nat.mul_one] at hs ht
   subst h1
   exact ⟨g, 0, cap, cur, hv, hb, hg, hc, by omega, by omega, by rw [List.drop_zero]; exact ht⟩
theorem OwnO.keep {w w' : World} {base e : Nat} {v : Value} {xs : List Value} {S : Nat → Prop} (h : OwnO w base e v xs) (hk : zaa S w w') (hS : ∀ b, v.ownBlock = some b → ¬ S b) : OwnO w' base e v xs := by
 obtain ⟨g, o, cap, cur, rfl, hb, hg, r⟩ := h
 exact ⟨g, o, cap, cur, rfl, hb, hk.obj hg (hS g rfl), r⟩
theorem OwnO.lt {w : World} {base e : Nat} {v : Value} {xs : List Value} (h : OwnO w base e v xs) : ∀ b, v.ownBlock = some b → base ≤ b ∧ b < w.heap.size := by
 obtain ⟨g, o, cap, cur, rfl, hb, hg, -⟩ := h
 intro b h
 simp [Value.ownBlock] at h
 subst h
 exact ⟨hb, (Array.getElem?_eq_some_iff.1 hg).1⟩
theorem OwnO.row {w : World} {base e : Nat} {v : Value} {xs : List Value} (h : OwnO w base e v xs) : ∃ g o cap, v = .slice (some ⟨g, o, none⟩) xs.length cap ∧ Row w 1 (some ⟨g, o, none⟩) xs.length cap xs ∧ base ≤ g ∧ g < w.heap.size := by
 obtain ⟨g, o, cap, cur, rfl, hb, hg, hc, hm, hs, ht⟩ := h
 refine ⟨g, o, cap, rfl, ⟨by rw [Nat.mul_one], hc, by omega, fun e => (by cases e), fun _ => ⟨g, o, rfl, (Array.getElem?_eq_some_iff.1 hg).1, fun j u hj => ?_⟩⟩, hb, (Array.getElem?_eq_some_iff.1 hg).1⟩
 rw [cell_of_row w g _ _ e (0, 0) hg]
 rw [← ht, List.getElem?_take] at hj
 split at hj
 · rw [List.getElem?_drop] at hj
   rw [← Array.getElem?_toList]; exact hj
 · cases hj
theorem zex {P : Program} (w : World) (t ty e : TypeId) (i : TypeInfo) (ht : P.underlying t = some (.slice e)) (hi : P.info? e = some i) (h1i : i.size = 1)
   (g o sLen sCap : Nat) (cur : Array Value) (hg : w.heap[g]? = some (.cells cur e (0, 0)))
   (a : Addr) (c : Nat) (u : Value) (hu : w.cell? a = some u) (h1 : u.oneCell' = true) (hroom : sLen + 1 ≤ sCap) (hfit : o + sLen + 1 ≤ cur.size) :
   (Builtin.append_ #[t, t] ty #[.slice (some ⟨g, o, none⟩) sLen sCap, .slice (some a) 1 c]).run P w =
     .ok (.slice (some ⟨g, o, none⟩) (sLen + 1) sCap) (w.setRow g (cur.toList.take (o + sLen) ++ [u] ++ cur.toList.drop (o + sLen + 1)).toArray) := by
 have hadd : a.add 0 = a := by cases a; unfold Addr.add; split <;> simp_all
 have hf := run_firstCells_some (P := P) w i.size 1 a 1 c [u] (by rw [h1i]; rfl) (fun j v hj => by
   obtain ⟨rfl, rfl⟩ : j = 0 ∧ v = u := by
     cases j with
     | zero => simp at hj; exact ⟨rfl, hj.symm⟩
     | succ j => simp at hj
   rw [hadd]; exact hu)
 have hst := run_storeCells_at P g (o + sLen) e [u] 0 cur w hg (by simpa using hfit) (fun v hv => by rw [List.mem_singleton.1 hv]; exact h1)
 simp only [Nat.add_zero, List.length_singleton] at hst
 rw [h1i] at hf
 simp only [List.append_assoc, List.singleton_append] at hst ⊢
 simp [Builtin.append_, run_underlying ht, sizeOf, typeInfo, hi, Builtin.lenOf, hroom, hf, Addr.add_lit, hst, h1i]
theorem zfi {P : Program} {w : World} {o : Oper} {a : Act} {K : Act → World → Prop} {Q : Exit → Act → World → Prop} {t e : TypeId} {z : Value} {bytes : Nat} (T : zcW P t e z 1 bytes)
   (s x : Operand) (ho : o.op = .call { callee := .builtin .append, args := #[s, x], argTypes := #[t, t] })
   (base : Nat) (v : Value) (xs : List Value) (hs : a.eval s = v) (hown : OwnO w base e v xs)
   (ad : Addr) (c : Nat) (u : Value) (hx : a.eval x = .slice (some ad) 1 c) (hu : w.cell? ad = some u) (h1 : u.oneCell' = true)
   (h63 : xs.length + 1 ≤ maxLen) (hbytes : (xs.length + 1) * bytes ≤ 140737488355328) (hbase : base ≤ w.heap.size)
   (h : ∀ g off cap w', OwnO w' base e (.slice (some ⟨g, off, none⟩) (xs.length + 1) cap) (xs ++ [u]) → w.grownBy w' v.ownBlock → v.ownBlock = some g ∨ w.heap.size ≤ g → (∀ b k y, w.cell? ⟨b, k, none⟩ = some y → (∀ g o n c, v = .slice (some ⟨g, o, none⟩) n c → b ≠ g ∨ k < o + n ∨ c ≤ n) → w'.cell? ⟨b, k, none⟩ = some y) → K (a.put o.dst (.slice (some ⟨g, off, none⟩) (xs.length + 1) cap)) w') : o.wp P a w K Q := by
 obtain ⟨i, hi, hz, hs', hb⟩ := info_parts T.info
 subst hb
 have hrow := hown.row
 obtain ⟨g, off, cap, cur, rfl, hbg, hg, hnc, hcm, hcs, htk⟩ := hown
 have hadd : ad.add 0 = ad := by cases ad; unfold Addr.add; split <;> simp_all
 by_cases hroom : xs.length + 1 ≤ cap
 · have hrun := zex (P := P) w t o.type e i T.und hi hs' g off xs.length cap cur hg ad c u hu h1 hroom (by omega)
   unfold Oper.wp
   simp [execOp, ho, resolve, invoke, builtin, hs, hx, hrun, Result.andThen]
   refine h g off cap _ ⟨g, off, cap, (cur.toList.take (off + xs.length) ++ u :: cur.toList.drop (off + xs.length + 1)).toArray, by simp, hbg, ?_, by simpa using hroom, hcm, ?_, ?_⟩ ?_ (.inl rfl) (fun b k y hy hc => ?_)
   · exact setRow_heap w g _ _ e (0, 0) hg
   · simp; omega
   · rw [List.toList_toArray, List.drop_append_of_le_length (by simp; omega), List.length_append, List.length_singleton]
     rw [List.drop_take, show off + xs.length - off = xs.length from by omega, htk]
     rw [show xs ++ u :: cur.toList.drop (off + xs.length + 1) = (xs ++ [u]) ++ cur.toList.drop (off + xs.length + 1) from by simp, List.take_left' (by simp)]
   · exact ⟨rfl, rfl, rfl, by simp [World.setRow], fun k hk hne => setRow_other w g k _ (fun e => hne (by rw [e]; rfl))⟩
   · by_cases hbg : b = g
     · subst hbg
       have hk : k < off + xs.length := by
         rcases hc b off xs.length cap rfl with h1 | h1 | h1
         · exact (h1 rfl).elim
         · exact h1
         · omega
       rw [cell_of_row w b k _ e (0, 0) hg] at hy
       rw [cell_of_row _ b k _ e (0, 0) (setRow_heap w b _ _ e (0, 0) hg)]
       have hkc : k < cur.size := by omega
       rw [List.getElem?_toArray, List.getElem?_append_left (by simp; omega), List.getElem?_take_of_lt hk, Array.getElem?_toList]
       exact hy
     · rw [World.cell?_of_block (w := w) (a := ⟨b, k, none⟩) (setRow_other w g b _ hbg)]
       exact hy
 · have hgrow := run_append_grow (P := P) w t o.type e i z T.und hi hz ⟨g, off, none⟩ xs.length cap xs (by rw [hs', Nat.mul_one]) (fun j v hj => by
     obtain ⟨g2, o2, cap2, e2, hr, -, -⟩ := hrow
     simp only [Value.slice.injEq, Option.some.injEq, Addr.mk.injEq] at e2
     obtain ⟨⟨rfl, rfl, -⟩, -, rfl⟩ := e2
     have hlt : 0 < xs.length := by have := (List.getElem?_eq_some_iff.1 hj).1; omega
     obtain ⟨b, off2, hab, -, hcc⟩ := hr.2.2.2.2 hlt
     simp only [Option.some.injEq, Addr.mk.injEq, and_true] at hab
     obtain ⟨rfl, rfl⟩ := hab
     rw [Addr.add_lit]; exact hcc j v hj) ad 1 c [u] (by rw [hs']; rfl) (fun j v hj => by
     obtain ⟨rfl, rfl⟩ : j = 0 ∧ v = u := by
       cases j with
       | zero => simp at hj; exact ⟨rfl, hj.symm⟩
       | succ j => simp at hj
     rw [hadd]; exact hu) (by omega) (by simp only [maxLen] at h63; omega) (growslice_fits (by omega) hbytes)
   unfold Oper.wp
   simp [execOp, ho, resolve, invoke, builtin, hs, hx, hgrow, Result.andThen]
   have hge := grownCap_ge w (xs.length + 1) cap e
   have hle := grownCap_le_maxLen w (xs.length + 1) cap e h63
   refine h w.heap.size 0 (grownCap w (xs.length + 1) cap e) _ ⟨w.heap.size, 0, grownCap w (xs.length + 1) cap e, _, by simp, hbase, heap_alloc_new w.drew _, by simpa using hge, by omega, ?_, ?_⟩ ?_ (.inr (Nat.le_refl _)) (fun b k y hy _ => ?_)
   · simp [size_zeroCells, T.cells]; omega
   · rw [List.drop_zero]
     simp only [Array.toList_append, List.append_assoc]
     rw [← List.append_assoc, List.take_left' (by simp)]
   · exact ⟨rfl, rfl, rfl, by rw [zac]; exact Nat.le_succ _, fun k hk _ => Below.heap_alloc w.drew _ k (show k < w.drew.heap.size from hk)⟩
   · have hlt := World.block_lt_of_cell? w _ hy
     rw [World.cell?_of_block (w := w) (a := ⟨b, k, none⟩) (Below.heap_alloc w.drew _ b (show b < w.drew.heap.size from hlt))]
     exact hy
theorem zeu {P : Program} {w : World} {ops : Array Oper} {o : Oper} {a : Act} {K : Act → World → Prop} {Q : Exit → Act → World → Prop} {E : Prop} {t e : TypeId} {z : Value} {bytes : Nat} (T : zcW P t e z 1 bytes)
   (hgd : o.guard = none) (s x : Operand) (ho : o.op = .call { callee := .builtin .append, args := #[s, x], argTypes := #[t, t] })
   (base : Nat) (v : Value) (xs : List Value) (hs : a.eval s = v) (hown : OwnO w base e v xs)
   (ad : Addr) (c : Nat) (u : Value) (hx : a.eval x = .slice (some ad) 1 c) (hu : w.cell? ad = some u) (h1 : u.oneCell' = true)
   (h63 : xs.length + 1 ≤ maxLen) (hbytes : (xs.length + 1) * bytes ≤ 140737488355328) (hbase : base ≤ w.heap.size)
   (h : ∀ g off cap w', OwnO w' base e (.slice (some ⟨g, off, none⟩) (xs.length + 1) cap) (xs ++ [u]) → w.grownBy w' v.ownBlock → v.ownBlock = some g ∨ w.heap.size ≤ g → (∀ b k y, w.cell? ⟨b, k, none⟩ = some y → (∀ g o n c, v = .slice (some ⟨g, o, none⟩) n c → b ≠ g ∨ k < o + n ∨ c ≤ n) → w'.cell? ⟨b, k, none⟩ = some y) → K (a.put o.dst (.slice (some ⟨g, off, none⟩) (xs.length + 1) cap)) w') :
   if Region.wanted o (yielded ops a.tmps) = true then Oper.wp P o a w K Q else E := by
 have hw : Region.wanted o (yielded ops a.tmps) = true := by simp [Region.wanted, hgd]
 rw [if_pos hw]
 exact zfi T s x ho base v xs hs hown ad c u hx hu h1 h63 hbytes hbase h
theorem OwnO.drop2i {w : World} {base e g o n cap : Nat} {x y : Value} {xs : List Value} (h : OwnO w base e (.slice (some ⟨g, o, none⟩) n cap) (x :: y :: xs)) : OwnO w base e (.slice (if cap = 2 then some ⟨g, o, none⟩ else some ⟨g, o + 2, none⟩) (n - 2) (cap - 2)) xs := by
 obtain ⟨g', o', cap', cur, hv, hb, hg, hc, hm, hs, ht⟩ := h
 simp only [Value.slice.injEq, Option.some.injEq, Addr.mk.injEq, and_true] at hv
 obtain ⟨⟨rfl, rfl⟩, rfl, rfl⟩ := hv
 simp only [List.length_cons] at hc ht ⊢
 by_cases h2 : cap = 2
 · subst h2
   have : xs = [] := List.eq_nil_of_length_eq_zero (by omega)
   subst this
   rw [if_pos rfl]
   exact ⟨g, o, 0, cur, by simp, hb, hg, by simp, by omega, by omega, by simp⟩
 · rw [if_neg h2]
   refine ⟨g, o + 2, cap - 2, cur, by simp, hb, hg, by omega, by omega, by omega, ?_⟩
   have := congrArg (List.drop 2) ht
   rw [List.drop_take, List.drop_drop] at this
   simpa using this
end Go.Proofs.YtkikhmdpcanidaaGreat
namespace Go.Proofs.YtkikhmdpcanidaaGreat
open Go.RowKit Go.Sort
structure SBo {α : Type} (enc : α → Value) (w0 : World) (g : Nat) (t : TypeId) (rest pre : List Value) (o : Nat) (d : Array α) (w : World) : Prop where
 grown : w0.grownBy w (some g)
 blk : w.heap[g]? = some (.cells (pre ++ (d.toList.map enc ++ rest)).toArray t (0, 0))
 len : pre.length = o
section
variable {α : Type} {enc : α → Value} {w0 w : World} {g : Nat} {t : TypeId} {rest pre : List Value} {o : Nat} {d : Array α}
theorem SBo.cell [Inhabited α] (h : SBo enc w0 g t rest pre o d w) (i : Nat) (hi : i < d.size) : w.cell? ⟨g, o + i, none⟩ = some (enc d[i]!) := by
 rw [cell_of_row w g _ _ t (0, 0) h.blk]
 have hl := h.len
 rw [List.getElem?_toArray, List.getElem?_append_right (by omega), show o + i - pre.length = i by omega]
 simp [List.getElem?_append, hi]
theorem SBo.free (h : SBo enc w0 g t rest pre o d w) (i : Nat) : w.frozen? ⟨g, o + i, none⟩ = false := frozen_of_row w g _ _ t h.blk
theorem SBo.drewN (h : SBo enc w0 g t rest pre o d w) (n : Nat) : SBo enc w0 g t rest pre o d (w.drewN n) := ⟨⟨h.grown.os, h.grown.tape, h.grown.output, h.grown.size, h.grown.block⟩, h.blk, h.len⟩
theorem SBo.set (h : SBo enc w0 g t rest pre o d w) (i : Nat) (hi : i < d.size) (x : α) : SBo enc w0 g t rest pre o (d.setIfInBounds i x) (w.setCell ⟨g, o + i, none⟩ (enc x)) := by
 refine ⟨zaP h.grown _, ?_, h.len⟩
 have hl := h.len
 rw [heap_setCell_same w g _ _ t _ h.blk, List.setIfInBounds_toArray, List.set_append_right _ _ (by omega), show o + i - pre.length = i by omega, List.set_append]
 simp [hi, List.map_set]
theorem SBo.swp [Inhabited α] (h : SBo enc w0 g t rest pre o d w) (i j : Nat) (hi : i < d.size) (hj : j < d.size) (q : Nat) :
   SBo enc w0 g t rest pre o (swp d i j) (((w.drewN q).setCell ⟨g, o + i, none⟩ (enc d[j]!)).setCell ⟨g, o + j, none⟩ (enc d[i]!)) :=
 ((h.drewN q).set i hi _).set j (by simpa using hj) _
end
end Go.Proofs.YtkikhmdpcanidaaGreat
namespace Go.Proofs.YtkikhmdpcanidaaGreat
open Go.RowKit Go.Sort
theorem zdn {α : Type} [Inhabited α] (enc : α → Value) (hE : ∀ x, ∃ n, enc x = .pointer n) (F : Value) (g cap a b n : Nat) (rest pre : List Value) (o : Nat) (d : Array α) (w0 w : World)
   (hS : SBo enc w0 g 178 rest pre o d w) (hab : a + n ≤ b) (hb : b + n ≤ d.size) (hsz : d.size < 4611686018427387904) :
   Calls Tryz.prog 168 #[.slice (some ⟨g, o, none⟩) d.size cap, .int .i64 a, .int .i64 b, .int .i64 n, F] w fun e w' => e = .returned (.tuple #[]) ∧ ∃ R : Array α, R.size = d.size ∧ SBo enc w0 g 178 rest pre o R w' ∧ (∀ k, R[k]! = swR d a b n k) ∧ PermIn a (b + n) d R := by
 have HS := Lib.hid hS
 clear hS
 go_enter Tryz.func168, Tryz.ntmps168
 go_wp2
 go_loopw [10] (fun vi wr => ∃ (i : Nat) (dk : Array α), vi = .int .i64 i ∧ i ≤ n ∧ dk.size = d.size ∧ Hid (SBo enc w0 g 178 rest pre o dk wr) ∧ Hid (∀ k, dk[k]! = swR d a b i k) ∧ Hid (PermIn a (b + n) d dk)) (fun vi _ => n - (intOf vi).toNat)
 case atStart => exact ⟨0, d, rfl, by omega, rfl, HS, Lib.hid (fun k => (swR_zero d a b k).symm), Lib.hid (permIn_refl _ _ _)⟩
 case round =>
   obtain ⟨i, dk, rfl, hin, hsk, HSk, HR, HP⟩ := hrel
   clear HS
   by_cases hlt : i < n
   · have hc1 := HSk.out.cell (a + i) (by omega)
     have hc2 := HSk.out.cell (b + i) (by omega)
     have hf1 := HSk.out.free (a + i)
     have hf2 := HSk.out.free (b + i)
     obtain ⟨X, hX⟩ : ∃ X, X = dk[a + i]! := ⟨_, rfl⟩
     obtain ⟨Y, hY⟩ : ∃ Y, Y = dk[b + i]! := ⟨_, rfl⟩
     rw [← hX] at hc1
     rw [← hY] at hc2
     have HX := Lib.hid hX
     have HY := Lib.hid hY
     obtain ⟨x, hx⟩ := hE X
     obtain ⟨y, hy⟩ := hE Y
     rw [hx] at hc1
     rw [hy] at hc2
     have HEx := Lib.hid hx
     have HEy := Lib.hid hy
     clear hx hy hX hY
     have hj1 : ((a : Int) + (i : Int)).toNat = a + i := by omega
     have hj2 : ((b : Int) + (i : Int)).toNat = b + i := by omega
     have hb1 : (a : Int) + (i : Int) < (d.size : Int) := by omega
     have hb2 : (b : Int) + (i : Int) < (d.size : Int) := by omega
     go_wp2
     go_region
     all_goals go_wp2
     go_roundw
     case rel =>
       refine ⟨i + 1, swp dk (a + i) (b + i), by go_num, by omega, by rw [size_swp]; exact hsk, ?_, Lib.hid (swR_step d dk a b n i hlt hab (by omega) HR.out), Lib.hid (permIn_trans _ _ _ _ _ HP.out (swp_permIn dk a (b + n) (a + i) (b + i) (by omega) (by omega) (by omega) (by omega) (by omega)))⟩
       have hw := HSk.out.swp (a + i) (b + i) (by omega) (by omega) 1
       rw [← HX.out, ← HY.out, HEx.out, HEy.out] at hw
       exact Lib.hid hw
     case measure => simp [intOf]; omega
   · obtain rfl : n = i := by omega
     go_wp2
     go_end0
     exact ⟨rfl, dk, hsk, HSk.out, HR.out, HP.out⟩
theorem rot_anyN {α : Type} [Inhabited α] (enc : α → Value) (hE : ∀ x, ∃ n, enc x = .pointer n) (F : Value) (g cap a m b : Nat) (rest pre : List Value) (o : Nat) (d : Array α) (w0 w : World)
   (hS : SBo enc w0 g 178 rest pre o d w) (ham : a < m) (hmb : m < b) (hb : b ≤ d.size) (hsz : d.size < 4611686018427387904) :
   Calls Tryz.prog 162 #[.slice (some ⟨g, o, none⟩) d.size cap, .int .i64 a, .int .i64 m, .int .i64 b, F] w fun e w' => e = .returned (.tuple #[]) ∧ ∃ R : Array α, R.size = d.size ∧ SBo enc w0 g 178 rest pre o R w' ∧ (∀ k, R[k]! = rotF d a m b k) ∧ PermIn a b d R := by
 have HS := Lib.hid hS
 clear hS
 go_enter Tryz.func162, Tryz.ntmps162
 go_wp2
 go_loopw [10, 11] (fun vi vj wr => ∃ (i j : Nat) (dk : Array α), vi = .int .i64 i ∧ vj = .int .i64 j ∧ 0 < i ∧ 0 < j ∧ i ≤ m - a ∧ j ≤ b - m ∧ dk.size = d.size ∧ Hid (SBo enc w0 g 178 rest pre o dk wr) ∧ Hid (∀ k, rotF dk (m - i) m (m + j) k = rotF d a m b k) ∧ Hid (PermIn a b d dk)) (fun vi vj _ => (intOf vi).toNat + (intOf vj).toNat)
 case atStart => exact ⟨m - a, b - m, d, by go_num, by go_num, by omega, by omega, by omega, by omega, rfl, HS, Lib.hid (fun k => by rw [show m - (m - a) = a from by omega, show m + (b - m) = b from by omega]), Lib.hid (permIn_refl _ _ _)⟩
 case round =>
   obtain ⟨i, j, dk, rfl, rfl, hi, hj, him, hjm, hsk, HSk, HR, HP⟩ := hrel
   clear HS
   have hmi : ((m - i : Nat) : Int) = (m : Int) - i := by omega
   by_cases hgt : j < i
   · have hsw := zdn enc hE F g cap (m - i) m j rest pre o dk w0 wr HSk.out (by omega) (by omega) (by omega)
     rw [hmi, hsk] at hsw
     have HSW := Lib.hid hsw
     have hne : ((i : Int) == (j : Int)) = false := by rw [beq_eq_false_iff_ne]; omega
     clear hsw
     go_wp2_with (go_at_call 168; refine HSW.out.mono ?_; rintro e w2 ⟨rfl, R, hRs, hRB, hRk, hRP⟩; have HB2 := Lib.hid hRB; have HK2 := Lib.hid hRk; have HP2 := Lib.hid hRP; clear hRB hRk hRP)
     go_roundw
     case rel => exact ⟨i - j, j, R, by go_num, rfl, by omega, by omega, by omega, by omega, hRs, HB2, Lib.hid (fun k => by rw [rot_gt dk R m i j hgt (by omega) HK2.out k]; exact HR.out k), Lib.hid (permIn_trans _ _ _ _ _ HP.out (permIn_mono dk R (m - i) (m + j) a b (by omega) (by omega) (by omega) HP2.out))⟩
     case measure => simp [intOf]; omega
   · by_cases hlt : i < j
     · have hsw := zdn enc hE F g cap (m - i) (m + j - i) i rest pre o dk w0 wr HSk.out (by omega) (by omega) (by omega)
       rw [hmi, hsk, show ((m + j - i : Nat) : Int) = (m : Int) + j - i from by omega] at hsw
       have HSW := Lib.hid hsw
       have hne : ((i : Int) == (j : Int)) = false := by rw [beq_eq_false_iff_ne]; omega
       clear hsw
       go_wp2_with (go_at_call 168; refine HSW.out.mono ?_; rintro e w2 ⟨rfl, R, hRs, hRB, hRk, hRP⟩; have HB2 := Lib.hid hRB; have HK2 := Lib.hid hRk; have HP2 := Lib.hid hRP; clear hRB hRk hRP)
       go_roundw
       case rel => exact ⟨i, j - i, R, rfl, by go_num, by omega, by omega, by omega, by omega, hRs, HB2, Lib.hid (fun k => by rw [rot_lt dk R m i j hlt (by omega) HK2.out k]; exact HR.out k), Lib.hid (permIn_trans _ _ _ _ _ HP.out (permIn_mono dk R (m - i) (m + j - i + i) a b (by omega) (by omega) (by omega) HP2.out))⟩
       case measure => simp [intOf]; omega
     · obtain rfl : i = j := by omega
       have hsw := zdn enc hE F g cap (m - i) m i rest pre o dk w0 wr HSk.out (by omega) (by omega) (by omega)
       rw [hmi, hsk] at hsw
       have HSW := Lib.hid hsw
       clear hsw
       go_wp2_with (go_at_call 168; refine HSW.out.mono ?_; rintro e w2 ⟨rfl, R, hRs, hRB, hRk, hRP⟩; have HB2 := Lib.hid hRB; have HK2 := Lib.hid hRk; have HP2 := Lib.hid hRP; clear hRB hRk hRP)
       go_end0
       exact ⟨rfl, R, hRs, HB2.out, fun k => by rw [rot_eq dk R m i (by omega) HK2.out k]; exact HR.out k, permIn_trans _ _ _ _ _ HP.out (permIn_mono dk R (m - i) (m + i) a b (by omega) (by omega) (by omega) HP2.out)⟩
end Go.Proofs.YtkikhmdpcanidaaGreat
