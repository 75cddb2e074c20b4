/-
  Our texts Ps3 to Ps4, in one.
-/
import Derived.Test.YtmejhjgdofncfaaPkP13
import Derived.Deep.DeepCutAuto
/-
  Walks of layer 12: whether a name must come; a reference. (Printed by genpref.py.)
-/
namespace Go.Proofs.Ytmejhjgdofncfaa
open Go.RowKit

set_option maxHeartbeats 1000000 in
theorem wants_any {w : World} {g n cap : Nat} {d : Bool} {a : Option Addr} (h : w.heap[g]? = some (.cells #[.bool d, .slice a n cap] 48 (0, 0))) (hn : n ≤ maxLen) :
    Calls Try.prog 23 #[.pointer (some ⟨g, 0, none⟩)] w fun e w' => e = .returned (.bool (d && n % 2 == 0)) ∧ w = w' := by
  have c0 : w.cell? ⟨g, 0, none⟩ = some (.bool d) := by rw [cell_of_row w g 0 _ _ _ h]; rfl
  have c1 : w.cell? ⟨g, 1, none⟩ = some (.slice a n cap) := by rw [cell_of_row w g 1 _ _ _ h]; rfl
  have hi : (n : Int) ≤ 9223372036854775807 := by unfold maxLen at hn; omega
  have he : ((n : Int) % 2 == 0) = (n % 2 == 0) := by rw [Bool.eq_iff_iff]; simp; omega
  have HE := Lib.hid he
  clear h hn he
  cases d
  · go_enter Try.func23, Try.ntmps23
    go_wp2
    go_ret
    exact ⟨rfl, rfl⟩
  · go_enter Try.func23, Try.ntmps23
    go_wp2
    go_ret
    exact ⟨ret_bool (by rw [Bool.true_and]; exact HE.out), rfl⟩

section
variable {w0 w w' : World} {F F' G : Nat → Prop} {p : Nat} {a : Option Addr} {cap : Nat} {bs : List UInt8} {last : Bool} {st : List Lv} {at_ : Int} {gs : List Nat} {osl : Value}
/-- What a value that is read leaves: the stack's place alone has turned. -/
def RefEnd (w0 w : World) (F G : Nat → Prop) (p : Nat) (a : Option Addr) (cap : Nat) (bs : List UInt8) (last : Bool) (st : List Lv) (gs : List Nat) (osl : Value) (R : PV × Int × Int) (e : Ending) (w' : World) : Prop :=
  e = .returned (.tuple #[pvA R.1 (.slice none 0 0), .int .i64 R.2.2]) ∧ IsStk w0 w' F G p a cap bs last st R.2.1 gs osl ∧ Keeps (fun b => b = p) w w'

theorem fin4 (h : IsStk w0 w F G p a cap bs last st at_ gs osl) {W : World} (hb : Below w.heap.size w W) {q : Nat} (hq : w.heap.size ≤ q) (hl : q < W.heap.size) (y0 y1 y2 y3 : Value) :
    IsStk w0 ((((W.setCell ⟨q, 0, none⟩ y0).setCell ⟨q, 1, none⟩ y1).setCell ⟨q, 2, none⟩ y2).setCell ⟨q, 3, none⟩ y3) F G p a cap bs last st at_ gs osl ∧
      Keeps (fun b => b = p) w ((((W.setCell ⟨q, 0, none⟩ y0).setCell ⟨q, 1, none⟩ y1).setCell ⟨q, 2, none⟩ y2).setCell ⟨q, 3, none⟩ y3) :=
  ⟨((h.res (G' := fun b => G b ∨ b = q) hb (fun b hb => hb.imp id fun e => by rw [e]; exact ⟨hq, hl⟩)).set4 (.inr rfl) _ _ _ _).give fun b hb => .inl hb, keeps_set4 (keeps_below hb) hq _ _ _ _⟩
theorem fin4a (h : IsStk w0 w F G p a cap bs last st at_ gs osl) {W : World} (hb : Below w.heap.size w W) {q : Nat} (hq : w.heap.size ≤ q) (hl : q < W.heap.size) (at2 : Int) (y0 y1 y2 y3 : Value) :
    IsStk w0 (((((W.setCell ⟨p, 1, none⟩ (.int .i64 at2)).setCell ⟨q, 0, none⟩ y0).setCell ⟨q, 1, none⟩ y1).setCell ⟨q, 2, none⟩ y2).setCell ⟨q, 3, none⟩ y3) F G p a cap bs last st at2 gs osl ∧
      Keeps (fun b => b = p) w (((((W.setCell ⟨p, 1, none⟩ (.int .i64 at2)).setCell ⟨q, 0, none⟩ y0).setCell ⟨q, 1, none⟩ y1).setCell ⟨q, 2, none⟩ y2).setCell ⟨q, 3, none⟩ y3) :=
  ⟨(((h.res (G' := fun b => G b ∨ b = q) hb (fun b hb => hb.imp id fun e => by rw [e]; exact ⟨hq, hl⟩)).setAt at2).set4 (.inr rfl) _ _ _ _).give fun b hb => .inl hb,
    keeps_set4 (Keeps.setCell (S := fun b => b = p) (a := ⟨p, 1, none⟩) (keeps_below hb) (.inl rfl) _) hq _ _ _ _⟩
theorem drew4 {W : World} {S : Nat → Prop} (h : IsStk w0 W F G p a cap bs last st at_ gs osl ∧ Keeps S w W) : IsStk w0 W.drew F G p a cap bs last st at_ gs osl ∧ Keeps S w W.drew := ⟨h.1.drewN 1, h.2.drewN 1⟩
set_option maxRecDepth 8000 in
set_option maxHeartbeats 8000000 in
theorem ref_any (h : IsStk w0 w F G p a cap bs last st at_ gs osl) (v : PV) : Calls Try.prog 27 #[.pointer (some ⟨p, 0, none⟩), pvA v (.slice none 0 0)] w (RefEnd w0 w F G p a cap bs last st gs osl (refV bs last at_ v)) := by
  have HN := Lib.hid (fun (W : World) (hb : Below w.heap.size w W) => next_any (h.bytes.mono hb) h.small at_ last)
  obtain ⟨R, hR⟩ : ∃ R, R = refV bs last at_ v := ⟨_, rfl⟩
  rw [← hR]
  unfold refV at hR
  simp only at hR
  have HWH := Lib.hid (fun (W : World) => whole_tk (nextV bs at_ last).1 (nextV bs at_ last).2.1 (nextV bs at_ last).2.2.1 W)
  have HN2 := Lib.hid (fun (W : World) (hb : Below w.heap.size w W) => next_any (h.bytes.mono hb) h.small (nextV bs at_ last).2.2.1 last)
  generalize nextV bs (nextV bs at_ last).2.2.1 last = V2 at *
  generalize nextV bs at_ last = V at *
  obtain ⟨x, gf, gt, ger⟩ := V
  obtain ⟨y, rf, rt, rer⟩ := V2
  simp only at hR HN2 HWH
  unfold NextEnd tokN at HN HN2
  unfold tokN at HWH
  simp only at HN HN2
  unfold pvA
  have HR := Lib.hid hR
  have HYS := Lib.hid (eq_mkB y.s [82])
  clear hR
  generalize x.kind = ga0 at *
  generalize x.vk = ga1 at *
  generalize x.vn = ga2 at *
  generalize mkB x.vs = gs1 at *
  generalize mkB x.s = gs2 at *
  generalize y.kind = ra0 at *
  generalize y.vk = ra1 at *
  generalize y.vn = ra2 at *
  generalize mkB y.vs = rs1 at *
  generalize mkB y.s = rs2 at *
  generalize wholeV x = wh at *
  obtain ⟨vk, vn, vs, vl⟩ := v
  simp only [PV.kind, PV.n, PV.s] at HR ⊢
  have HS := Lib.hid h
  have hpw := h.lt
  clear h
  go_enter Try.func27, Try.ntmps27
  go_wp2
  have HB1 := Lib.hid (belowA2 w (.cells #[.int .i64 vk, .int .i64 vn, .string (mkB vs), .slice none 0 0] 27) (.cells #[.int .i64 0, .int .i64 0, .string ⟨#[]⟩, .slice none 0 0] 27))
  have HS1 := Lib.hid (HS.out.mono HB1.out)
  have HK3 := Lib.hid (heapA_old (.cells #[.int .i64 0, .int .i64 0, .string ⟨#[]⟩, .slice none 0 0] 27) (heapA_new (w := w) (b := w.heap.size) (.cells #[.int .i64 vk, .int .i64 vn, .string (mkB vs), .slice none 0 0] 27) rfl))
  have HK4 := Lib.hid (heapA_new (w := w.alloc (.cells #[.int .i64 vk, .int .i64 vn, .string (mkB vs), .slice none 0 0] 27)) (b := w.heap.size + 1) (.cells #[.int .i64 0, .int .i64 0, .string ⟨#[]⟩, .slice none 0 0] 27) (by rw [sizeA]))
  generalize (w.alloc _).alloc _ = W1 at *
  obtain ⟨r, hr⟩ : ∃ r, r = w.heap.size := ⟨_, rfl⟩
  have hpr0 : p ≠ r := by omega
  have hpr1 : p ≠ r + 1 := by omega
  rw [← hr] at HK3 HK4 ⊢
  have HRR := Lib.hid hr
  clear hr hpw
  obtain ⟨⟨c0, c1, c2, c3⟩, f0, f1, f2, f3⟩ := HS1.out.cells
  go_upto_region 1 with fail
  go_cut [6, 7] from 9 (fun v6 v7 wx => ∃ r2, v6 = .pointer (some ⟨r2, 0, none⟩) ∧ v7 = .int .i64 ger ∧ Hid (TkM W1 wx r2 #[.int .i64 ga0, .int .i64 gf, .int .i64 gt, .int .i64 ga1, .int .i64 ga2, .string gs1, .slice none 0 0, .string gs2]))
  case first =>
    have HA1 := Lib.hid (fun o : Obj => (belowA W1 o).drew)
    have HA2 := Lib.hid (fun o : Obj => HB1.out.trans ((HA1.out o).mono (show w.heap.size ≤ W1.heap.size from HB1.out.size)))
    have HC0 : Hid (S3 W1 p 0 (.slice a bs.length cap) p 1 (.int .i64 at_) p 2 (.bool last)) := Lib.hid ⟨c0, c1, c2⟩
    have HPR : Hid (p ≠ W1.heap.size ∧ p ≠ W1.heap.size ∧ p ≠ W1.heap.size) := Lib.hid ⟨Nat.ne_of_lt (World.block_lt_of_cell? W1 _ c0), Nat.ne_of_lt (World.block_lt_of_cell? W1 _ c1), Nat.ne_of_lt (World.block_lt_of_cell? W1 _ c2)⟩
    go_region_held3 (fun w' => w'.cell? ⟨p, 0, none⟩ = some (.slice a bs.length cap) ∧ w'.cell? ⟨p, 1, none⟩ = some (.int .i64 at_) ∧ w'.cell? ⟨p, 2, none⟩ = some (.bool last))
      ((show S3 _ p 0 (.slice a bs.length cap) p 1 (.int .i64 at_) p 2 (.bool last); (first
        | (with_reducible exact HC0.out.drew)
        | (with_reducible exact HC0.out)
        | (with_reducible exact (HC0.out.alloc _).drew)
        | (with_reducible exact Hid.out (by assumption))
        | (with_reducible exact S3.alloc (Hid.out (by assumption)) _)
        | (with_reducible exact S3.set8 (Hid.out (by assumption)) HPR.out.1 HPR.out.2.1 HPR.out.2.2 _ _ _ _ _ _ _ _))))
      ((go_at_call 15; first
        | ((with_reducible refine (HN.out _ HB1.out.drew).mono ?_); rintro e wN ⟨rfl, hbN⟩; have hbM : Below W1.heap.size W1 wN := (Below.refl _ _).drew.trans hbN; have HSN := Lib.hid (HC0.out.below hbM))
        | ((with_reducible refine (HN.out _ (HA2.out _)).mono ?_); rintro e wN ⟨rfl, hbN⟩; have hbM : Below W1.heap.size W1 wN := (HA1.out _).trans (hbN.mono (HA1.out _).size); have HSN := Lib.hid (HC0.out.below hbM); have HZ := Lib.hid (block_keep hbN (heapA_new (w := W1) (b := W1.heap.size) (.cells #[.int .i64 0, .int .i64 0, .int .i64 0, .int .i64 0, .int .i64 0, .string ⟨#[]⟩, .slice none 0 0, .string ⟨#[]⟩] 40) rfl)); obtain ⟨⟨z0, z1, z2, z3, z4, z5, z6, z7⟩, y0, y1, y2, y3, y4, y5, y6, y7⟩ := cells8 HZ.out)))
    all_goals
      first
        | (obtain ⟨W2, hW2⟩ : ∃ W2, W2 = wN.alloc (.cells #[.int .i64 ga0, .int .i64 gf, .int .i64 gt, .int .i64 ga1, .int .i64 ga2, .string gs1, .slice none 0 0, .string gs2] 40) := ⟨_, rfl⟩
           rw [← hW2]
           have HT := Lib.hid (show TkM W1 W2 wN.heap.size #[.int .i64 ga0, .int .i64 gf, .int .i64 gt, .int .i64 ga1, .int .i64 ga2, .string gs1, .slice none 0 0, .string gs2] from ⟨by rw [hW2]; exact hbM.alloc hbM.size _, by rw [hW2]; exact heapA_new _ rfl, hbM.size⟩)
           obtain ⟨r2, hr2⟩ : ∃ r2, r2 = wN.heap.size := ⟨_, rfl⟩
           rw [← hr2] at HT ⊢)
        | (obtain ⟨W2, hW2⟩ : ∃ W2, W2 = ((((((((wN.setCell ⟨W1.heap.size, 0, none⟩ (.int .i64 ga0)).setCell ⟨W1.heap.size, 1, none⟩ (.int .i64 gf)).setCell ⟨W1.heap.size, 2, none⟩ (.int .i64 gt)).setCell ⟨W1.heap.size, 3, none⟩ (.int .i64 ga1)).setCell ⟨W1.heap.size, 4, none⟩ (.int .i64 ga2)).setCell ⟨W1.heap.size, 5, none⟩ (.string gs1)).setCell ⟨W1.heap.size, 6, none⟩ (.slice none 0 0)).setCell ⟨W1.heap.size, 7, none⟩ (.string gs2)) := ⟨_, rfl⟩
           rw [← hW2]
           have HT := Lib.hid (show TkM W1 W2 W1.heap.size #[.int .i64 ga0, .int .i64 gf, .int .i64 gt, .int .i64 ga1, .int .i64 ga2, .string gs1, .slice none 0 0, .string gs2] from ⟨by rw [hW2]; exact below_set8 hbM (Nat.le_refl _) _ _ _ _ _ _ _ _, by rw [hW2]; exact set8 HZ.out _ _ _ _ _ _ _ _, Nat.le_refl _⟩)
           clear z0 z1 z2 z3 z4 z5 z6 z7 y0 y1 y2 y3 y4 y5 y6 y7 HZ
           obtain ⟨r2, hr2⟩ : ∃ r2, r2 = W1.heap.size := ⟨_, rfl⟩
           rw [← hr2] at HT ⊢)
      clear hW2 hr2 hbN hbM HSN
    all_goals
      go_wp2
      go_meet
      exact ⟨r2, rfl, rfl, HT⟩
  case rest =>
    obtain ⟨r2, rfl, rfl, HT⟩ := hcut
    have HS2 := Lib.hid (HS1.out.mono HT.out.bel)
    have HB2 := Lib.hid (HB1.out.trans (HT.out.bel.mono HB1.out.size))
    have HL3 := Lib.hid (block_keep HT.out.bel HK3.out)
    have HL4 := Lib.hid (block_keep HT.out.bel HK4.out)
    have HTK := Lib.hid HT.out.blk
    clear c0 c1 c2 c3 f0 f1 f2 f3 HT HK3 HK4 HS1 HB1 HN
    have hmv := Lib.hid (fun e w => more_any e w)
    by_cases hg : ger = 0
    case neg =>
      have e1 : (ger == 0) = false := by rw [beq_eq_false_iff_ne]; exact hg
      have e2 : (ger != 0) = true := by simp only [bne, e1, Bool.not_false]
      have hr2 := HR.out
      rw [if_pos (.inl hg)] at hr2
      have HR2 := Lib.hid hr2
      obtain ⟨⟨k0, k1, k2, k3⟩, m0, m1, m2, m3⟩ := cells4 HL3.out
      obtain ⟨⟨q0, q1, q2, q3⟩, n0, n1, n2, n3⟩ := cells4 HL4.out
      clear hr2 hg HR HN2
      go_wp2
      go_region_with ((go_at_call 44; refine (hmv.out _ _).mono ?_; rintro e w' ⟨rfl, rfl⟩))
      all_goals
        go_wp2
        refine bodyPost_ret (results_val rfl _ _ (r + 1) 27 _ (0, 0) _ rfl (by exact set4 HL4.out _ _ _ _) Try.underlying27 rfl (by exact infoPV) _ rfl) rfl ?_
        rw [HR2.out]
        exact ⟨rfl, drew4 (fin4 HS.out HB2.out (by rw [HRR.out]; exact Nat.le_succ _) (lt_of_heap HL4.out) _ _ _ _)⟩
    subst hg
    cases wh with
    | false =>
      have hr2 := HR.out
      rw [if_pos (.inr rfl)] at hr2
      have HR2 := Lib.hid hr2
      obtain ⟨⟨k0, k1, k2, k3, k4, k5, k6, k7⟩, -⟩ := cells8 HTK.out
      clear hr2 HR HN2
      go_wp2_with fail
      refine (HWH.out _).mono ?_
      rintro e w' ⟨rfl, hb⟩
      have HL3b := Lib.hid (block_keep hb HL3.out)
      have HL4b := Lib.hid (block_keep hb HL4.out)
      have HB3 := Lib.hid (HB2.out.trans (hb.mono HB2.out.size))
      obtain ⟨⟨k0, k1, k2, k3⟩, m0, m1, m2, m3⟩ := cells4 HL3b.out
      obtain ⟨⟨q0, q1, q2, q3⟩, n0, n1, n2, n3⟩ := cells4 HL4b.out
      clear hb
      go_wp2
      go_region_with ((go_at_call 44; refine (hmv.out _ _).mono ?_; rintro e w' ⟨rfl, rfl⟩))
      all_goals
        go_wp2
        refine bodyPost_ret (results_val rfl _ _ (r + 1) 27 _ (0, 0) _ rfl (by exact set4 HL4b.out _ _ _ _) Try.underlying27 rfl (by exact infoPV) _ rfl) rfl ?_
        rw [HR2.out]
        exact ⟨rfl, drew4 (fin4 HS.out HB3.out (by rw [HRR.out]; exact Nat.le_succ _) (lt_of_heap HL4b.out) _ _ _ _)⟩
    | true =>
      have hr1 := HR.out
      rw [if_neg (by simp)] at hr1
      have HRX := Lib.hid hr1
      obtain ⟨⟨k0, k1, k2, k3, k4, k5, k6, k7⟩, -⟩ := cells8 HTK.out
      clear hr1 HR
      go_upto_region 4 with (go_at_call 26; refine (HWH.out _).mono ?_; rintro e W3 ⟨rfl, hb3⟩)
      have HB3 := Lib.hid (HB2.out.trans (hb3.mono HB2.out.size))
      have HS3 := Lib.hid (HS2.out.mono hb3)
      have HL3b := Lib.hid (block_keep hb3 HL3.out)
      have HL4b := Lib.hid (block_keep hb3 HL4.out)
      have HTKb := Lib.hid (block_keep hb3 HTK.out)
      clear hb3 k0 k1 k2 k3 k4 k5 k6 k7
      go_cut [7, 8] from 9 (fun v7 v8 wx => ∃ r3, v7 = .int .i64 rer ∧ v8 = .pointer (some ⟨r3, 0, none⟩) ∧ Hid (TkM W3 wx r3 #[.int .i64 ra0, .int .i64 rf, .int .i64 rt, .int .i64 ra1, .int .i64 ra2, .string rs1, .slice none 0 0, .string rs2]))
      case first =>
        obtain ⟨⟨k0, k1, k2, k3, k4, k5, k6, k7⟩, -⟩ := cells8 HTKb.out
        obtain ⟨⟨c0, c1, c2, c3⟩, -⟩ := HS3.out.cells
        clear k0 k1 k3 k4 k5 k6 k7 c1 c3
        have HA1 := Lib.hid (fun o : Obj => (belowA W3 o).drew)
        have HA2 := Lib.hid (fun o : Obj => HB3.out.trans ((HA1.out o).mono (show w.heap.size ≤ W3.heap.size from HB3.out.size)))
        have HC0 : Hid (S3 W3 p 0 (.slice a bs.length cap) r2 2 (.int .i64 gt) p 2 (.bool last)) := Lib.hid ⟨c0, k2, c2⟩
        have HPR : Hid (p ≠ W3.heap.size ∧ r2 ≠ W3.heap.size ∧ p ≠ W3.heap.size) := Lib.hid ⟨Nat.ne_of_lt (World.block_lt_of_cell? W3 _ c0), Nat.ne_of_lt (World.block_lt_of_cell? W3 _ k2), Nat.ne_of_lt (World.block_lt_of_cell? W3 _ c2)⟩
        go_region_held3 (fun w' => w'.cell? ⟨p, 0, none⟩ = some (.slice a bs.length cap) ∧ w'.cell? ⟨r2, 2, none⟩ = some (.int .i64 gt) ∧ w'.cell? ⟨p, 2, none⟩ = some (.bool last))
          ((show S3 _ p 0 (.slice a bs.length cap) r2 2 (.int .i64 gt) p 2 (.bool last); (first
            | (with_reducible exact HC0.out.drew)
            | (with_reducible exact HC0.out)
            | (with_reducible exact (HC0.out.alloc _).drew)
            | (with_reducible exact Hid.out (by assumption))
            | (with_reducible exact S3.alloc (Hid.out (by assumption)) _)
            | (with_reducible exact S3.set8 (Hid.out (by assumption)) HPR.out.1 HPR.out.2.1 HPR.out.2.2 _ _ _ _ _ _ _ _))))
          ((go_at_call 15; first
            | ((with_reducible refine (HN2.out _ HB3.out.drew).mono ?_); rintro e wN ⟨rfl, hbN⟩; have hbM : Below W3.heap.size W3 wN := (Below.refl _ _).drew.trans hbN; have HSN := Lib.hid (HC0.out.below hbM))
            | ((with_reducible refine (HN2.out _ (HA2.out _)).mono ?_); rintro e wN ⟨rfl, hbN⟩; have hbM : Below W3.heap.size W3 wN := (HA1.out _).trans (hbN.mono (HA1.out _).size); have HSN := Lib.hid (HC0.out.below hbM); have HZ := Lib.hid (block_keep hbN (heapA_new (w := W3) (b := W3.heap.size) (.cells #[.int .i64 0, .int .i64 0, .int .i64 0, .int .i64 0, .int .i64 0, .string ⟨#[]⟩, .slice none 0 0, .string ⟨#[]⟩] 40) rfl)); obtain ⟨⟨z0, z1, z2, z3, z4, z5, z6, z7⟩, y0, y1, y2, y3, y4, y5, y6, y7⟩ := cells8 HZ.out)))
        all_goals
          first
            | (obtain ⟨W2, hW2⟩ : ∃ W2, W2 = wN.alloc (.cells #[.int .i64 ra0, .int .i64 rf, .int .i64 rt, .int .i64 ra1, .int .i64 ra2, .string rs1, .slice none 0 0, .string rs2] 40) := ⟨_, rfl⟩
               rw [← hW2]
               have HT := Lib.hid (show TkM W3 W2 wN.heap.size #[.int .i64 ra0, .int .i64 rf, .int .i64 rt, .int .i64 ra1, .int .i64 ra2, .string rs1, .slice none 0 0, .string rs2] from ⟨by rw [hW2]; exact hbM.alloc hbM.size _, by rw [hW2]; exact heapA_new _ rfl, hbM.size⟩)
               obtain ⟨r2_1, hr2⟩ : ∃ r2_1, r2_1 = wN.heap.size := ⟨_, rfl⟩
               rw [← hr2] at HT ⊢)
            | (obtain ⟨W2, hW2⟩ : ∃ W2, W2 = ((((((((wN.setCell ⟨W3.heap.size, 0, none⟩ (.int .i64 ra0)).setCell ⟨W3.heap.size, 1, none⟩ (.int .i64 rf)).setCell ⟨W3.heap.size, 2, none⟩ (.int .i64 rt)).setCell ⟨W3.heap.size, 3, none⟩ (.int .i64 ra1)).setCell ⟨W3.heap.size, 4, none⟩ (.int .i64 ra2)).setCell ⟨W3.heap.size, 5, none⟩ (.string rs1)).setCell ⟨W3.heap.size, 6, none⟩ (.slice none 0 0)).setCell ⟨W3.heap.size, 7, none⟩ (.string rs2)) := ⟨_, rfl⟩
               rw [← hW2]
               have HT := Lib.hid (show TkM W3 W2 W3.heap.size #[.int .i64 ra0, .int .i64 rf, .int .i64 rt, .int .i64 ra1, .int .i64 ra2, .string rs1, .slice none 0 0, .string rs2] from ⟨by rw [hW2]; exact below_set8 hbM (Nat.le_refl _) _ _ _ _ _ _ _ _, by rw [hW2]; exact set8 HZ.out _ _ _ _ _ _ _ _, Nat.le_refl _⟩)
               clear z0 z1 z2 z3 z4 z5 z6 z7 y0 y1 y2 y3 y4 y5 y6 y7 HZ
               obtain ⟨r2_1, hr2⟩ : ∃ r2_1, r2_1 = W3.heap.size := ⟨_, rfl⟩
               rw [← hr2] at HT ⊢)
          clear hW2 hr2 hbN hbM HSN
        all_goals
          go_wp2
          go_meet
          exact ⟨r2_1, rfl, rfl, HT⟩
      case rest =>
        obtain ⟨r3, rfl, rfl, HT⟩ := hcut
        have HS4 := Lib.hid (HS3.out.mono HT.out.bel)
        have HB4 := Lib.hid (HB3.out.trans (HT.out.bel.mono HB3.out.size))
        have HM3 := Lib.hid (block_keep HT.out.bel HL3b.out)
        have HM4 := Lib.hid (block_keep HT.out.bel HL4b.out)
        have HU1 := Lib.hid (block_keep HT.out.bel HTKb.out)
        have HU2 := Lib.hid HT.out.blk
        clear HT
        obtain ⟨⟨k0, k1, k2, k3⟩, m0, m1, m2, m3⟩ := cells4 HM3.out
        obtain ⟨⟨q0, q1, q2, q3⟩, n0, n1, n2, n3⟩ := cells4 HM4.out
        obtain ⟨⟨t0, t1, t2, t3, t4, t5, t6, t7⟩, -⟩ := cells8 HU2.out
        obtain ⟨⟨d0, d1, d2, d3, d4, d5, d6, d7⟩, -⟩ := cells8 HU1.out
        obtain ⟨⟨c0, c1, c2, c3⟩, f0, f1, f2, f3⟩ := HS4.out.cells
        have hys := HYS.out
        by_cases h0 : rer = 0
        case neg =>
          have e1 : (rer == 0) = false := by rw [beq_eq_false_iff_ne]; exact h0
          have e2 : (rer != 0) = true := by simp only [bne, e1, Bool.not_false]
          have hr2 := HRX.out
          rw [if_pos (.inl h0)] at hr2
          have HR2 := Lib.hid hr2
          clear hr2 h0 hys
          go_wp2
          go_region_with ((go_at_call 44; refine (hmv.out _ _).mono ?_; rintro e w' ⟨rfl, rfl⟩))
          all_goals
            go_wp2
            refine bodyPost_ret (results_val rfl _ _ (r + 1) 27 _ (0, 0) _ rfl (by exact set4 HM4.out _ _ _ _) Try.underlying27 rfl (by exact infoPV) _ rfl) rfl ?_
            rw [HR2.out]
            exact ⟨rfl, drew4 (fin4 HS.out HB4.out (by rw [HRR.out]; exact Nat.le_succ _) (lt_of_heap HM4.out) _ _ _ _)⟩
        subst h0
        by_cases h6 : ra0 = 6
        case neg =>
          have e1 : (ra0 == 6) = false := by rw [beq_eq_false_iff_ne]; exact h6
          have e2 : (ra0 != 6) = true := by simp only [bne, e1, Bool.not_false]
          have hr2 := HRX.out
          rw [if_pos (.inr (.inl h6))] at hr2
          have HR2 := Lib.hid hr2
          clear hr2 h6 hys
          go_wp2
          go_region_with ((go_at_call 44; refine (hmv.out _ _).mono ?_; rintro e w' ⟨rfl, rfl⟩))
          all_goals
            go_wp2
            refine bodyPost_ret (results_val rfl _ _ (r + 1) 27 _ (0, 0) _ rfl (by exact set4 HM4.out _ _ _ _) Try.underlying27 rfl (by exact infoPV) _ rfl) rfl ?_
            rw [HR2.out]
            exact ⟨rfl, drew4 (fin4 HS.out HB4.out (by rw [HRR.out]; exact Nat.le_succ _) (lt_of_heap HM4.out) _ _ _ _)⟩
        subst h6
        by_cases hs : y.s = [82]
        case neg =>
          rw [decide_eq_false hs] at hys
          have hr2 := HRX.out
          rw [if_pos (.inr (.inr hs))] at hr2
          have HR2 := Lib.hid hr2
          clear hr2 hs
          go_wp2
          go_region_with ((go_at_call 44; refine (hmv.out _ _).mono ?_; rintro e w' ⟨rfl, rfl⟩))
          all_goals
            go_wp2
            refine bodyPost_ret (results_val rfl _ _ (r + 1) 27 _ (0, 0) _ rfl (by exact set4 HM4.out _ _ _ _) Try.underlying27 rfl (by exact infoPV) _ rfl) rfl ?_
            rw [HR2.out]
            exact ⟨rfl, drew4 (fin4 HS.out HB4.out (by rw [HRR.out]; exact Nat.le_succ _) (lt_of_heap HM4.out) _ _ _ _)⟩
        rw [decide_eq_true hs] at hys
        have hr2 := HRX.out
        rw [if_neg (by rintro (h | h | h); exact h rfl; exact h rfl; exact h hs)] at hr2
        have HRY := Lib.hid hr2
        clear hr2 hs
        by_cases hv1 : vn < 1
        case pos =>
          have hd : decide (vn < 1) = true := decide_eq_true hv1
          have hr2 := HRY.out.trans (if_pos (show vn < 1 ∨ 4096 < vn ∨ ga2 ≠ 0 from .inl hv1))
          have HR2 := Lib.hid hr2
          clear hr2 hv1
          go_wp2
          refine bodyPost_ret (results_val rfl _ _ (r + 1) 27 _ (0, 0) _ rfl (by exact set4 HM4.out _ _ _ _) Try.underlying27 rfl (by exact infoPV) _ rfl) rfl ?_
          rw [HR2.out]
          exact ⟨rfl, fin4 HS.out HB4.out (by rw [HRR.out]; exact Nat.le_succ _) (lt_of_heap HM4.out) _ _ _ _⟩
        have hd1 : decide (vn < 1) = false := decide_eq_false hv1
        by_cases hv2 : 4096 < vn
        case pos =>
          have hd : decide (4096 < vn) = true := decide_eq_true hv2
          have hr2 := HRY.out.trans (if_pos (show vn < 1 ∨ 4096 < vn ∨ ga2 ≠ 0 from .inr (.inl hv2)))
          have HR2 := Lib.hid hr2
          clear hr2 hv2 hv1
          go_wp2
          refine bodyPost_ret (results_val rfl _ _ (r + 1) 27 _ (0, 0) _ rfl (by exact set4 HM4.out _ _ _ _) Try.underlying27 rfl (by exact infoPV) _ rfl) rfl ?_
          rw [HR2.out]
          exact ⟨rfl, fin4 HS.out HB4.out (by rw [HRR.out]; exact Nat.le_succ _) (lt_of_heap HM4.out) _ _ _ _⟩
        have hd2 : decide (4096 < vn) = false := decide_eq_false hv2
        by_cases hg2 : ga2 = 0
        case neg =>
          have e1 : (ga2 == 0) = false := by rw [beq_eq_false_iff_ne]; exact hg2
          have e2 : (ga2 != 0) = true := by simp only [bne, e1, Bool.not_false]
          have hr2 := HRY.out.trans (if_pos (show vn < 1 ∨ 4096 < vn ∨ ga2 ≠ 0 from .inr (.inr hg2)))
          have HR2 := Lib.hid hr2
          clear hr2 hv2 hv1 hg2
          go_wp2
          refine bodyPost_ret (results_val rfl _ _ (r + 1) 27 _ (0, 0) _ rfl (by exact set4 HM4.out _ _ _ _) Try.underlying27 rfl (by exact infoPV) _ rfl) rfl ?_
          rw [HR2.out]
          exact ⟨rfl, fin4 HS.out HB4.out (by rw [HRR.out]; exact Nat.le_succ _) (lt_of_heap HM4.out) _ _ _ _⟩
        subst hg2
        have hr2 := HRY.out.trans (if_neg (show ¬ (vn < 1 ∨ 4096 < vn ∨ (0 : Int) ≠ 0) by rintro (h | h | h); exact hv1 h; exact hv2 h; exact h rfl))
        have HR2 := Lib.hid hr2
        clear hr2 hv2 hv1
        go_wp2
        refine bodyPost_ret (results_val rfl _ _ (r + 1) 27 _ (0, 0) _ rfl (by exact set4 ((heap_setCell_other _ _ _ _ (Ne.symm hpr1)).trans HM4.out) _ _ _ _) Try.underlying27 rfl (by exact infoPV) _ rfl) rfl ?_
        rw [HR2.out]
        exact ⟨rfl, fin4a HS.out HB4.out (by rw [HRR.out]; exact Nat.le_succ _) (lt_of_heap HM4.out) _ _ _ _ _⟩
end
end Go.Proofs.Ytmejhjgdofncfaa
/-
  Walks of layer 12: the value of one token.
-/
namespace Go.Proofs.Ytmejhjgdofncfaa
open Go.RowKit

section
variable {w0 w w' : World} {F F' G : Nat → Prop} {p : Nat} {a : Option Addr} {cap : Nat} {bs : List UInt8} {last : Bool} {st : List Lv} {at_ : Int} {gs : List Nat} {osl : Value}
/-- What stands of the level that was opened last. -/
theorem IsStk.top (h : IsStk w0 w F G p a cap bs last st at_ gs osl) : (st = [] ∧ gs = []) ∨ ∃ v st' g t sa sc, st = v :: st' ∧ gs = g :: t ∧ v.l.length ≤ sc ∧ sc ≤ maxLen ∧ w.heap[g]? = some (.cells #[.bool v.dict, .slice sa v.l.length sc] 48 (0, 0)) := by
  cases st with
  | nil => exact .inl ⟨rfl, List.eq_nil_of_length_eq_zero (by rw [h.lvs.len]; rfl)⟩
  | cons v st' =>
    obtain ⟨g, t, sl, cs, h1, h2, h3, h4, h5, h6, h7, h8⟩ := h.lvs
    obtain ⟨sa, sc, rfl, h9, h10⟩ := owns_slice h5
    exact .inr ⟨v, st', g, t, sa, sc, rfl, h1, h9, h10, h4⟩

set_option maxRecDepth 8000 in
set_option maxHeartbeats 8000000 in
theorem single_any (h : IsStk w0 w F G p a cap bs last st at_ gs osl) (x : Tk) (f t : Int) : Calls Try.prog 18 #[.pointer (some ⟨p, 0, none⟩), .agg (tokN x f t)] w (RefEnd w0 w F G p a cap bs last st gs osl (singleV bs last st at_ x)) := by
  obtain ⟨R, hR⟩ : ∃ R, R = singleV bs last st at_ x := ⟨_, rfl⟩
  rw [← hR]
  unfold singleV at hR
  have HR := Lib.hid hR
  have HTOP := Lib.hid (fun (W : World) (hb : Below w.heap.size w W) => top_any (h.mono hb))
  have HTP := Lib.hid (fun (W : World) (hb : Below w.heap.size w W) => (h.mono hb).top)
  have HREF := Lib.hid (fun (W : World) (hb : Below w.heap.size w W) (hl : w.heap.size + 1 < W.heap.size) => ref_any (h.res (G' := fun b => G b ∨ b = w.heap.size + 1) hb (fun b h => h.imp id fun e => by rw [e]; exact ⟨Nat.le_succ _, hl⟩)) (tkV x))
  have HWD := Lib.hid (fun (W : World) => pword_any x.s W)
  have HWH := Lib.hid (fun (W : World) => whole_tk x f t W)
  have HTK := Lib.hid (show tkV x = .mk x.vk x.vn x.vs [] from rfl)
  generalize tkV x = TV at *
  unfold tokN at *
  generalize wholeV x = wh at *
  generalize x.kind = a0 at *
  generalize x.vk = a1 at *
  generalize x.vn = a2 at *
  generalize hxs : x.vs = xs at *
  generalize x.s = ys at *
  have HS := Lib.hid h
  have hpw := h.lt
  clear h hR hxs
  go_enter Try.func18, Try.ntmps18
  go_wp2_with fail
  have HB1 := Lib.hid (belowA2 w (.cells #[.int .i64 a0, .int .i64 f, .int .i64 t, .int .i64 a1, .int .i64 a2, .string (mkB xs), .slice none 0 0, .string (mkB ys)] 40) (.cells #[.int .i64 0, .int .i64 0, .string ⟨#[]⟩, .slice none 0 0] 27))
  have HK3 := Lib.hid (heapA_old (.cells #[.int .i64 0, .int .i64 0, .string ⟨#[]⟩, .slice none 0 0] 27) (heapA_new (w := w) (b := w.heap.size) (.cells #[.int .i64 a0, .int .i64 f, .int .i64 t, .int .i64 a1, .int .i64 a2, .string (mkB xs), .slice none 0 0, .string (mkB ys)] 40) rfl))
  have HK4 := Lib.hid (heapA_new (w := w.alloc (.cells #[.int .i64 a0, .int .i64 f, .int .i64 t, .int .i64 a1, .int .i64 a2, .string (mkB xs), .slice none 0 0, .string (mkB ys)] 40)) (b := w.heap.size + 1) (.cells #[.int .i64 0, .int .i64 0, .string ⟨#[]⟩, .slice none 0 0] 27) (by rw [sizeA]))
  refine (HTOP.out _ HB1.out).mono ?_
  rintro e w1 ⟨rfl, q, rfl⟩
  generalize (w.alloc _).alloc _ = W1 at *
  have HB2 := Lib.hid (below_drewN HB1.out q)
  have HL3 := Lib.hid (show (W1.drewN q).heap[w.heap.size]? = _ from HK3.out)
  have HL4 := Lib.hid (show (W1.drewN q).heap[w.heap.size + 1]? = _ from HK4.out)
  clear HK3 HK4 HB1
  generalize W1.drewN q = W2 at *
  obtain ⟨r, hr⟩ : ∃ r, r = w.heap.size := ⟨_, rfl⟩
  have hpr0 : p ≠ r := by omega
  have hpr1 : p ≠ r + 1 := by omega
  rw [← hr] at HL3 HL4 ⊢
  have HRR := Lib.hid hr
  clear hr hpw
  go_upto_region 2 with fail
  go_cut [25] from 7 (fun v25 wx => ∃ c : Bool, v25 = .bool c ∧ Hid (c = true ↔ (topW st = true ∧ (a0 ≠ 1 ∨ a1 ≠ 5))) ∧ W2 = wx)
  case first =>
    obtain ⟨⟨k0, k1, k2, k3, k4, k5, k6, k7⟩, -⟩ := cells8 HL3.out
    rcases HTP.out _ HB2.out with ⟨rfl, rfl⟩ | ⟨v, st', g, t', sa, sc, rfl, rfl, h1, h2, h3⟩
    · unfold topP
      go_wp2
      go_meet
      exact ⟨false, rfl, Lib.hid (by simp [topW]), rfl⟩
    · have HWT := Lib.hid (wants_any h3 (by omega))
      have HTW := Lib.hid (show topW (v :: st') = (v.dict && v.l.length % 2 == 0) from rfl)
      unfold topP
      generalize (v.dict && v.l.length % 2 == 0) = tw at *
      clear h1 h2 h3
      cases tw
      · go_wp2_with (go_at_call 23; refine HWT.out.mono ?_; rintro e w' ⟨rfl, rfl⟩)
        go_meet
        exact ⟨false, rfl, Lib.hid (by rw [HTW.out]; simp), rfl⟩
      · by_cases h1 : a0 = 1
        · subst h1
          by_cases h5 : a1 = 5
          · subst h5
            go_wp2_with (go_at_call 23; refine HWT.out.mono ?_; rintro e w' ⟨rfl, rfl⟩)
            go_meet
            exact ⟨false, rfl, Lib.hid (by simp), rfl⟩
          · have e1 : (a1 == 5) = false := by rw [beq_eq_false_iff_ne]; exact h5
            have e2 : (a1 != 5) = true := by simp only [bne, e1, Bool.not_false]
            go_wp2_with (go_at_call 23; refine HWT.out.mono ?_; rintro e w' ⟨rfl, rfl⟩)
            go_meet
            exact ⟨true, rfl, Lib.hid (by rw [HTW.out]; simp [h5]), rfl⟩
        · have e1 : (a0 == 1) = false := by rw [beq_eq_false_iff_ne]; exact h1
          have e2 : (a0 != 1) = true := by simp only [bne, e1, Bool.not_false]
          go_wp2_with (go_at_call 23; refine HWT.out.mono ?_; rintro e w' ⟨rfl, rfl⟩)
          go_meet
          exact ⟨true, rfl, Lib.hid (by rw [HTW.out]; simp [h1]), rfl⟩
  case rest =>
    obtain ⟨c, rfl, HC, rfl⟩ := hcut
    have hr1 : w.heap.size ≤ r + 1 := by rw [HRR.out]; exact Nat.le_succ _
    have HR1 := Lib.hid hr1
    clear hr1
    cases c with
    | true =>
      have hr2 := HR.out
      rw [if_pos (HC.out.1 rfl)] at hr2
      have HR2 := Lib.hid hr2
      obtain ⟨⟨q0, q1, q2, q3⟩, n0, n1, n2, n3⟩ := cells4 HL4.out
      clear hr2 HR HREF HWD HWH
      go_wp2
      refine bodyPost_ret (results_val rfl _ _ (r + 1) 27 _ (0, 0) _ rfl (by exact set4 HL4.out _ _ _ _) Try.underlying27 rfl (by exact infoPV) _ rfl) rfl ?_
      rw [HR2.out]
      exact ⟨rfl, fin4 HS.out HB2.out HR1.out (lt_of_heap HL4.out) _ _ _ _⟩
    | false =>
      have hr2 := HR.out
      rw [if_neg (fun h => absurd (HC.out.2 h) (by decide))] at hr2
      have HRX := Lib.hid hr2
      obtain ⟨⟨k0, k1, k2, k3, k4, k5, k6, k7⟩, -⟩ := cells8 HL3.out
      clear hr2 HR HC
      by_cases h6 : a0 = 6
      · have hr2 := HRX.out
        rw [if_pos h6] at hr2
        subst h6
        have hr3 : R = ((wordE ys).1, at_, (wordE ys).2) := by
          rw [hr2]; unfold wordE; cases wordV ys <;> rfl
        have HR2 := Lib.hid hr3
        unfold pvA at HWD
        clear hr2 hr3 HRX
        go_wp2_with fail
        refine (HWD.out _).mono ?_
        rintro e w3 ⟨rfl, hb3⟩
        have HL4b := Lib.hid (block_keep hb3 HL4.out)
        have HB3 := Lib.hid (HB2.out.trans (hb3.mono HB2.out.size))
        obtain ⟨⟨q0, q1, q2, q3⟩, n0, n1, n2, n3⟩ := cells4 HL4b.out
        clear hb3
        go_wp2
        refine bodyPost_ret (results_val rfl _ _ (r + 1) 27 _ (0, 0) _ rfl (by exact set4 HL4b.out _ _ _ _) Try.underlying27 rfl (by exact infoPV) _ rfl) rfl ?_
        rw [HR2.out]
        exact ⟨rfl, fin4 HS.out HB3.out HR1.out (lt_of_heap HL4b.out) _ _ _ _⟩
      · have hr2 := HRX.out
        rw [if_neg h6] at hr2
        have HRY := Lib.hid hr2
        have e1 : (a0 == 6) = false := by rw [beq_eq_false_iff_ne]; exact h6
        clear hr2 h6 HRX
        go_wp2_with fail
        refine (HWH.out _).mono ?_
        rintro e w3 ⟨rfl, hb3⟩
        have HL3b := Lib.hid (block_keep hb3 HL3.out)
        have HL4b := Lib.hid (block_keep hb3 HL4.out)
        have HB3 := Lib.hid (HB2.out.trans (hb3.mono HB2.out.size))
        clear k0 k1 k2 k3 k4 k5 k6 k7 hb3
        obtain ⟨⟨k0, k1, k2, k3, k4, k5, k6, k7⟩, -⟩ := cells8 HL3b.out
        cases wh with
        | true =>
          have hr2 := HRY.out
          rw [if_pos rfl] at hr2
          have HR2 := Lib.hid hr2
          have HC2 := Lib.hid (HREF.out _ HB3.out (by rw [← HRR.out]; exact lt_of_heap HL4b.out))
          rw [HTK.out] at HC2
          unfold pvA at HC2
          simp only [PV.kind, PV.n, PV.s] at HC2
          clear hr2 HRY HREF
          go_wp2_with fail
          refine HC2.out.mono ?_
          rintro e w4 ⟨he, hs4, hk4⟩
          unfold pvA at he
          subst he
          have HL4c := Lib.hid (hk4.obj HL4b.out (fun e => hpr1 e.symm))
          have HS4 := Lib.hid hs4
          have HK4 := Lib.hid ((keeps_below HB3.out).trans hk4 (fun b hb => .inl hb))
          obtain ⟨⟨q0, q1, q2, q3⟩, n0, n1, n2, n3⟩ := cells4 HL4c.out
          clear hs4 hk4 HC2
          go_wp2
          refine bodyPost_ret (results_val rfl _ _ (r + 1) 27 _ (0, 0) _ rfl (by exact set4 HL4c.out _ _ _ _) Try.underlying27 rfl (by exact infoPV) _ rfl) rfl ?_
          rw [HR2.out]
          rw [HTK.out]
          exact ⟨rfl, (HS4.out.set4 (.inr (by rw [HRR.out])) _ _ _ _).give fun b hb => .inl hb, keeps_set4 HK4.out HR1.out _ _ _ _⟩
        | false =>
          have hr2 := HRY.out
          rw [if_neg (by decide)] at hr2
          have HR2 := Lib.hid hr2
          obtain ⟨⟨q0, q1, q2, q3⟩, n0, n1, n2, n3⟩ := cells4 HL4b.out
          clear hr2 HRY HREF
          go_wp2
          refine bodyPost_ret (results_val rfl _ _ (r + 1) 27 _ (0, 0) _ rfl (by exact set4 HL4b.out _ _ _ _) Try.underlying27 rfl (by exact infoPV) _ rfl) rfl ?_
          rw [HR2.out, HTK.out]
          exact ⟨rfl, fin4 HS.out HB3.out HR1.out (lt_of_heap HL4b.out) _ _ _ _⟩
end
end Go.Proofs.Ytmejhjgdofncfaa
