/-
  Our texts LexH to Ps2, in one.
-/
import Derived.Test.YtmejhjgdofncfaaPkP12
import Derived.Test.YtmejhjgdofncfaaProg
import Derived.Deep.RegionHeld3
import Derived.BigQuiet
/-
  The walk of lex.Next: the token that stands from a place on.
-/
namespace Go.Proofs.Ytmejhjgdofncfaa
open Go.RowKit

def tokN (x : Tk) (f t : Int) : Array Value := #[.int .i64 x.kind, .int .i64 f, .int .i64 t, .int .i64 x.vk, .int .i64 x.vn, .string (mkB x.vs), .slice none 0 0, .string (mkB x.s)]
/-- What Next leaves. -/
def NextEnd (w : World) (V : Tk × Int × Int × Int) (e : Ending) (w' : World) : Prop :=
  e = .returned (.tuple #[.agg (tokN V.1 V.2.1 V.2.2.1), .int .i64 V.2.2.2]) ∧ Below w.heap.size w w'

structure Nx (w : World) (r : Nat) (W : World) : Prop where
  blk : W.heap[r]? = some (.cells #[.int .i64 0, .int .i64 0, .int .i64 0, .int .i64 0, .int .i64 0, .string ⟨#[]⟩, .slice none 0 0, .string ⟨#[]⟩] 40 (0, 0))
  bel : Below w.heap.size w W
  wr : w.heap.size ≤ r
theorem Nx.start (w : World) : Nx w w.heap.size (w.alloc (.cells #[.int .i64 0, .int .i64 0, .int .i64 0, .int .i64 0, .int .i64 0, .string ⟨#[]⟩, .slice none 0 0, .string ⟨#[]⟩] 40)) :=
  ⟨heapA_new _ rfl, belowA _ _, Nat.le_refl _⟩
theorem Nx.on {w W W' : World} {r : Nat} (h : Nx w r W) (hb : Below W.heap.size W W') : Nx w r W' := ⟨block_keep hb h.blk, h.bel.trans (hb.mono h.bel.size), h.wr⟩
theorem Nx.alloc {w W : World} {r : Nat} (h : Nx w r W) (o : Obj) : Nx w r (W.alloc o) := h.on (belowA W o)
theorem Nx.set {w W : World} {r : Nat} (h : Nx w r W) {b : Nat} (hb : w.heap.size ≤ b) (hn : b ≠ r) (i : Nat) (v : Value) : Nx w r (W.setCell ⟨b, i, none⟩ v) :=
  ⟨by rw [heap_setCell_other _ _ _ _ (Ne.symm hn)]; exact h.blk, h.bel.setCell hb v, h.wr⟩
theorem Nx.drewN {w W : World} {r : Nat} (h : Nx w r W) (q : Nat) : Nx w r (W.drewN q) := ⟨h.blk, below_drewN h.bel q, h.wr⟩
theorem Nx.keeps {w W W' : World} {r p : Nat} (h : Nx w r W) (hk : Keeps (fun b => b = p) W W') (hp : w.heap.size ≤ p) (hn : p ≠ r) : Nx w r W' :=
  ⟨hk.obj h.blk (Ne.symm hn), h.bel.trans (hk.below h.bel.size (fun b hb => by rw [hb]; exact hp)), h.wr⟩
theorem below_set8 {B : Nat} {w0 w : World} (h : Below B w0 w) {b : Nat} (hb : B ≤ b) (y0 y1 y2 y3 y4 y5 y6 y7 : Value) :
    Below B w0 ((((((((w.setCell ⟨b, 0, none⟩ y0).setCell ⟨b, 1, none⟩ y1).setCell ⟨b, 2, none⟩ y2).setCell ⟨b, 3, none⟩ y3).setCell ⟨b, 4, none⟩ y4).setCell ⟨b, 5, none⟩ y5).setCell ⟨b, 6, none⟩ y6).setCell ⟨b, 7, none⟩ y7) :=
  (((((((h.setCell hb _).setCell hb _).setCell hb _).setCell hb _).setCell hb _).setCell hb _).setCell hb _).setCell hb _
theorem Nx.fin {w W : World} {r : Nat} {V : Tk × Int × Int × Int} {x : Tk} {f t er : Int} (h : Nx w r W) (hV : V = (x, f, t, er)) (y0 y1 y2 y3 y4 y5 y6 y7 : Value) :
    NextEnd w V (.returned (.tuple #[.agg (tokN x f t), .int .i64 er]))
      ((((((((W.setCell ⟨r, 0, none⟩ y0).setCell ⟨r, 1, none⟩ y1).setCell ⟨r, 2, none⟩ y2).setCell ⟨r, 3, none⟩ y3).setCell ⟨r, 4, none⟩ y4).setCell ⟨r, 5, none⟩ y5).setCell ⟨r, 6, none⟩ y6).setCell ⟨r, 7, none⟩ y7) := by
  subst hV; exact ⟨rfl, below_set8 h.bel h.wr _ _ _ _ _ _ _ _⟩

theorem sc_new {w : World} {a : Option Addr} {cap : Nat} {bs : List UInt8} (hr : Row w 1 a bs.length cap (bs.map u8C)) (hn : bs.length ≤ 100000) (last : Bool) {f : Nat} (hf : f < bs.length) :
    ScQ (w.alloc (.cells #[.pointer none, .slice none 0 0, .slice a bs.length cap, .int .i64 f, .bool last] 62)) (fun b => b = w.heap.size) w.heap.size ⟨a, cap, bs, last⟩ [] f := by
  refine ⟨.pointer none, .slice none 0 0, ⟨heapA_new _ rfl, .inl rfl, World.ownsRow_nil _ _ _ _, fun b hb => (by cases hb), rfl, fun b hb => ⟨by omega, by rw [sizeA]; omega⟩, hr.mono (belowA _ _), fun x hx => ?_, by show f ≤ bs.length; omega, hn, by simp, fun _ => rfl⟩⟩
  obtain ⟨b, off, ha, hb, -⟩ := hr.2.2.2.2 (by omega)
  have hx' : a = some x := hx
  rw [ha] at hx'
  cases hx'
  exact hb
theorem skipV_le (bs : List UInt8) (k : Int) : skipV bs k ≤ bs.length := by
  unfold skipV
  split
  · omega
  · split
    · omega
    · have := skipN_le false (bs.drop k.toNat)
      rw [List.length_drop] at this; omega

set_option maxRecDepth 8000 in
set_option maxHeartbeats 8000000 in
theorem next_any {w : World} {a : Option Addr} {cap : Nat} {bs : List UInt8} (hr : Row w 1 a bs.length cap (bs.map u8C)) (hn : bs.length ≤ 100000) (k : Int) (last : Bool) :
    Calls Try.prog 15 #[.slice a bs.length cap, .int .i64 k, .bool last] w (NextEnd w (nextV bs k last)) := by
  obtain ⟨V, hV⟩ : ∃ V, V = nextV bs k last := ⟨_, rfl⟩
  rw [← hV]
  unfold nextV at hV
  have hT := Nx.start w
  obtain ⟨r, hrr⟩ : ∃ r, r = w.heap.size := ⟨_, rfl⟩
  rw [← hrr] at hT
  have HT0 := Lib.hid hT
  have HR := Lib.hid hrr
  clear hT hrr
  have HRW := Lib.hid hr
  have HN := Lib.hid hn
  clear hr
  by_cases hk : k < 0 ∨ (bs.length : Int) < k
  · rw [if_pos hk] at hV
    have HV := Lib.hid hV
    clear hV HT0 HR
    by_cases hk0 : k < 0
    · have hkd : decide (k < 0) = true := decide_eq_true hk0
      clear hk
      go_enter Try.func15, Try.ntmps15
      go_wp2
      refine bodyPost_ret (results_val rfl _ _ w.heap.size 40 _ (0, 0) _ rfl (heapA_new _ rfl) Try.underlying40 rfl (by exact infoTok) _ rfl) rfl ?_
      rw [HV.out]
      exact ⟨rfl, belowA _ _⟩
    · have hk1 : (bs.length : Int) < k := by omega
      have hkd : decide (k < 0) = false := decide_eq_false hk0
      have hkd2 : decide ((bs.length : Int) < k) = true := decide_eq_true hk1
      clear hk
      go_enter Try.func15, Try.ntmps15
      go_wp2
      refine bodyPost_ret (results_val rfl _ _ w.heap.size 40 _ (0, 0) _ rfl (heapA_new _ rfl) Try.underlying40 rfl (by exact infoTok) _ rfl) rfl ?_
      rw [HV.out]
      exact ⟨rfl, belowA _ _⟩
  · rw [if_neg hk] at hV
    have hkd : decide (k < 0) = false := decide_eq_false (by omega)
    have hkd2 : decide ((bs.length : Int) < k) = false := decide_eq_false (by omega)
    have hk0 : 0 ≤ k := by omega
    have hk1 : k ≤ bs.length := by omega
    clear hk
    have HS := Lib.hid (fun (W : World) (h : Below w.heap.size w W) => skip_any (HRW.out.mono h) hn k)
    have hfl := skipV_le bs k
    generalize skipV bs k = f at *
    have HV0 := Lib.hid hV
    clear hV hk0 hk1
    go_enter Try.func15, Try.ntmps15
    go_wp2_with fail
    refine (HS.out _ HT0.out.bel).mono ?_
    rintro e w' ⟨rfl, rfl⟩
    rw [← HR.out]
    generalize w.alloc _ = W1 at *
    have hV := HV0.out
    clear HV0
    by_cases hf : f = bs.length
    · subst hf
      rw [drop_nil (by omega)] at hV
      have HV := Lib.hid hV
      obtain ⟨⟨k0, k1, k2, k3, k4, k5, k6, k7⟩, f0, f1, f2, f3, f4, f5, f6, f7⟩ := cells8 HT0.out.blk
      clear hV HS
      cases last
      all_goals
        go_wp2
        refine bodyPost_ret (results_val rfl _ _ _ 40 _ (0, 0) _ rfl (set8 HT0.out.blk _ _ _ _ _ _ _ _) Try.underlying40 rfl infoTok _ rfl) rfl ?_
        exact HT0.out.fin HV.out _ _ _ _ _ _ _ _
    · have hf2 : f < bs.length := by omega
      rw [drop_cons hf2] at hV
      have hff : decide (f = bs.length) = false := decide_eq_false hf
      have hfe : ((f : Int) == (bs.length : Int)) = false := by rw [beq_eq_false_iff_ne]; omega
      have HSC := Lib.hid (sc_new (HRW.out.mono HT0.out.bel) hn last hf2)
      have HF := Lib.hid hf2
      obtain ⟨b0, off, ha, hb0, hc⟩ := HRW.out.at 0 f hf2
      have hcj := cell?_keep (HT0.out.alloc (.cells #[.pointer none, .slice none 0 0, .slice a bs.length cap, .int .i64 f, .bool last] 62)).bel (hc f hf2)
      have hcj1 := cell?_keep HT0.out.bel (hc f hf2)
      have hb1 : ¬ b0 = W1.heap.size := by have := HT0.out.bel.size; omega
      unfold u8C at hcj hcj1
      subst ha
      have hb2 : b0 < W1.heap.size := by have := HT0.out.bel.size; omega
      have hfi : (f : Int) < bs.length := by omega
      have hTK : Calls Try.prog 22 #[.pointer (some ⟨W1.heap.size, 0, none⟩), .int .u8 (bs.getD f 0).toNat] (W1.alloc (.cells #[.pointer none, .slice none 0 0, .slice (some ⟨b0, off, none⟩) bs.length cap, .int .i64 f, .bool last] 62)) (TokEnd _ (fun b => b = W1.heap.size) W1.heap.size ⟨some ⟨b0, off, none⟩, cap, bs, last⟩ (tokV last (bs.getD f 0) (bs.drop (f + 1)))) := token_any HSC.out hf2
      have hV2 : V = if (tokV last (bs.getD f 0) (bs.drop (f + 1))).1 = 0 then ((tokV last (bs.getD f 0) (bs.drop (f + 1))).2.1, (f : Int), (bs.length : Int) - ((tokV last (bs.getD f 0) (bs.drop (f + 1))).2.2.length : Int), 0) else ({ kind := 0 }, (f : Int), (f : Int), (tokV last (bs.getD f 0) (bs.drop (f + 1))).1) := hV
      generalize tokV last (bs.getD f 0) (bs.drop (f + 1)) = T at *
      generalize bs.getD f 0 = cc at *
      have HV := Lib.hid hV2
      have HTK := Lib.hid hTK
      have hrr := (Array.getElem?_eq_some_iff.1 HT0.out.blk).1
      have hpw : w.heap.size ≤ W1.heap.size := HT0.out.bel.size
      have HT1 := Lib.hid (HT0.out.alloc (.cells #[.pointer none, .slice none 0 0, .slice (some ⟨b0, off, none⟩) bs.length cap, .int .i64 f, .bool last] 62))
      have HPR := Lib.hid (show W1.heap.size ≠ r by omega)
      have HPW := Lib.hid hpw
      have HRR := Lib.hid hrr
      have HSZ := Lib.hid (sizeA W1 (.cells #[.pointer none, .slice none 0 0, .slice (some ⟨b0, off, none⟩) bs.length cap, .int .i64 f, .bool last] 62))
      clear hV hV2 hTK HS hc hrr hpw HSC hb0
      go_wp2_with fail
      refine HTK.out.mono ?_
      rintro e w2 ⟨hk2, kk, vk, vn, vs, s, rfl, hfx⟩
      have HT2 := Lib.hid (HT1.out.keeps hk2 HPW.out HPR.out)
      have hws : W1.heap.size < w2.heap.size := by have := hk2.size; rw [HSZ.out] at this; omega
      have HWS := Lib.hid hws
      have HFX := Lib.hid hfx
      clear HTK HT1 HSZ hk2 hcj hcj1 hb1 hb2 hfx hws
      generalize W1.alloc _ = W1' at *
      generalize W1.heap.size = p at *
      have HT3 := Lib.hid (HT2.out.alloc (.cells (tokC kk 0 0 vk vn vs s) 40))
      obtain ⟨er, her⟩ : ∃ er, T.1 = er := ⟨_, rfl⟩
      have HE := Lib.hid her
      rw [her]
      clear her
      have hr2 : r < w2.heap.size := (Array.getElem?_eq_some_iff.1 HT2.out.blk).1
      have HR2 := Lib.hid hr2
      clear hr2
      by_cases h0 : er = 0
      · subst h0
        obtain ⟨hkk, hvk, hvn, hvs, hs, htl, hc3⟩ := HFX.out HE.out
        obtain ⟨t, ht⟩ : ∃ t : Nat, t = bs.length - T.2.2.length := ⟨_, rfl⟩
        have hc3' : w2.cell? ⟨p, 3, none⟩ = some (.int .i64 (t : Int)) := by rw [ht]; exact hc3
        have HVV := Lib.hid (show V = (T.2.1, (f : Int), (t : Int), 0) by
          rw [HV.out, if_pos HE.out, ht]
          have h2 : T.2.2.length ≤ bs.length := htl
          congr 3; omega)
        have hcp := cell_alloc (.cells (tokC kk 0 0 vk vn vs s) 40) hc3'
        have hbr2 : (w2.alloc (.cells (tokC kk 0 0 vk vn vs s) 40)).heap[w2.heap.size]? = some (.cells #[.int .i64 kk, .int .i64 0, .int .i64 0, .int .i64 vk, .int .i64 vn, .string vs, .slice none 0 0, .string s] 40 (0, 0)) := heapA_new _ rfl
        have HBR2 := Lib.hid hbr2
        have HCP := Lib.hid hcp
        have HW2 := Lib.hid (show w.heap.size ≤ w2.heap.size from HT2.out.bel.size)
        have HNR := Lib.hid (show w2.heap.size ≠ r from Nat.ne_of_gt HR2.out)
        have HNP := Lib.hid (show p ≠ w2.heap.size from Nat.ne_of_lt HWS.out)
        have HKK := Lib.hid hkk
        have HVK := Lib.hid hvk
        have HVN := Lib.hid hvn
        have HVS := Lib.hid hvs
        have HSS := Lib.hid hs
        clear hkk hvk hvn hvs hs htl hc3 hc3' hcp hbr2 HE HFX HV ht
        unfold tokC at *
        go_wp2
        generalize w2.alloc _ = W3 at *
        generalize w2.heap.size = r2 at *
        have hcp := HCP.out
        have hnr := HNR.out
        have hnp := HNP.out
        obtain ⟨⟨g0, g1, g2, g3, g4, g5, g6, g7⟩, m0, m1, m2, m3, m4, m5, m6, m7⟩ := cells8 HBR2.out
        have HO1 := Lib.hid (show Nx w r ((W3.setCell ⟨r2, 1, none⟩ (.int .i64 f)).setCell ⟨r2, 2, none⟩ (.int .i64 t)).drew ∧ ((W3.setCell ⟨r2, 1, none⟩ (.int .i64 f)).setCell ⟨r2, 2, none⟩ (.int .i64 t)).drew.heap[r2]? = some (.cells #[.int .i64 kk, .int .i64 f, .int .i64 t, .int .i64 vk, .int .i64 vn, .string vs, .slice none 0 0, .string s] 40 (0, 0)) from
          ⟨((HT3.out.set HW2.out hnr 1 _).set HW2.out hnr 2 _).drewN 1, heap_setCell_same _ _ 2 _ _ _ (heap_setCell_same W3 _ 1 _ _ _ HBR2.out)⟩)
        have HO2 := Lib.hid (show Nx w r ((W3.setCell ⟨r2, 2, none⟩ (.int .i64 t)).setCell ⟨r2, 1, none⟩ (.int .i64 f)).drew ∧ ((W3.setCell ⟨r2, 2, none⟩ (.int .i64 t)).setCell ⟨r2, 1, none⟩ (.int .i64 f)).drew.heap[r2]? = some (.cells #[.int .i64 kk, .int .i64 f, .int .i64 t, .int .i64 vk, .int .i64 vn, .string vs, .slice none 0 0, .string s] 40 (0, 0)) from
          ⟨((HT3.out.set HW2.out hnr 2 _).set HW2.out hnr 1 _).drewN 1, heap_setCell_same _ _ 1 _ _ _ (heap_setCell_same W3 _ 2 _ _ _ HBR2.out)⟩)
        go_region
        all_goals
          clear hcp hnp g0 g1 g2 g3 g4 g5 g6 g7 m0 m1 m2 m3 m4 m5 m6 m7
          first
            | (obtain ⟨W4, hW4⟩ : ∃ W4, W4 = ((W3.setCell ⟨r2, 1, none⟩ (.int .i64 f)).setCell ⟨r2, 2, none⟩ (.int .i64 t)).drew := ⟨_, rfl⟩; rw [← hW4]; have HX4 := Lib.hid (show Nx w r W4 by rw [hW4]; exact HO1.out.1); have HB4 := Lib.hid (show W4.heap[r2]? = some (.cells #[.int .i64 kk, .int .i64 f, .int .i64 t, .int .i64 vk, .int .i64 vn, .string vs, .slice none 0 0, .string s] 40 (0, 0)) by rw [hW4]; exact HO1.out.2))
            | (obtain ⟨W4, hW4⟩ : ∃ W4, W4 = ((W3.setCell ⟨r2, 2, none⟩ (.int .i64 t)).setCell ⟨r2, 1, none⟩ (.int .i64 f)).drew := ⟨_, rfl⟩; rw [← hW4]; have HX4 := Lib.hid (show Nx w r W4 by rw [hW4]; exact HO2.out.1); have HB4 := Lib.hid (show W4.heap[r2]? = some (.cells #[.int .i64 kk, .int .i64 f, .int .i64 t, .int .i64 vk, .int .i64 vn, .string vs, .slice none 0 0, .string s] 40 (0, 0)) by rw [hW4]; exact HO2.out.2))
          clear hW4
          obtain ⟨⟨g0, g1, g2, g3, g4, g5, g6, g7⟩, m0, m1, m2, m3, m4, m5, m6, m7⟩ := cells8 HB4.out
          obtain ⟨⟨k0, k1, k2, k3, k4, k5, k6, k7⟩, f0, f1, f2, f3, f4, f5, f6, f7⟩ := cells8 HX4.out.blk
          go_wp2
          refine bodyPost_ret (results_val rfl _ _ _ 40 _ (0, 0) _ rfl (set8 HX4.out.blk _ _ _ _ _ _ _ _) Try.underlying40 rfl infoTok _ rfl) rfl ?_
          have e1 := HKK.out
          have e2 := HVK.out
          have e3 := HVN.out
          have e4 := HVS.out
          have e5 := HSS.out
          subst e1 e2 e3 e4 e5
          exact HX4.out.fin HVV.out _ _ _ _ _ _ _ _
      · have HVV := Lib.hid (show V = ({ kind := 0 }, (f : Int), (f : Int), er) by rw [HV.out, HE.out, if_neg h0])
        have e1 : (er == 0) = false := by rw [beq_eq_false_iff_ne]; exact h0
        have e2 : (er != 0) = true := by simp only [bne, e1, Bool.not_false]
        clear h0
        obtain ⟨⟨k0, k1, k2, k3, k4, k5, k6, k7⟩, f0, f1, f2, f3, f4, f5, f6, f7⟩ := cells8 HT3.out.blk
        unfold tokC at *
        go_wp2
        refine bodyPost_ret (results_val rfl _ _ _ 40 _ (0, 0) _ rfl (set8 HT3.out.blk _ _ _ _ _ _ _ _) Try.underlying40 rfl infoTok _ rfl) rfl ?_
        exact HT3.out.fin HVV.out _ _ _ _ _ _ _ _
end Go.Proofs.Ytmejhjgdofncfaa
/-
  Walks of layer 12: small functions.
-/
namespace Go.Proofs.Ytmejhjgdofncfaa
open Go.RowKit

theorem more_any (e : Int) (w : World) : Calls Try.prog 44 #[.int .i64 e] w fun x w' => x = .returned (.int .i64 (moreV e)) ∧ w = w' := by
  unfold moreV
  by_cases h : e = 6
  · subst h
    go_enter Try.func44, Try.ntmps44
    go_wp2
    go_ret
    exact ⟨rfl, rfl⟩
  · have hd : (e == 6) = false := by rw [beq_eq_false_iff_ne]; exact h
    rw [if_neg h]
    clear h
    go_enter Try.func44, Try.ntmps44
    go_wp2
    go_ret
    exact ⟨rfl, rfl⟩
theorem infoPV : (Try.prog.info? 27).map (·.size) = some 4 := by kernel_rfl

set_option maxHeartbeats 2000000 in
theorem whole_tk (x : Tk) (f t : Int) (w : World) : Calls Try.prog 26 #[.agg (tokN x f t)] w fun e w' => e = .returned (.bool (wholeV x)) ∧ Below w.heap.size w w' := by
  unfold tokN wholeV
  generalize x.kind = a0 at *
  generalize x.vk = a1 at *
  generalize x.vn = a2 at *
  generalize mkB x.vs = s1 at *
  generalize mkB x.s = s2 at *
  cases h0 : (a0 == 1)
  · go_enter Try.func26, Try.ntmps26
    go_wp2
    go_ret
    exact ⟨rfl, belowA w _⟩
  · go_enter Try.func26, Try.ntmps26
    go_wp2
    go_ret
    exact ⟨rfl, belowA w _⟩

def wordE (s : List UInt8) : PV × Int := match wordV s with | none => (PV.none, 11) | some v => (v, 0)
theorem eq_mkB (a b : List UInt8) : ((mkB a).toList == b) = decide (a = b) := by
  have : (mkB a).toList = a := by unfold mkB; exact ByteArray.toList_eq _
  rw [this]; by_cases h : a = b <;> simp [h]

set_option maxHeartbeats 2000000 in
theorem pword_any (s : List UInt8) (w : World) : Calls Try.prog 25 #[.string (mkB s)] w fun e w' => e = .returned (.tuple #[pvA (wordE s).1 (.slice none 0 0), .int .i64 (wordE s).2]) ∧ Below w.heap.size w w' := by
  have h1 := eq_mkB s [116, 114, 117, 101]
  have h2 := eq_mkB s [102, 97, 108, 115, 101]
  have h3 := eq_mkB s [110, 117, 108, 108]
  unfold wordE wordV pvA
  by_cases g1 : s = [116, 114, 117, 101]
  · rw [if_pos g1]
    rw [decide_eq_true g1] at h1
    clear g1 h2 h3
    go_enter Try.func25, Try.ntmps25
    go_wp2
    refine bodyPost_ret (results_val rfl _ _ w.heap.size 27 _ (0, 0) _ rfl (heapA_new _ rfl) Try.underlying27 rfl (by exact infoPV) _ rfl) rfl ?_
    exact ⟨rfl, belowA _ _⟩
  rw [if_neg g1]
  rw [decide_eq_false g1] at h1
  by_cases g2 : s = [102, 97, 108, 115, 101]
  · rw [if_pos g2]
    rw [decide_eq_true g2] at h2
    clear g1 g2 h3
    go_enter Try.func25, Try.ntmps25
    go_wp2
    refine bodyPost_ret (results_val rfl _ _ w.heap.size 27 _ (0, 0) _ rfl (heapA_new _ rfl) Try.underlying27 rfl (by exact infoPV) _ rfl) rfl ?_
    exact ⟨rfl, belowA _ _⟩
  rw [if_neg g2]
  rw [decide_eq_false g2] at h2
  by_cases g3 : s = [110, 117, 108, 108]
  · rw [if_pos g3]
    rw [decide_eq_true g3] at h3
    clear g1 g2 g3
    go_enter Try.func25, Try.ntmps25
    go_wp2
    refine bodyPost_ret (results_val rfl _ _ w.heap.size 27 _ (0, 0) _ rfl (heapA_new _ rfl) Try.underlying27 rfl (by exact infoPV) _ rfl) rfl ?_
    exact ⟨rfl, belowA _ _⟩
  · rw [if_neg g3]
    rw [decide_eq_false g3] at h3
    clear g1 g2 g3
    go_enter Try.func25, Try.ntmps25
    go_wp2
    refine bodyPost_ret (results_val rfl _ _ w.heap.size 27 _ (0, 0) _ rfl (heapA_new _ rfl) Try.underlying27 rfl (by exact infoPV) _ rfl) rfl ?_
    exact ⟨rfl, belowA _ _⟩
end Go.Proofs.Ytmejhjgdofncfaa
/-
  What layer 12 keeps open, in memory.
-/
namespace Go.Proofs.Ytmejhjgdofncfaa
open Go.RowKit

def ptrs (gs : List Nat) : List Value := gs.reverse.map fun g => .pointer (some ⟨g, 0, none⟩)
/-- The levels that are open (the last one ahead), in blocks gs; G: blocks that are not theirs. -/
def Lvs (w : World) (B : Nat) (F : Nat → Prop) : (Nat → Prop) → List Lv → List Nat → Prop
  | _, [], gs => gs = []
  | G, v :: st, gs => ∃ g t sl cs, gs = g :: t ∧ B ≤ g ∧ ¬ G g ∧ w.heap[g]? = some (.cells #[.bool v.dict, sl] 48 (0, 0)) ∧ w.ownsRow B 27 4 sl v.l.length cs ∧ IsVs w F v.l cs ∧
      (∀ b, sl.ownBlock = some b → ¬ F b ∧ ¬ G b) ∧ Lvs w B F (fun b => G b ∨ b = g ∨ sl.ownBlock = some b) st t

theorem owns_heap {w w' : World} {base e sz : Nat} {v : Value} {n : Nat} {xs : List Value} (h : w.ownsRow base e sz v n xs) (hk : ∀ b, v.ownBlock = some b → w'.heap[b]? = w.heap[b]?) : w'.ownsRow base e sz v n xs := by
  obtain ⟨h1, h2⟩ := h
  refine ⟨h1, ?_⟩
  rcases h2 with h2 | ⟨g, cap, cur, hv, hg, hh, r⟩
  · exact .inl h2
  · exact .inr ⟨g, cap, cur, hv, hg, by rw [hk g (by rw [hv]; rfl)]; exact hh, r⟩
theorem owns_type {w : World} {base e sz : Nat} {v : Value} {n : Nat} {xs : List Value} (h : w.ownsRow base e sz v n xs) {b : Nat} (hb : v.ownBlock = some b) : ∃ cs, w.heap[b]? = some (.cells cs e (0, 0)) := by
  rcases h.2 with ⟨rfl, _⟩ | ⟨g, cap, cur, rfl, hg, hh, r⟩
  · cases hb
  · cases hb; exact ⟨cur, hh⟩
theorem owns_slice {w : World} {base e sz : Nat} {v : Value} {n : Nat} {xs : List Value} (h : w.ownsRow base e sz v n xs) : ∃ a cap, v = .slice a n cap ∧ n ≤ cap ∧ cap ≤ maxLen := by
  obtain ⟨a, cap, rfl, hr, _⟩ := Row.of_owns h
  exact ⟨a, cap, rfl, hr.2.1, hr.2.2.1⟩
theorem lt_of_heap {w : World} {b : Nat} {o : Obj} (h : w.heap[b]? = some o) : b < w.heap.size := (Array.getElem?_eq_some_iff.1 h).1
theorem type_ne {w : World} {b c : Nat} {x y : Array Value} {t u : TypeId} {f1 f2 : Nat × Nat} (hb : w.heap[b]? = some (.cells x t f1)) (hc : w.heap[c]? = some (.cells y u f2)) (h : t ≠ u) : b ≠ c := by
  rintro rfl
  rw [hb] at hc
  injection hc with hc
  injection hc with _ h2 _
  exact h h2

/-- A block of a level, or of values. -/
def IsLV (w : World) (b : Nat) : Prop := (∃ cs, w.heap[b]? = some (.cells cs 48 (0, 0))) ∨ ∃ cs, w.heap[b]? = some (.cells cs 27 (0, 0))
theorem Lvs.keep' {w w' : World} {B : Nat} {F F' : Nat → Prop} (hF : Stays F w w') (hFF : ∀ b, F b → F' b) : ∀ {st : List Lv} {G G' : Nat → Prop} {gs : List Nat}, Lvs w B F G st gs →
    (∀ b, b < w.heap.size → ¬ G b → IsLV w b → w'.heap[b]? = w.heap[b]?) → (∀ b, F' b → F b ∨ G b ∨ w.heap.size ≤ b) → (∀ b, G' b → G b ∨ w.heap.size ≤ b) → Lvs w' B F' G' st gs
  | [], _, _, _, h, _, _, _ => h
  | v :: st, G, G', _, ⟨g, t, sl, cs, h1, h2, h3, h4, h5, h6, h7, h8⟩, hg, hF', hG' => by
    have hgl := lt_of_heap h4
    have hbl : ∀ b, sl.ownBlock = some b → b < w.heap.size := fun b hb => (h5.lt b hb).2
    refine ⟨g, t, sl, cs, h1, h2, fun h => ?_, ?_, owns_heap h5 fun b hb => hg b (hbl b hb) (h7 b hb).2 (.inr (owns_type h5 hb)), IsVs.keep hF hFF _ h6, fun b hb => ⟨fun h => ?_, fun h => ?_⟩, ?_⟩
    · rcases hG' g h with h | h
      · exact h3 h
      · omega
    · rw [hg g hgl h3 (.inl ⟨_, h4⟩)]; exact h4
    · rcases hF' b h with h | h | h
      · exact (h7 b hb).1 h
      · exact (h7 b hb).2 h
      · have := hbl b hb; omega
    · rcases hG' b h with h | h
      · exact (h7 b hb).2 h
      · have := hbl b hb; omega
    · refine Lvs.keep' hF hFF h8 (fun b hb hn => hg b hb fun h => hn (.inl h)) (fun b h => ?_) (fun b h => ?_)
      · rcases hF' b h with h | h | h
        · exact .inl h
        · exact .inr (.inl (.inl h))
        · exact .inr (.inr h)
      · rcases h with h | h | h
        · rcases hG' b h with h | h
          · exact .inl (.inl h)
          · exact .inr h
        · exact .inl (.inr (.inl h))
        · exact .inl (.inr (.inr h))
theorem Lvs.keep {w w' : World} {B : Nat} {F F' : Nat → Prop} (hF : Stays F w w') (hFF : ∀ b, F b → F' b) {st : List Lv} {G G' : Nat → Prop} {gs : List Nat} (h : Lvs w B F G st gs)
    (hg : ∀ b, b < w.heap.size → ¬ G b → w'.heap[b]? = w.heap[b]?) (hF' : ∀ b, F' b → F b ∨ G b ∨ w.heap.size ≤ b) (hG' : ∀ b, G' b → G b ∨ w.heap.size ≤ b) : Lvs w' B F' G' st gs :=
  h.keep' hF hFF (fun b h1 h2 _ => hg b h1 h2) hF' hG'
theorem Lvs.len {w : World} {B : Nat} {F : Nat → Prop} : ∀ {st : List Lv} {G : Nat → Prop} {gs : List Nat}, Lvs w B F G st gs → gs.length = st.length
  | [], _, _, h => by cases h; rfl
  | _ :: _, _, _, ⟨_, _, _, _, h1, _, _, _, _, _, _, h8⟩ => by subst h1; simp [h8.len]

/-- The stack at block p: bytes, a place, and what is open; from w0 on. F: blocks of values that are whole; G: blocks that are others'. -/
structure IsStk (w0 w : World) (F G : Nat → Prop) (p : Nat) (a : Option Addr) (cap : Nat) (bs : List UInt8) (last : Bool) (st : List Lv) (at_ : Int) (gs : List Nat) (osl : Value) : Prop where
  blk : w.heap[p]? = some (.cells #[.slice a bs.length cap, .int .i64 at_, .bool last, osl] 38 (0, 0))
  base : w0.heap.size ≤ p
  gp : ¬ G p
  own : w.ownsRow w0.heap.size 45 1 osl st.length (ptrs gs)
  go : ∀ b, osl.ownBlock = some b → ¬ G b
  lvs : Lvs w w0.heap.size F G st gs
  fb : ∀ b, F b → w0.heap.size ≤ b ∧ ¬ G b ∧ ∃ cs, w.heap[b]? = some (.cells cs 27 (0, 0))
  gb : ∀ b, G b → w0.heap.size ≤ b ∧ b < w.heap.size
  bel : Below w0.heap.size w0 w
  row : Row w0 1 a bs.length cap (bs.map u8C)
  small : bs.length ≤ 100000
  deep : st.length ≤ 64

section
variable {w0 w w' : World} {F F' G G' : Nat → Prop} {p : Nat} {a : Option Addr} {cap : Nat} {bs : List UInt8} {last : Bool} {st : List Lv} {at_ : Int} {gs : List Nat} {osl : Value}
theorem IsStk.lt (h : IsStk w0 w F G p a cap bs last st at_ gs osl) : p < w.heap.size := lt_of_heap h.blk
/-- What the others do; values that are whole are more. -/
theorem IsStk.frame' (h : IsStk w0 w F G p a cap bs last st at_ gs osl) (hk : Keeps G w w') (hG' : ∀ b, G' b → G b ∨ (w.heap.size ≤ b ∧ b < w'.heap.size)) (hFF : ∀ b, F b → F' b) (hF' : ∀ b, F' b → F b ∨ (w.heap.size ≤ b ∧ ¬ G' b ∧ ∃ cs, w'.heap[b]? = some (.cells cs 27 (0, 0)))) :
    IsStk w0 w' F' G' p a cap bs last st at_ gs osl := by
  have hsz := h.bel.size
  have hp := h.lt
  have hFl : ∀ b, F b → b < w.heap.size := fun b hb => by obtain ⟨_, _, cs, hc⟩ := h.fb b hb; exact lt_of_heap hc
  have hol : ∀ b, osl.ownBlock = some b → b < w.heap.size := fun b hb => (h.own.lt b hb).2
  refine ⟨by rw [hk.block p hp h.gp]; exact h.blk, h.base, fun h1 => ?_, owns_heap h.own fun b hb => hk.block b (hol b hb) (h.go b hb), fun b hb h1 => ?_, ?_, fun b hb => ?_, fun b hb => ?_, ?_, h.row, h.small, h.deep⟩
  · rcases hG' p h1 with h1 | h1
    · exact h.gp h1
    · omega
  · rcases hG' b h1 with h1 | h1
    · exact h.go b hb h1
    · have := hol b hb; omega
  · refine h.lvs.keep ⟨hk.size, fun b hb hf => hk.block b hb (h.fb b hf).2.1⟩ hFF (fun b hb hn => hk.block b hb hn) (fun b hb => ?_) (fun b hb => ?_)
    · rcases hF' b hb with h1 | h1
      · exact .inl h1
      · exact .inr (.inr h1.1)
    · exact (hG' b hb).imp id fun h => h.1
  · rcases hF' b hb with h1 | ⟨h1, h2, h3⟩
    · obtain ⟨h2, h3, cs, h4⟩ := h.fb b h1
      refine ⟨h2, fun h5 => ?_, cs, by rw [hk.block b (hFl b h1) h3]; exact h4⟩
      rcases hG' b h5 with h5 | h5
      · exact h3 h5
      · have := hFl b h1; omega
    · exact ⟨by omega, h2, h3⟩
  · have := hk.size
    rcases hG' b hb with h1 | h1
    · have := h.gb b h1; omega
    · omega
  · exact h.bel.trans ⟨hk.os, hk.tape, hk.output, hk.size, fun b hb => hk.block b (by omega) (fun h1 => by have := h.gb b h1; omega)⟩
theorem IsStk.frame (h : IsStk w0 w F G p a cap bs last st at_ gs osl) (hk : Keeps G w w') (hG' : ∀ b, G' b → G b ∨ (w.heap.size ≤ b ∧ b < w'.heap.size)) : IsStk w0 w' F G' p a cap bs last st at_ gs osl :=
  h.frame' hk hG' (fun _ h => h) (fun _ h => .inl h)
theorem IsStk.mono (h : IsStk w0 w F G p a cap bs last st at_ gs osl) (hb : Below w.heap.size w w') : IsStk w0 w' F G p a cap bs last st at_ gs osl :=
  h.frame ⟨hb.os, hb.tape, hb.output, hb.size, fun b h1 _ => hb.block b h1⟩ (fun _ h => .inl h)
theorem IsStk.cells (h : IsStk w0 w F G p a cap bs last st at_ gs osl) : (w.cell? ⟨p, 0, none⟩ = some (.slice a bs.length cap) ∧ w.cell? ⟨p, 1, none⟩ = some (.int .i64 at_) ∧ w.cell? ⟨p, 2, none⟩ = some (.bool last) ∧ w.cell? ⟨p, 3, none⟩ = some osl) ∧
    (w.frozen? ⟨p, 0, none⟩ = false ∧ w.frozen? ⟨p, 1, none⟩ = false ∧ w.frozen? ⟨p, 2, none⟩ = false ∧ w.frozen? ⟨p, 3, none⟩ = false) := cells4 h.blk
theorem IsStk.notF (h : IsStk w0 w F G p a cap bs last st at_ gs osl) {b : Nat} (hb : F b) : b ≠ p := by obtain ⟨_, _, cs, hc⟩ := h.fb b hb; exact type_ne hc h.blk (by decide)
/-- The stack's own block turns in its place alone. -/
theorem IsStk.setAt (h : IsStk w0 w F G p a cap bs last st at_ gs osl) (at2 : Int) : IsStk w0 (w.setCell ⟨p, 1, none⟩ (.int .i64 at2)) F G p a cap bs last st at2 gs osl := by
  have hk : ∀ b, b ≠ p → (w.setCell ⟨p, 1, none⟩ (.int .i64 at2)).heap[b]? = w.heap[b]? := fun b hb => heap_setCell_other _ _ _ _ hb
  have hs : (w.setCell ⟨p, 1, none⟩ (.int .i64 at2)).heap.size = w.heap.size := by simp [World.setCell]
  have hl : ∀ {st : List Lv} {G : Nat → Prop} {gs : List Nat}, Lvs w w0.heap.size F G st gs → Lvs (w.setCell ⟨p, 1, none⟩ (.int .i64 at2)) w0.heap.size F G st gs := by
    intro st
    induction st with
    | nil => exact fun h => h
    | cons v st ih =>
      rintro G gs ⟨g, t, sl, cs, h1, h2, h3, h4, h5, h6, h7, h8⟩
      exact ⟨g, t, sl, cs, h1, h2, h3, by rw [hk g (type_ne h4 h.blk (by decide))]; exact h4, owns_heap h5 fun b hb => hk b (by obtain ⟨cs, hc⟩ := owns_type h5 hb; exact type_ne hc h.blk (by decide)),
        IsVs.keep ⟨by omega, fun b _ hb => hk b (h.notF hb)⟩ (fun _ h => h) _ h6, h7, ih h8⟩
  exact ⟨heap_setCell_same w p 1 _ _ _ h.blk, h.base, h.gp, owns_heap h.own fun b hb => hk b (by obtain ⟨cs, hc⟩ := owns_type h.own hb; exact type_ne hc h.blk (by decide)), h.go, hl h.lvs, fun b hb => by
    obtain ⟨h1, h2, cs, h3⟩ := h.fb b hb
    exact ⟨h1, h2, cs, by rw [hk b (h.notF hb)]; exact h3⟩, fun b hb => by rw [hs]; exact h.gb b hb, h.bel.trans ((Below.refl _ _).setCell h.base _), h.row, h.small, h.deep⟩
theorem IsStk.drewN (h : IsStk w0 w F G p a cap bs last st at_ gs osl) (q : Nat) : IsStk w0 (w.drewN q) F G p a cap bs last st at_ gs osl := h.mono (below_drewN (Below.refl _ _) q)
theorem IsStk.alloc (h : IsStk w0 w F G p a cap bs last st at_ gs osl) (o : Obj) : IsStk w0 (w.alloc o) F G p a cap bs last st at_ gs osl := h.mono (belowA w o)
theorem IsStk.bytes (h : IsStk w0 w F G p a cap bs last st at_ gs osl) : Row w 1 a bs.length cap (bs.map u8C) := h.row.mono h.bel
/-- Blocks that are new are others', too. -/
theorem IsStk.res (h : IsStk w0 w F G p a cap bs last st at_ gs osl) (hb : Below w.heap.size w w') (hG' : ∀ b, G' b → G b ∨ (w.heap.size ≤ b ∧ b < w'.heap.size)) : IsStk w0 w' F G' p a cap bs last st at_ gs osl :=
  h.frame ⟨hb.os, hb.tape, hb.output, hb.size, fun b h1 _ => hb.block b h1⟩ hG'
/-- One of the others' blocks turns. -/
theorem IsStk.set (h : IsStk w0 w F G p a cap bs last st at_ gs osl) {r : Nat} (hr : G r) (i : Nat) (v : Value) : IsStk w0 (w.setCell ⟨r, i, none⟩ v) F G p a cap bs last st at_ gs osl :=
  h.frame ((Keeps.refl G w).setCell (a := ⟨r, i, none⟩) (.inl hr) v) (fun _ h => .inl h)
theorem IsStk.set8 (h : IsStk w0 w F G p a cap bs last st at_ gs osl) {r : Nat} (hr : G r) (y0 y1 y2 y3 y4 y5 y6 y7 : Value) :
    IsStk w0 ((((((((w.setCell ⟨r, 0, none⟩ y0).setCell ⟨r, 1, none⟩ y1).setCell ⟨r, 2, none⟩ y2).setCell ⟨r, 3, none⟩ y3).setCell ⟨r, 4, none⟩ y4).setCell ⟨r, 5, none⟩ y5).setCell ⟨r, 6, none⟩ y6).setCell ⟨r, 7, none⟩ y7) F G p a cap bs last st at_ gs osl :=
  (((((((h.set hr _ _).set hr _ _).set hr _ _).set hr _ _).set hr _ _).set hr _ _).set hr _ _).set hr _ _
theorem IsStk.set4 (h : IsStk w0 w F G p a cap bs last st at_ gs osl) {r : Nat} (hr : G r) (y0 y1 y2 y3 : Value) :
    IsStk w0 ((((w.setCell ⟨r, 0, none⟩ y0).setCell ⟨r, 1, none⟩ y1).setCell ⟨r, 2, none⟩ y2).setCell ⟨r, 3, none⟩ y3) F G p a cap bs last st at_ gs osl :=
  (((h.set hr _ _).set hr _ _).set hr _ _).set hr _ _
theorem IsStk.give (h : IsStk w0 w F G p a cap bs last st at_ gs osl) (hG : ∀ b, G' b → G b) : IsStk w0 w F G' p a cap bs last st at_ gs osl := h.frame (Keeps.refl G w) fun b hb => .inl (hG b hb)
end
theorem keeps_below {w w' : World} {S : Nat → Prop} (h : Below w.heap.size w w') : Keeps S w w' := ⟨h.os, h.tape, h.output, h.size, fun b hb _ => h.block b hb⟩

section
variable {w0 w w' : World} {F G : Nat → Prop} {p : Nat} {a : Option Addr} {cap : Nat} {bs : List UInt8} {last : Bool} {st : List Lv} {at_ : Int}
/-- The stack, whatever lies where. -/
def Stk (w0 w : World) (F G : Nat → Prop) (p : Nat) (a : Option Addr) (cap : Nat) (bs : List UInt8) (last : Bool) (st : List Lv) (at_ : Int) : Prop := ∃ gs osl, IsStk w0 w F G p a cap bs last st at_ gs osl
/-- What a step leaves: the others' blocks as they were, and the values that are whole. -/
structure Nxt (w0 w : World) (F G : Nat → Prop) (p : Nat) (a : Option Addr) (cap : Nat) (bs : List UInt8) (last : Bool) (st : List Lv) (at_ : Int) (F' : Nat → Prop) (w' : World) : Prop where
  stk : Stk w0 w' F' G p a cap bs last st at_
  sg : Stays G w w'
  sf : Stays F w w'
  ff : ∀ b, F b → F' b
end
end Go.Proofs.Ytmejhjgdofncfaa
/-
  Walks of layer 12: what was opened last; the next token.
-/
namespace Go.Proofs.Ytmejhjgdofncfaa
open Go.RowKit

section
variable {w w' : World} {p q u o0 o1 o2 r : Nat} {x0 x1 x2 : Value}
/-- Three cells that are read. -/
def S3 (w : World) (p o0 : Nat) (x0 : Value) (q o1 : Nat) (x1 : Value) (u o2 : Nat) (x2 : Value) : Prop := w.cell? ⟨p, o0, none⟩ = some x0 ∧ w.cell? ⟨q, o1, none⟩ = some x1 ∧ w.cell? ⟨u, o2, none⟩ = some x2
theorem S3.below (h : S3 w p o0 x0 q o1 x1 u o2 x2) (hb : Below w.heap.size w w') : S3 w' p o0 x0 q o1 x1 u o2 x2 := ⟨cell?_keep hb h.1, cell?_keep hb h.2.1, cell?_keep hb h.2.2⟩
theorem S3.alloc (h : S3 w p o0 x0 q o1 x1 u o2 x2) (o : Obj) : S3 (w.alloc o) p o0 x0 q o1 x1 u o2 x2 := h.below (belowA w o)
theorem S3.drew (h : S3 w p o0 x0 q o1 x1 u o2 x2) : S3 w.drew p o0 x0 q o1 x1 u o2 x2 := h
theorem S3.set8 (h : S3 w p o0 x0 q o1 x1 u o2 x2) (hp : p ≠ r) (hq : q ≠ r) (hu : u ≠ r) (y0 y1 y2 y3 y4 y5 y6 y7 : Value) :
    S3 ((((((((w.setCell ⟨r, 0, none⟩ y0).setCell ⟨r, 1, none⟩ y1).setCell ⟨r, 2, none⟩ y2).setCell ⟨r, 3, none⟩ y3).setCell ⟨r, 4, none⟩ y4).setCell ⟨r, 5, none⟩ y5).setCell ⟨r, 6, none⟩ y6).setCell ⟨r, 7, none⟩ y7) p o0 x0 q o1 x1 u o2 x2 :=
  ⟨(set8_cell hp _ _ _ _ _ _ _ _ _).trans h.1, (set8_cell hq _ _ _ _ _ _ _ _ _).trans h.2.1, (set8_cell hu _ _ _ _ _ _ _ _ _).trans h.2.2⟩
end

/-- A token in a new block. -/
structure TkM (w W : World) (r : Nat) (cs : Array Value) : Prop where
  bel : Below w.heap.size w W
  blk : W.heap[r]? = some (.cells cs 40 (0, 0))
  new : w.heap.size ≤ r

section
variable {w0 w w' : World} {F F' G : Nat → Prop} {p : Nat} {a : Option Addr} {cap : Nat} {bs : List UInt8} {last : Bool} {st : List Lv} {at_ : Int} {gs : List Nat} {osl : Value}

set_option maxRecDepth 8000 in
set_option maxHeartbeats 4000000 in
theorem pnext_any (h : IsStk w0 w F G p a cap bs last st at_ gs osl) : Calls Try.prog 9 #[.pointer (some ⟨p, 0, none⟩)] w fun e w' =>
    e = .returned (.tuple #[.agg (tokN (nextV bs at_ last).1 (nextV bs at_ last).2.1 (nextV bs at_ last).2.2.1), .int .i64 (nextV bs at_ last).2.2.2]) ∧
    IsStk w0 w' F G p a cap bs last st (if (nextV bs at_ last).2.2.2 = 0 then (nextV bs at_ last).2.2.1 else at_) gs osl ∧ Keeps (fun b => b = p) w w' := by
  have HN := Lib.hid (fun (W : World) (hb : Below w.heap.size w W) => next_any (h.bytes.mono hb) h.small at_ last)
  generalize nextV bs at_ last = V at *
  unfold NextEnd tokN at HN
  obtain ⟨x, f, t, er⟩ := V
  simp only at HN ⊢
  unfold tokN
  generalize x.kind = a0 at *
  generalize x.vk = a1 at *
  generalize x.vn = a2 at *
  generalize mkB x.vs = s1 at *
  generalize mkB x.s = s2 at *
  have HS := Lib.hid h
  have hpw := h.lt
  clear h
  go_enter Try.func9, Try.ntmps9
  go_wp2
  have HB1 := Lib.hid (belowA w (.cells #[.int .i64 0, .int .i64 0, .int .i64 0, .int .i64 0, .int .i64 0, .string ⟨#[]⟩, .slice none 0 0, .string ⟨#[]⟩] 40))
  have HS1 := Lib.hid (HS.out.mono HB1.out)
  have HR1 := Lib.hid (heapA_new (w := w) (b := w.heap.size) (.cells #[.int .i64 0, .int .i64 0, .int .i64 0, .int .i64 0, .int .i64 0, .string ⟨#[]⟩, .slice none 0 0, .string ⟨#[]⟩] 40) rfl)
  generalize w.alloc _ = W1 at *
  obtain ⟨r, hr⟩ : ∃ r, r = w.heap.size := ⟨_, rfl⟩
  have hpr0 : p ≠ r := by omega
  rw [← hr] at HR1 ⊢
  have HRR := Lib.hid hr
  clear hr hpw
  obtain ⟨⟨c0, c1, c2, c3⟩, f0, f1, f2, f3⟩ := HS1.out.cells
  have HA1 := Lib.hid (fun o : Obj => (belowA W1 o).drew)
  have HA2 := Lib.hid (fun o : Obj => HB1.out.trans ((HA1.out o).mono (show w.heap.size ≤ W1.heap.size from HB1.out.size)))
  have HC0 : Hid (S3 W1 p 0 (.slice a bs.length cap) p 1 (.int .i64 at_) p 2 (.bool last)) := Lib.hid ⟨c0, c1, c2⟩
  have hpr : p ≠ W1.heap.size := Nat.ne_of_lt HS1.out.lt
  have HR1L := Lib.hid (show r < W1.heap.size from lt_of_heap HR1.out)
  go_region_held3 (fun w' => w'.cell? ⟨p, 0, none⟩ = some (.slice a bs.length cap) ∧ w'.cell? ⟨p, 1, none⟩ = some (.int .i64 at_) ∧ w'.cell? ⟨p, 2, none⟩ = some (.bool last))
    ((show S3 _ p 0 (.slice a bs.length cap) p 1 (.int .i64 at_) p 2 (.bool last); (first
      | (with_reducible exact HC0.out.drew)
      | (with_reducible exact HC0.out)
      | (with_reducible exact (HC0.out.alloc _).drew)
      | (with_reducible exact Hid.out (by assumption))
      | (with_reducible exact S3.alloc (Hid.out (by assumption)) _)
      | (with_reducible exact S3.set8 (Hid.out (by assumption)) hpr hpr hpr _ _ _ _ _ _ _ _))))
    ((go_at_call 15; first
      | ((with_reducible refine (HN.out _ HB1.out.drew).mono ?_); rintro e wN ⟨rfl, hbN⟩; have hbM : Below W1.heap.size W1 wN := (Below.refl _ _).drew.trans hbN; have HSN := Lib.hid (HC0.out.below hbM))
      | ((with_reducible refine (HN.out _ (HA2.out _)).mono ?_); rintro e wN ⟨rfl, hbN⟩; have hbM : Below W1.heap.size W1 wN := (HA1.out _).trans (hbN.mono (HA1.out _).size); have HSN := Lib.hid (HC0.out.below hbM); have HZ := Lib.hid (block_keep hbN (heapA_new (w := W1) (b := W1.heap.size) (.cells #[.int .i64 0, .int .i64 0, .int .i64 0, .int .i64 0, .int .i64 0, .string ⟨#[]⟩, .slice none 0 0, .string ⟨#[]⟩] 40) rfl)); obtain ⟨⟨z0, z1, z2, z3, z4, z5, z6, z7⟩, y0, y1, y2, y3, y4, y5, y6, y7⟩ := cells8 HZ.out)))
  all_goals
    first
      | (obtain ⟨W2, hW2⟩ : ∃ W2, W2 = wN.alloc (.cells #[.int .i64 a0, .int .i64 f, .int .i64 t, .int .i64 a1, .int .i64 a2, .string s1, .slice none 0 0, .string s2] 40) := ⟨_, rfl⟩
         rw [← hW2]
         have HT := Lib.hid (show TkM W1 W2 wN.heap.size #[.int .i64 a0, .int .i64 f, .int .i64 t, .int .i64 a1, .int .i64 a2, .string s1, .slice none 0 0, .string s2] from ⟨by rw [hW2]; exact hbM.alloc hbM.size _, by rw [hW2]; exact heapA_new _ rfl, hbM.size⟩)
         obtain ⟨r2, hr2⟩ : ∃ r2, r2 = wN.heap.size := ⟨_, rfl⟩
         rw [← hr2] at HT ⊢)
      | (obtain ⟨W2, hW2⟩ : ∃ W2, W2 = ((((((((wN.setCell ⟨W1.heap.size, 0, none⟩ (.int .i64 a0)).setCell ⟨W1.heap.size, 1, none⟩ (.int .i64 f)).setCell ⟨W1.heap.size, 2, none⟩ (.int .i64 t)).setCell ⟨W1.heap.size, 3, none⟩ (.int .i64 a1)).setCell ⟨W1.heap.size, 4, none⟩ (.int .i64 a2)).setCell ⟨W1.heap.size, 5, none⟩ (.string s1)).setCell ⟨W1.heap.size, 6, none⟩ (.slice none 0 0)).setCell ⟨W1.heap.size, 7, none⟩ (.string s2)) := ⟨_, rfl⟩
         rw [← hW2]
         have HT := Lib.hid (show TkM W1 W2 W1.heap.size #[.int .i64 a0, .int .i64 f, .int .i64 t, .int .i64 a1, .int .i64 a2, .string s1, .slice none 0 0, .string s2] from ⟨by rw [hW2]; exact below_set8 hbM (Nat.le_refl _) _ _ _ _ _ _ _ _, by rw [hW2]; exact set8 HZ.out _ _ _ _ _ _ _ _, Nat.le_refl _⟩)
         clear z0 z1 z2 z3 z4 z5 z6 z7 y0 y1 y2 y3 y4 y5 y6 y7 HZ
         obtain ⟨r2, hr2⟩ : ∃ r2, r2 = W1.heap.size := ⟨_, rfl⟩
         rw [← hr2] at HT ⊢)
    clear hW2 hr2 hbN hbM HSN
    have HS2 := Lib.hid (HS1.out.mono HT.out.bel)
    have HR2 := Lib.hid (block_keep HT.out.bel HR1.out)
    have hp2 : p ≠ r2 := by have := HT.out.new; have := HS1.out.lt; omega
    have hr22 : r ≠ r2 := by have := HT.out.new; have := HR1L.out; omega
    have HB2 := Lib.hid (HB1.out.trans (HT.out.bel.mono HB1.out.size))
    clear c0 c1 c2 c3 f0 f1 f2 f3 hpr
    obtain ⟨⟨c0, c1, c2, c3⟩, f0, f1, f2, f3⟩ := HS2.out.cells
    obtain ⟨⟨k0, k1, k2, k3, k4, k5, k6, k7⟩, m0, m1, m2, m3, m4, m5, m6, m7⟩ := cells8 HT.out.blk
    obtain ⟨⟨g0, g1, g2, g3, g4, g5, g6, g7⟩, l0, l1, l2, l3, l4, l5, l6, l7⟩ := cells8 HR2.out
    by_cases her : er = 0
    · subst her
      go_wp2
      refine bodyPost_ret (results_val rfl _ _ r 40 _ (0, 0) _ rfl (set8 ((heap_setCell_other _ _ _ _ (Ne.symm hpr0)).trans HR2.out) _ _ _ _ _ _ _ _) Try.underlying40 rfl infoTok _ rfl) rfl ?_
      refine ⟨rfl, ?_, ?_⟩
      · exact (((HS.out.res (G' := fun b => G b ∨ b = r) HB2.out (fun b hb => hb.imp id fun e => by rw [e]; exact ⟨Nat.le_of_eq HRR.out.symm, lt_of_heap HR2.out⟩)).setAt t).set8 (.inr rfl) _ _ _ _ _ _ _ _).give fun b hb => .inl hb
      · exact keeps_set8 (Keeps.setCell (S := fun b => b = p) (a := ⟨p, 1, none⟩) (keeps_below HB2.out) (.inl rfl) _) (Nat.le_of_eq HRR.out.symm) _ _ _ _ _ _ _ _
    · have e1 : (er == 0) = false := by rw [beq_eq_false_iff_ne]; exact her
      go_wp2
      refine bodyPost_ret (results_val rfl _ _ r 40 _ (0, 0) _ rfl (set8 HR2.out _ _ _ _ _ _ _ _) Try.underlying40 rfl infoTok _ rfl) rfl ?_
      refine ⟨rfl, ?_, ?_⟩
      · exact ((HS.out.res (G' := fun b => G b ∨ b = r) HB2.out (fun b hb => hb.imp id fun e => by rw [e]; exact ⟨Nat.le_of_eq HRR.out.symm, lt_of_heap HR2.out⟩)).set8 (.inr rfl) _ _ _ _ _ _ _ _).give fun b hb => .inl hb
      · exact keeps_set8 (keeps_below HB2.out) (Nat.le_of_eq HRR.out.symm) _ _ _ _ _ _ _ _

def topP : List Nat → Option Addr
  | [] => none
  | g :: _ => some ⟨g, 0, none⟩
set_option maxRecDepth 8000 in
set_option maxHeartbeats 2000000 in
theorem top_any (h : IsStk w0 w F G p a cap bs last st at_ gs osl) : Calls Try.prog 11 #[.pointer (some ⟨p, 0, none⟩)] w fun e w' => e = .returned (.pointer (topP gs)) ∧ ∃ q, w' = w.drewN q := by
  have hl := h.lvs.len
  have hd := h.deep
  obtain ⟨ao, oc, rfl, hro, -⟩ := Row.of_owns h.own
  obtain ⟨⟨c0, c1, c2, c3⟩, f0, f1, f2, f3⟩ := h.cells
  cases gs with
  | nil =>
    have h0 : st.length = 0 := by simpa using hl.symm
    rw [h0] at c3
    clear hl hro h h0 hd
    go_enter Try.func11, Try.ntmps11
    go_wp2
    go_ret
    exact ⟨rfl, 0, rfl⟩
  | cons g t =>
    have h0 : st.length = t.length + 1 := by simpa using hl.symm
    rw [h0] at hro c3 hd
    obtain ⟨b, off, rfl, hb, hc⟩ := hro.2.2.2.2 (by omega)
    have hcell := hc t.length (.pointer (some ⟨g, 0, none⟩)) (by simp [ptrs])
    have hce : decide (t.length + 1 = 0) = false := by simp
    have hci : ((t.length : Int) + 1 == 0) = false := by rw [beq_eq_false_iff_ne]; omega
    have h1 : (0 : Int) ≤ (t.length : Int) + 1 - 1 := by omega
    have h2 : ((t.length : Int) + 1 - 1).toNat = t.length := by omega
    have h3 : IntKind.i64.wrap ((t.length : Int) + 1 - 1) = (t.length : Int) := by rw [IntWalk.i64_in _ (by omega)]; omega
    have h4 : (t.length : Int) < (t.length : Int) + 1 := by omega
    have h5 : (0 : Int) ≤ (t.length : Int) := by omega
    have h6 : ((t.length : Int)).toNat = t.length := by omega
    clear hc hro hl h h0
    unfold topP
    generalize t.length = n at *
    go_enter Try.func11, Try.ntmps11
    go_wp2
    go_quiet (fail)
    go_wp2
    go_ret
    exact ⟨rfl, _, rfl⟩
end
end Go.Proofs.Ytmejhjgdofncfaa
