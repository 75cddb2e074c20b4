/-
  The walk of lex.Next: the token that stands from a place on.
-/
import Derived.Test.YtkolfecjlbnfkaaLexF
import Derived.Test.YtkolfecjlbnfkaaLexG
namespace Go.Proofs.Ytkolfecjlbnfkaa
open Go.RowKit

def tokN (x : Tk) (f t : Int) : Array Value := #[.int .i64 x.kind, .int .i64 f, .int .i64 t, .int .i64 x.vk, .int .i64 x.vn, .string (mkB x.vs), .slice none 0 0, .string (mkB x.s)]
/-- What Next leaves. -/
def NextEnd (w : World) (V : Tk × Int × Int × Int) (e : Ending) (w' : World) : Prop :=
  e = .returned (.tuple #[.agg (tokN V.1 V.2.1 V.2.2.1), .int .i64 V.2.2.2]) ∧ Below w.heap.size w w'

structure Nx (w : World) (r : Nat) (W : World) : Prop where
  blk : W.heap[r]? = some (.cells #[.int .i64 0, .int .i64 0, .int .i64 0, .int .i64 0, .int .i64 0, .string ⟨#[]⟩, .slice none 0 0, .string ⟨#[]⟩] 28 (0, 0))
  bel : Below w.heap.size w W
  wr : w.heap.size ≤ r
theorem Nx.start (w : World) : Nx w w.heap.size (w.alloc (.cells #[.int .i64 0, .int .i64 0, .int .i64 0, .int .i64 0, .int .i64 0, .string ⟨#[]⟩, .slice none 0 0, .string ⟨#[]⟩] 28)) :=
  ⟨heapA_new _ rfl, belowA _ _, Nat.le_refl _⟩
theorem Nx.on {w W W' : World} {r : Nat} (h : Nx w r W) (hb : Below W.heap.size W W') : Nx w r W' := ⟨block_keep hb h.blk, h.bel.trans (hb.mono h.bel.size), h.wr⟩
theorem Nx.alloc {w W : World} {r : Nat} (h : Nx w r W) (o : Obj) : Nx w r (W.alloc o) := h.on (belowA W o)
theorem Nx.set {w W : World} {r : Nat} (h : Nx w r W) {b : Nat} (hb : w.heap.size ≤ b) (hn : b ≠ r) (i : Nat) (v : Value) : Nx w r (W.setCell ⟨b, i, none⟩ v) :=
  ⟨by rw [heap_setCell_other _ _ _ _ (Ne.symm hn)]; exact h.blk, h.bel.setCell hb v, h.wr⟩
theorem Nx.drewN {w W : World} {r : Nat} (h : Nx w r W) (q : Nat) : Nx w r (W.drewN q) := ⟨h.blk, below_drewN h.bel q, h.wr⟩
theorem Nx.keeps {w W W' : World} {r p : Nat} (h : Nx w r W) (hk : Keeps (fun b => b = p) W W') (hp : w.heap.size ≤ p) (hn : p ≠ r) : Nx w r W' :=
  ⟨hk.obj h.blk (Ne.symm hn), h.bel.trans (hk.below h.bel.size (fun b hb => by rw [hb]; exact hp)), h.wr⟩
theorem below_set8 {B : Nat} {w0 w : World} (h : Below B w0 w) {b : Nat} (hb : B ≤ b) (y0 y1 y2 y3 y4 y5 y6 y7 : Value) :
    Below B w0 ((((((((w.setCell ⟨b, 0, none⟩ y0).setCell ⟨b, 1, none⟩ y1).setCell ⟨b, 2, none⟩ y2).setCell ⟨b, 3, none⟩ y3).setCell ⟨b, 4, none⟩ y4).setCell ⟨b, 5, none⟩ y5).setCell ⟨b, 6, none⟩ y6).setCell ⟨b, 7, none⟩ y7) :=
  (((((((h.setCell hb _).setCell hb _).setCell hb _).setCell hb _).setCell hb _).setCell hb _).setCell hb _).setCell hb _
theorem Nx.fin {w W : World} {r : Nat} {V : Tk × Int × Int × Int} {x : Tk} {f t er : Int} (h : Nx w r W) (hV : V = (x, f, t, er)) (y0 y1 y2 y3 y4 y5 y6 y7 : Value) :
    NextEnd w V (.returned (.tuple #[.agg (tokN x f t), .int .i64 er]))
      ((((((((W.setCell ⟨r, 0, none⟩ y0).setCell ⟨r, 1, none⟩ y1).setCell ⟨r, 2, none⟩ y2).setCell ⟨r, 3, none⟩ y3).setCell ⟨r, 4, none⟩ y4).setCell ⟨r, 5, none⟩ y5).setCell ⟨r, 6, none⟩ y6).setCell ⟨r, 7, none⟩ y7) := by
  subst hV; exact ⟨rfl, below_set8 h.bel h.wr _ _ _ _ _ _ _ _⟩

theorem sc_new {w : World} {a : Option Addr} {cap : Nat} {bs : List UInt8} (hr : Row w 1 a bs.length cap (bs.map u8C)) (hn : bs.length ≤ 100000) (last : Bool) {f : Nat} (hf : f < bs.length) :
    ScQ (w.alloc (.cells #[.pointer none, .slice none 0 0, .slice a bs.length cap, .int .i64 f, .bool last] 54)) (fun b => b = w.heap.size) w.heap.size ⟨a, cap, bs, last⟩ [] f := by
  refine ⟨.pointer none, .slice none 0 0, ⟨heapA_new _ rfl, .inl rfl, World.ownsRow_nil _ _ _ _, fun b hb => (by cases hb), rfl, fun b hb => ⟨by omega, by rw [sizeA]; omega⟩, hr.mono (belowA _ _), fun x hx => ?_, by show f ≤ bs.length; omega, hn, by simp, fun _ => rfl⟩⟩
  obtain ⟨b, off, ha, hb, -⟩ := hr.2.2.2.2 (by omega)
  have hx' : a = some x := hx
  rw [ha] at hx'
  cases hx'
  exact hb
theorem skipV_le (bs : List UInt8) (k : Int) : skipV bs k ≤ bs.length := by
  unfold skipV
  split
  · omega
  · split
    · omega
    · have := skipN_le false (bs.drop k.toNat)
      rw [List.length_drop] at this; omega

set_option maxRecDepth 8000 in
set_option maxHeartbeats 8000000 in
theorem next_any {w : World} {a : Option Addr} {cap : Nat} {bs : List UInt8} (hr : Row w 1 a bs.length cap (bs.map u8C)) (hn : bs.length ≤ 100000) (k : Int) (last : Bool) :
    Calls Try.prog 9 #[.slice a bs.length cap, .int .i64 k, .bool last] w (NextEnd w (nextV bs k last)) := by
  obtain ⟨V, hV⟩ : ∃ V, V = nextV bs k last := ⟨_, rfl⟩
  rw [← hV]
  unfold nextV at hV
  have hT := Nx.start w
  obtain ⟨r, hrr⟩ : ∃ r, r = w.heap.size := ⟨_, rfl⟩
  rw [← hrr] at hT
  have HT0 := Lib.hid hT
  have HR := Lib.hid hrr
  clear hT hrr
  have HRW := Lib.hid hr
  have HN := Lib.hid hn
  clear hr
  by_cases hk : k < 0 ∨ (bs.length : Int) < k
  · rw [if_pos hk] at hV
    have HV := Lib.hid hV
    clear hV HT0 HR
    by_cases hk0 : k < 0
    · have hkd : decide (k < 0) = true := decide_eq_true hk0
      clear hk
      go_enter Try.func9, Try.ntmps9
      go_wp2
      refine bodyPost_ret (results_val rfl _ _ w.heap.size 28 _ (0, 0) _ rfl (heapA_new _ rfl) Try.underlying28 rfl (by exact infoTok) _ rfl) rfl ?_
      rw [HV.out]
      exact ⟨rfl, belowA _ _⟩
    · have hk1 : (bs.length : Int) < k := by omega
      have hkd : decide (k < 0) = false := decide_eq_false hk0
      have hkd2 : decide ((bs.length : Int) < k) = true := decide_eq_true hk1
      clear hk
      go_enter Try.func9, Try.ntmps9
      go_wp2
      refine bodyPost_ret (results_val rfl _ _ w.heap.size 28 _ (0, 0) _ rfl (heapA_new _ rfl) Try.underlying28 rfl (by exact infoTok) _ rfl) rfl ?_
      rw [HV.out]
      exact ⟨rfl, belowA _ _⟩
  · rw [if_neg hk] at hV
    have hkd : decide (k < 0) = false := decide_eq_false (by omega)
    have hkd2 : decide ((bs.length : Int) < k) = false := decide_eq_false (by omega)
    have hk0 : 0 ≤ k := by omega
    have hk1 : k ≤ bs.length := by omega
    clear hk
    have HS := Lib.hid (fun (W : World) (h : Below w.heap.size w W) => skip_any (HRW.out.mono h) hn k)
    have hfl := skipV_le bs k
    generalize skipV bs k = f at *
    have HV0 := Lib.hid hV
    clear hV hk0 hk1
    go_enter Try.func9, Try.ntmps9
    go_wp2_with fail
    refine (HS.out _ HT0.out.bel).mono ?_
    rintro e w' ⟨rfl, rfl⟩
    rw [← HR.out]
    generalize w.alloc _ = W1 at *
    have hV := HV0.out
    clear HV0
    by_cases hf : f = bs.length
    · subst hf
      rw [drop_nil (by omega)] at hV
      have HV := Lib.hid hV
      obtain ⟨⟨k0, k1, k2, k3, k4, k5, k6, k7⟩, f0, f1, f2, f3, f4, f5, f6, f7⟩ := cells8 HT0.out.blk
      clear hV HS
      cases last
      all_goals
        go_wp2
        refine bodyPost_ret (results_val rfl _ _ _ 28 _ (0, 0) _ rfl (set8 HT0.out.blk _ _ _ _ _ _ _ _) Try.underlying28 rfl infoTok _ rfl) rfl ?_
        exact HT0.out.fin HV.out _ _ _ _ _ _ _ _
    · have hf2 : f < bs.length := by omega
      rw [drop_cons hf2] at hV
      have hff : decide (f = bs.length) = false := decide_eq_false hf
      have hfe : ((f : Int) == (bs.length : Int)) = false := by rw [beq_eq_false_iff_ne]; omega
      have HSC := Lib.hid (sc_new (HRW.out.mono HT0.out.bel) hn last hf2)
      have HF := Lib.hid hf2
      obtain ⟨b0, off, ha, hb0, hc⟩ := HRW.out.at 0 f hf2
      have hcj := cell?_keep (HT0.out.alloc (.cells #[.pointer none, .slice none 0 0, .slice a bs.length cap, .int .i64 f, .bool last] 54)).bel (hc f hf2)
      have hcj1 := cell?_keep HT0.out.bel (hc f hf2)
      have hb1 : ¬ b0 = W1.heap.size := by have := HT0.out.bel.size; omega
      unfold u8C at hcj hcj1
      subst ha
      have hb2 : b0 < W1.heap.size := by have := HT0.out.bel.size; omega
      have hfi : (f : Int) < bs.length := by omega
      have hTK : Calls Try.prog 20 #[.pointer (some ⟨W1.heap.size, 0, none⟩), .int .u8 (bs.getD f 0).toNat] (W1.alloc (.cells #[.pointer none, .slice none 0 0, .slice (some ⟨b0, off, none⟩) bs.length cap, .int .i64 f, .bool last] 54)) (TokEnd _ (fun b => b = W1.heap.size) W1.heap.size ⟨some ⟨b0, off, none⟩, cap, bs, last⟩ (tokV last (bs.getD f 0) (bs.drop (f + 1)))) := token_any HSC.out hf2
      have hV2 : V = if (tokV last (bs.getD f 0) (bs.drop (f + 1))).1 = 0 then ((tokV last (bs.getD f 0) (bs.drop (f + 1))).2.1, (f : Int), (bs.length : Int) - ((tokV last (bs.getD f 0) (bs.drop (f + 1))).2.2.length : Int), 0) else ({ kind := 0 }, (f : Int), (f : Int), (tokV last (bs.getD f 0) (bs.drop (f + 1))).1) := hV
      generalize tokV last (bs.getD f 0) (bs.drop (f + 1)) = T at *
      generalize bs.getD f 0 = cc at *
      have HV := Lib.hid hV2
      have HTK := Lib.hid hTK
      have hrr := (Array.getElem?_eq_some_iff.1 HT0.out.blk).1
      have hpw : w.heap.size ≤ W1.heap.size := HT0.out.bel.size
      have HT1 := Lib.hid (HT0.out.alloc (.cells #[.pointer none, .slice none 0 0, .slice (some ⟨b0, off, none⟩) bs.length cap, .int .i64 f, .bool last] 54))
      have HPR := Lib.hid (show W1.heap.size ≠ r by omega)
      have HPW := Lib.hid hpw
      have HRR := Lib.hid hrr
      have HSZ := Lib.hid (sizeA W1 (.cells #[.pointer none, .slice none 0 0, .slice (some ⟨b0, off, none⟩) bs.length cap, .int .i64 f, .bool last] 54))
      clear hV hV2 hTK HS hc hrr hpw HSC hb0
      go_wp2_with fail
      refine HTK.out.mono ?_
      rintro e w2 ⟨hk2, kk, vk, vn, vs, s, rfl, hfx⟩
      have HT2 := Lib.hid (HT1.out.keeps hk2 HPW.out HPR.out)
      have hws : W1.heap.size < w2.heap.size := by have := hk2.size; rw [HSZ.out] at this; omega
      have HWS := Lib.hid hws
      have HFX := Lib.hid hfx
      clear HTK HT1 HSZ hk2 hcj hcj1 hb1 hb2 hfx hws
      generalize W1.alloc _ = W1' at *
      generalize W1.heap.size = p at *
      have HT3 := Lib.hid (HT2.out.alloc (.cells (tokC kk 0 0 vk vn vs s) 28))
      obtain ⟨er, her⟩ : ∃ er, T.1 = er := ⟨_, rfl⟩
      have HE := Lib.hid her
      rw [her]
      clear her
      have hr2 : r < w2.heap.size := (Array.getElem?_eq_some_iff.1 HT2.out.blk).1
      have HR2 := Lib.hid hr2
      clear hr2
      by_cases h0 : er = 0
      · subst h0
        obtain ⟨hkk, hvk, hvn, hvs, hs, htl, hc3⟩ := HFX.out HE.out
        obtain ⟨t, ht⟩ : ∃ t : Nat, t = bs.length - T.2.2.length := ⟨_, rfl⟩
        have hc3' : w2.cell? ⟨p, 3, none⟩ = some (.int .i64 (t : Int)) := by rw [ht]; exact hc3
        have HVV := Lib.hid (show V = (T.2.1, (f : Int), (t : Int), 0) by
          rw [HV.out, if_pos HE.out, ht]
          have h2 : T.2.2.length ≤ bs.length := htl
          congr 3; omega)
        have hcp := cell_alloc (.cells (tokC kk 0 0 vk vn vs s) 28) hc3'
        have hbr2 : (w2.alloc (.cells (tokC kk 0 0 vk vn vs s) 28)).heap[w2.heap.size]? = some (.cells #[.int .i64 kk, .int .i64 0, .int .i64 0, .int .i64 vk, .int .i64 vn, .string vs, .slice none 0 0, .string s] 28 (0, 0)) := heapA_new _ rfl
        have HBR2 := Lib.hid hbr2
        have HCP := Lib.hid hcp
        have HW2 := Lib.hid (show w.heap.size ≤ w2.heap.size from HT2.out.bel.size)
        have HNR := Lib.hid (show w2.heap.size ≠ r from Nat.ne_of_gt HR2.out)
        have HNP := Lib.hid (show p ≠ w2.heap.size from Nat.ne_of_lt HWS.out)
        have HKK := Lib.hid hkk
        have HVK := Lib.hid hvk
        have HVN := Lib.hid hvn
        have HVS := Lib.hid hvs
        have HSS := Lib.hid hs
        clear hkk hvk hvn hvs hs htl hc3 hc3' hcp hbr2 HE HFX HV ht
        unfold tokC at *
        go_wp2
        generalize w2.alloc _ = W3 at *
        generalize w2.heap.size = r2 at *
        have hcp := HCP.out
        have hnr := HNR.out
        have hnp := HNP.out
        obtain ⟨⟨g0, g1, g2, g3, g4, g5, g6, g7⟩, m0, m1, m2, m3, m4, m5, m6, m7⟩ := cells8 HBR2.out
        have HO1 := Lib.hid (show Nx w r ((W3.setCell ⟨r2, 1, none⟩ (.int .i64 f)).setCell ⟨r2, 2, none⟩ (.int .i64 t)).drew ∧ ((W3.setCell ⟨r2, 1, none⟩ (.int .i64 f)).setCell ⟨r2, 2, none⟩ (.int .i64 t)).drew.heap[r2]? = some (.cells #[.int .i64 kk, .int .i64 f, .int .i64 t, .int .i64 vk, .int .i64 vn, .string vs, .slice none 0 0, .string s] 28 (0, 0)) from
          ⟨((HT3.out.set HW2.out hnr 1 _).set HW2.out hnr 2 _).drewN 1, heap_setCell_same _ _ 2 _ _ _ (heap_setCell_same W3 _ 1 _ _ _ HBR2.out)⟩)
        have HO2 := Lib.hid (show Nx w r ((W3.setCell ⟨r2, 2, none⟩ (.int .i64 t)).setCell ⟨r2, 1, none⟩ (.int .i64 f)).drew ∧ ((W3.setCell ⟨r2, 2, none⟩ (.int .i64 t)).setCell ⟨r2, 1, none⟩ (.int .i64 f)).drew.heap[r2]? = some (.cells #[.int .i64 kk, .int .i64 f, .int .i64 t, .int .i64 vk, .int .i64 vn, .string vs, .slice none 0 0, .string s] 28 (0, 0)) from
          ⟨((HT3.out.set HW2.out hnr 2 _).set HW2.out hnr 1 _).drewN 1, heap_setCell_same _ _ 1 _ _ _ (heap_setCell_same W3 _ 2 _ _ _ HBR2.out)⟩)
        go_region
        all_goals
          clear hcp hnp g0 g1 g2 g3 g4 g5 g6 g7 m0 m1 m2 m3 m4 m5 m6 m7
          first
            | (obtain ⟨W4, hW4⟩ : ∃ W4, W4 = ((W3.setCell ⟨r2, 1, none⟩ (.int .i64 f)).setCell ⟨r2, 2, none⟩ (.int .i64 t)).drew := ⟨_, rfl⟩; rw [← hW4]; have HX4 := Lib.hid (show Nx w r W4 by rw [hW4]; exact HO1.out.1); have HB4 := Lib.hid (show W4.heap[r2]? = some (.cells #[.int .i64 kk, .int .i64 f, .int .i64 t, .int .i64 vk, .int .i64 vn, .string vs, .slice none 0 0, .string s] 28 (0, 0)) by rw [hW4]; exact HO1.out.2))
            | (obtain ⟨W4, hW4⟩ : ∃ W4, W4 = ((W3.setCell ⟨r2, 2, none⟩ (.int .i64 t)).setCell ⟨r2, 1, none⟩ (.int .i64 f)).drew := ⟨_, rfl⟩; rw [← hW4]; have HX4 := Lib.hid (show Nx w r W4 by rw [hW4]; exact HO2.out.1); have HB4 := Lib.hid (show W4.heap[r2]? = some (.cells #[.int .i64 kk, .int .i64 f, .int .i64 t, .int .i64 vk, .int .i64 vn, .string vs, .slice none 0 0, .string s] 28 (0, 0)) by rw [hW4]; exact HO2.out.2))
          clear hW4
          obtain ⟨⟨g0, g1, g2, g3, g4, g5, g6, g7⟩, m0, m1, m2, m3, m4, m5, m6, m7⟩ := cells8 HB4.out
          obtain ⟨⟨k0, k1, k2, k3, k4, k5, k6, k7⟩, f0, f1, f2, f3, f4, f5, f6, f7⟩ := cells8 HX4.out.blk
          go_wp2
          refine bodyPost_ret (results_val rfl _ _ _ 28 _ (0, 0) _ rfl (set8 HX4.out.blk _ _ _ _ _ _ _ _) Try.underlying28 rfl infoTok _ rfl) rfl ?_
          have e1 := HKK.out
          have e2 := HVK.out
          have e3 := HVN.out
          have e4 := HVS.out
          have e5 := HSS.out
          subst e1 e2 e3 e4 e5
          exact HX4.out.fin HVV.out _ _ _ _ _ _ _ _
      · have HVV := Lib.hid (show V = ({ kind := 0 }, (f : Int), (f : Int), er) by rw [HV.out, HE.out, if_neg h0])
        have e1 : (er == 0) = false := by rw [beq_eq_false_iff_ne]; exact h0
        have e2 : (er != 0) = true := by simp only [bne, e1, Bool.not_false]
        clear h0
        obtain ⟨⟨k0, k1, k2, k3, k4, k5, k6, k7⟩, f0, f1, f2, f3, f4, f5, f6, f7⟩ := cells8 HT3.out.blk
        unfold tokC at *
        go_wp2
        refine bodyPost_ret (results_val rfl _ _ _ 28 _ (0, 0) _ rfl (set8 HT3.out.blk _ _ _ _ _ _ _ _) Try.underlying28 rfl infoTok _ rfl) rfl ?_
        exact HT3.out.fin HVV.out _ _ _ _ _ _ _ _
end Go.Proofs.Ytkolfecjlbnfkaa
