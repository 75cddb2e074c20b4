/-
  Our texts LexG to LexL, in one.
-/
import Derived.Test.YtnkodejgiabamaaGreatPkW8
import Derived.Test.YtnkodejgiabamaaGreatProg
/-
  Walks of layer 10: space and comments.
-/
namespace Go.Proofs.YtnkodejgiabamaaGreat
open Go.RowKit

/-- Where space and comments end, from a place on; amid a comment or not. -/
def skN (bs : List UInt8) (b : Bool) (j : Nat) : Nat := if bs.length ≤ j then bs.length else j + skipN b (bs.drop j)
theorem skN_end {bs : List UInt8} {b : Bool} {j : Nat} (h : bs.length ≤ j) : skN bs b j = bs.length := by unfold skN; rw [if_pos h]
theorem skN_go {bs : List UInt8} {b b' : Bool} {j : Nat} (h : j < bs.length) (hs : skipN b (bs.getD j 0 :: bs.drop (j + 1)) = 1 + skipN b' (bs.drop (j + 1))) : skN bs b j = skN bs b' (j + 1) := by
  unfold skN
  rw [if_neg (by omega)]
  have hd : bs.drop j = bs.getD j 0 :: bs.drop (j + 1) := by
    rw [List.drop_eq_getElem_cons h]; simp [List.getD, h]
  rw [hd, hs]
  by_cases h1 : bs.length ≤ j + 1
  · rw [if_pos h1, List.drop_eq_nil_of_le h1]
    simp only [skipN]
    omega
  · rw [if_neg h1]; omega
theorem skN_stop {bs : List UInt8} {j : Nat} (h : j < bs.length) (h1 : bs.getD j 0 ≠ 37) (h2 : isSp (bs.getD j 0) = false) : skN bs false j = j := by
  unfold skN
  rw [if_neg (by omega)]
  have hd : bs.drop j = bs.getD j 0 :: bs.drop (j + 1) := by
    rw [List.drop_eq_getElem_cons h]; simp [List.getD, h]
  rw [hd, skipN, if_neg h1, if_neg (by rw [h2]; decide), Nat.add_zero]
theorem skipV_skN {bs : List UInt8} {k : Int} (h : 0 ≤ k) : skipV bs k = skN bs false k.toNat := by
  unfold skipV skN
  rw [if_neg (by omega)]
  by_cases h1 : (bs.length : Int) ≤ k
  · rw [if_pos h1, if_pos (by omega)]
  · rw [if_neg h1, if_neg (by omega)]

set_option maxRecDepth 8000 in
set_option maxHeartbeats 4000000 in
theorem skip_any {w : World} {a : Option Addr} {cap : Nat} {bs : List UInt8} (hr : Row w 1 a bs.length cap (bs.map u8C)) (hn : bs.length ≤ 100000) (k : Int) :
    Calls Tryz.prog 24 #[.slice a bs.length cap, .int .i64 k] w fun e w' => e = .returned (.int .i64 (skipV bs k : Nat)) ∧ w = w' := by
  obtain ⟨V, hV⟩ : ∃ V, V = skipV bs k := ⟨_, rfl⟩
  rw [← hV]
  by_cases hk : k < 0
  · have HV := Lib.hid (show V = 0 by rw [hV]; unfold skipV; rw [if_pos hk])
    have hkd : decide (k < 0) = true := decide_eq_true hk
    clear hV hr
    go_enter Tryz.func24, Tryz.ntmps24
    go_wp2
    go_ret
    exact ⟨by rw [HV.out]; rfl, rfl⟩
  · have hv := hV.trans (skipV_skN (by omega))
    obtain ⟨j0, hj0⟩ : ∃ j : Nat, k = j := ⟨k.toNat, by omega⟩
    subst hj0
    rw [Int.toNat_natCast] at hv
    have HV := Lib.hid hv
    have hkd : decide ((j0 : Int) < 0) = false := decide_eq_false (by omega)
    have HC := Lib.hid (fun j (hj : j < bs.length) => hr.at 0 j hj)
    clear hV hr hv hk
    go_enter Tryz.func24, Tryz.ntmps24
    go_wp2
    go_loop [1, 5] (fun i c => ∃ (j : Nat) (b : Bool), i = .int .i64 j ∧ c = .bool b ∧ Hid (V = skN bs b j))
      (fun i _ => bs.length - (intOf i).toNat)
    case atStart => exact ⟨j0, false, rfl, rfl, HV⟩
    case round =>
      obtain ⟨j, b, rfl, rfl, HJ⟩ := hrel
      by_cases hj : j < bs.length
      · obtain ⟨b0, off, rfl, -, hc⟩ := HC.out j hj
        have hcj := hc j hj
        unfold u8C at hcj
        have hji : decide ((j : Int) < bs.length) = true := by simp; exact hj
        have hjm : j ≤ 99999 := by omega
        have HSP := Lib.hid (fun W => space_any (bs.getD j 0).toNat W)
        rw [← spI_eq] at HSP
        have HG := Lib.hid (fun b b' => @skN_go bs b b' j hj)
        have HST := Lib.hid (fun h1 h2 => @skN_stop bs j hj h1 h2)
        have HM := Lib.hid (show bs.length - (j + 1) < bs.length - j by omega)
        have hjd : decide (j < bs.length) = true := decide_eq_true hj
        clear hc HC hn hkd
        generalize bs.getD j 0 = c at *
        cases b
        · by_cases h37 : c = 37
          · have hx : c.toNat = 37 := by rw [h37]; rfl
            have HV2 := Lib.hid (HJ.out.trans (HG.out false true (by rw [h37]; simp [skipN])))
            rw [hx] at hcj
            clear hx h37
            go_wp2
            go_round
            case rel => exact ⟨j + 1, true, by go_num, rfl, HV2⟩
            case measure => simpa [intOf] using HM.out
          · have hx : ((c.toNat : Int) == 37) = false := by rw [beq_eq_false_iff_ne]; exact fun e => h37 (UInt8.toNat_inj.1 (Int.ofNat_inj.1 e))
            obtain ⟨sp, hsp⟩ : ∃ sp, isSp c = sp := ⟨_, rfl⟩
            rw [hsp] at HSP
            have HS := Lib.hid hsp
            have H37 := Lib.hid h37
            clear h37 hsp
            cases sp
            · have HV2 := Lib.hid (HJ.out.trans (HST.out H37.out HS.out))
              generalize c.toNat = x at *
              go_wp2_with (go_at_call 37; refine (HSP.out _).mono ?_; rintro e w' ⟨rfl, rfl⟩)
              go_ret
              exact ⟨by rw [HV2.out]; rfl, rfl⟩
            · have HV2 := Lib.hid (HJ.out.trans (HG.out false false (by rw [skipN, if_neg H37.out, if_pos HS.out])))
              generalize c.toNat = x at *
              go_wp2_with (go_at_call 37; refine (HSP.out _).mono ?_; rintro e w' ⟨rfl, rfl⟩)
              go_round
              case rel => exact ⟨j + 1, false, by go_num, rfl, HV2⟩
              case measure => simpa [intOf] using HM.out
        · have HV2 := Lib.hid (HJ.out.trans (HG.out true (c != 10 && c != 13) (by rw [skipN])))
          by_cases h10 : c = 10
          · have hx : c.toNat = 10 := by rw [h10]; rfl
            rw [hx] at hcj
            rw [show (c != 10 && c != 13) = false by rw [h10]; rfl] at HV2
            clear hx h10
            go_wp2
            go_round
            case rel => exact ⟨j + 1, false, by go_num, rfl, HV2⟩
            case measure => simpa [intOf] using HM.out
          · by_cases h13 : c = 13
            · have hx : c.toNat = 13 := by rw [h13]; rfl
              rw [hx] at hcj
              rw [show (c != 10 && c != 13) = false by rw [h13]; rfl] at HV2
              clear hx h10 h13
              go_wp2
              go_round
              case rel => exact ⟨j + 1, false, by go_num, rfl, HV2⟩
              case measure => simpa [intOf] using HM.out
            · rw [show (c != 10 && c != 13) = true by simp [h10, h13]] at HV2
              have e1 : ((c.toNat : Int) == 10) = false := by rw [beq_eq_false_iff_ne]; exact fun e => h10 (UInt8.toNat_inj.1 (Int.ofNat_inj.1 e))
              have e2 : ((c.toNat : Int) == 13) = false := by rw [beq_eq_false_iff_ne]; exact fun e => h13 (UInt8.toNat_inj.1 (Int.ofNat_inj.1 e))
              have e3 : ((c.toNat : Int) != 10) = true := by simp only [bne, e1, Bool.not_false]
              have e4 : ((c.toNat : Int) != 13) = true := by simp only [bne, e2, Bool.not_false]
              clear h10 h13
              generalize c.toNat = x at *
              go_wp2
              go_round
              case rel => exact ⟨j + 1, true, by go_num, rfl, HV2⟩
              case measure => simpa [intOf] using HM.out
      · have hji : decide ((j : Int) < bs.length) = false := decide_eq_false (by omega)
        have HV2 := Lib.hid (HJ.out.trans (skN_end (by omega)))
        have hjd : decide (j < bs.length) = false := decide_eq_false hj
        clear hj HC
        go_wp2
        go_ret
        exact ⟨by rw [HV2.out]; rfl, rfl⟩
end Go.Proofs.YtnkodejgiabamaaGreat
/-
  The walk of lex.Next: the token that stands from a place on.
-/
namespace Go.Proofs.YtnkodejgiabamaaGreat
open Go.RowKit

def tokN (x : Tk) (f t : Int) : Array Value := #[.int .i64 x.kind, .int .i64 f, .int .i64 t, .int .i64 x.vk, .int .i64 x.vn, .string (mkB x.vs), .slice none 0 0, .string (mkB x.s)]
/-- What Next leaves. -/
def NextEnd (w : World) (V : Tk × Int × Int × Int) (e : Ending) (w' : World) : Prop :=
  e = .returned (.tuple #[.agg (tokN V.1 V.2.1 V.2.2.1), .int .i64 V.2.2.2]) ∧ Below w.heap.size w w'

structure Nx (w : World) (r : Nat) (W : World) : Prop where
  blk : W.heap[r]? = some (.cells #[.int .i64 0, .int .i64 0, .int .i64 0, .int .i64 0, .int .i64 0, .string ⟨#[]⟩, .slice none 0 0, .string ⟨#[]⟩] 45 (0, 0))
  bel : Below w.heap.size w W
  wr : w.heap.size ≤ r
theorem Nx.start (w : World) : Nx w w.heap.size (w.alloc (.cells #[.int .i64 0, .int .i64 0, .int .i64 0, .int .i64 0, .int .i64 0, .string ⟨#[]⟩, .slice none 0 0, .string ⟨#[]⟩] 45)) :=
  ⟨heapA_new _ rfl, belowA _ _, Nat.le_refl _⟩
theorem Nx.on {w W W' : World} {r : Nat} (h : Nx w r W) (hb : Below W.heap.size W W') : Nx w r W' := ⟨block_keep hb h.blk, h.bel.trans (hb.mono h.bel.size), h.wr⟩
theorem Nx.alloc {w W : World} {r : Nat} (h : Nx w r W) (o : Obj) : Nx w r (W.alloc o) := h.on (belowA W o)
theorem Nx.set {w W : World} {r : Nat} (h : Nx w r W) {b : Nat} (hb : w.heap.size ≤ b) (hn : b ≠ r) (i : Nat) (v : Value) : Nx w r (W.setCell ⟨b, i, none⟩ v) :=
  ⟨by rw [heap_setCell_other _ _ _ _ (Ne.symm hn)]; exact h.blk, h.bel.setCell hb v, h.wr⟩
theorem Nx.drewN {w W : World} {r : Nat} (h : Nx w r W) (q : Nat) : Nx w r (W.drewN q) := ⟨h.blk, below_drewN h.bel q, h.wr⟩
theorem Nx.keeps {w W W' : World} {r p : Nat} (h : Nx w r W) (hk : Keeps (fun b => b = p) W W') (hp : w.heap.size ≤ p) (hn : p ≠ r) : Nx w r W' :=
  ⟨hk.obj h.blk (Ne.symm hn), h.bel.trans (hk.below h.bel.size (fun b hb => by rw [hb]; exact hp)), h.wr⟩
theorem below_set8 {B : Nat} {w0 w : World} (h : Below B w0 w) {b : Nat} (hb : B ≤ b) (y0 y1 y2 y3 y4 y5 y6 y7 : Value) :
    Below B w0 ((((((((w.setCell ⟨b, 0, none⟩ y0).setCell ⟨b, 1, none⟩ y1).setCell ⟨b, 2, none⟩ y2).setCell ⟨b, 3, none⟩ y3).setCell ⟨b, 4, none⟩ y4).setCell ⟨b, 5, none⟩ y5).setCell ⟨b, 6, none⟩ y6).setCell ⟨b, 7, none⟩ y7) :=
  (((((((h.setCell hb _).setCell hb _).setCell hb _).setCell hb _).setCell hb _).setCell hb _).setCell hb _).setCell hb _
theorem Nx.fin {w W : World} {r : Nat} {V : Tk × Int × Int × Int} {x : Tk} {f t er : Int} (h : Nx w r W) (hV : V = (x, f, t, er)) (y0 y1 y2 y3 y4 y5 y6 y7 : Value) :
    NextEnd w V (.returned (.tuple #[.agg (tokN x f t), .int .i64 er]))
      ((((((((W.setCell ⟨r, 0, none⟩ y0).setCell ⟨r, 1, none⟩ y1).setCell ⟨r, 2, none⟩ y2).setCell ⟨r, 3, none⟩ y3).setCell ⟨r, 4, none⟩ y4).setCell ⟨r, 5, none⟩ y5).setCell ⟨r, 6, none⟩ y6).setCell ⟨r, 7, none⟩ y7) := by
  subst hV; exact ⟨rfl, below_set8 h.bel h.wr _ _ _ _ _ _ _ _⟩

theorem sc_new {w : World} {a : Option Addr} {cap : Nat} {bs : List UInt8} (hr : Row w 1 a bs.length cap (bs.map u8C)) (hn : bs.length ≤ 100000) (last : Bool) {f : Nat} (hf : f < bs.length) :
    ScQ (w.alloc (.cells #[.pointer none, .slice none 0 0, .slice a bs.length cap, .int .i64 f, .bool last] 74)) (fun b => b = w.heap.size) w.heap.size ⟨a, cap, bs, last⟩ [] f := by
  refine ⟨.pointer none, .slice none 0 0, ⟨heapA_new _ rfl, .inl rfl, World.ownsRow_nil _ _ _ _, fun b hb => (by cases hb), rfl, fun b hb => ⟨by omega, by rw [sizeA]; omega⟩, hr.mono (belowA _ _), fun x hx => ?_, by show f ≤ bs.length; omega, hn, by simp, fun _ => rfl⟩⟩
  obtain ⟨b, off, ha, hb, -⟩ := hr.2.2.2.2 (by omega)
  have hx' : a = some x := hx
  rw [ha] at hx'
  cases hx'
  exact hb
theorem skipV_le (bs : List UInt8) (k : Int) : skipV bs k ≤ bs.length := by
  unfold skipV
  split
  · omega
  · split
    · omega
    · have := skipN_le false (bs.drop k.toNat)
      rw [List.length_drop] at this; omega

set_option maxRecDepth 8000 in
set_option maxHeartbeats 8000000 in
theorem next_any {w : World} {a : Option Addr} {cap : Nat} {bs : List UInt8} (hr : Row w 1 a bs.length cap (bs.map u8C)) (hn : bs.length ≤ 100000) (k : Int) (last : Bool) :
    Calls Tryz.prog 13 #[.slice a bs.length cap, .int .i64 k, .bool last] w (NextEnd w (nextV bs k last)) := by
  obtain ⟨V, hV⟩ : ∃ V, V = nextV bs k last := ⟨_, rfl⟩
  rw [← hV]
  unfold nextV at hV
  have hT := Nx.start w
  obtain ⟨r, hrr⟩ : ∃ r, r = w.heap.size := ⟨_, rfl⟩
  rw [← hrr] at hT
  have HT0 := Lib.hid hT
  have HR := Lib.hid hrr
  clear hT hrr
  have HRW := Lib.hid hr
  have HN := Lib.hid hn
  clear hr
  by_cases hk : k < 0 ∨ (bs.length : Int) < k
  · rw [if_pos hk] at hV
    have HV := Lib.hid hV
    clear hV HT0 HR
    by_cases hk0 : k < 0
    · have hkd : decide (k < 0) = true := decide_eq_true hk0
      clear hk
      go_enter Tryz.func13, Tryz.ntmps13
      go_wp2
      refine bodyPost_ret (results_val rfl _ _ w.heap.size 45 _ (0, 0) _ rfl (heapA_new _ rfl) Tryz.underlying45 rfl (by exact infoTok) _ rfl) rfl ?_
      rw [HV.out]
      exact ⟨rfl, belowA _ _⟩
    · have hk1 : (bs.length : Int) < k := by omega
      have hkd : decide (k < 0) = false := decide_eq_false hk0
      have hkd2 : decide ((bs.length : Int) < k) = true := decide_eq_true hk1
      clear hk
      go_enter Tryz.func13, Tryz.ntmps13
      go_wp2
      refine bodyPost_ret (results_val rfl _ _ w.heap.size 45 _ (0, 0) _ rfl (heapA_new _ rfl) Tryz.underlying45 rfl (by exact infoTok) _ rfl) rfl ?_
      rw [HV.out]
      exact ⟨rfl, belowA _ _⟩
  · rw [if_neg hk] at hV
    have hkd : decide (k < 0) = false := decide_eq_false (by omega)
    have hkd2 : decide ((bs.length : Int) < k) = false := decide_eq_false (by omega)
    have hk0 : 0 ≤ k := by omega
    have hk1 : k ≤ bs.length := by omega
    clear hk
    have HS := Lib.hid (fun (W : World) (h : Below w.heap.size w W) => skip_any (HRW.out.mono h) hn k)
    have hfl := skipV_le bs k
    generalize skipV bs k = f at *
    have HV0 := Lib.hid hV
    clear hV hk0 hk1
    go_enter Tryz.func13, Tryz.ntmps13
    go_wp2_with fail
    refine (HS.out _ HT0.out.bel).mono ?_
    rintro e w' ⟨rfl, rfl⟩
    rw [← HR.out]
    generalize w.alloc _ = W1 at *
    have hV := HV0.out
    clear HV0
    by_cases hf : f = bs.length
    · subst hf
      rw [drop_nil (by omega)] at hV
      have HV := Lib.hid hV
      obtain ⟨⟨k0, k1, k2, k3, k4, k5, k6, k7⟩, f0, f1, f2, f3, f4, f5, f6, f7⟩ := cells8 HT0.out.blk
      clear hV HS
      cases last
      all_goals
        go_wp2
        refine bodyPost_ret (results_val rfl _ _ _ 45 _ (0, 0) _ rfl (set8 HT0.out.blk _ _ _ _ _ _ _ _) Tryz.underlying45 rfl infoTok _ rfl) rfl ?_
        exact HT0.out.fin HV.out _ _ _ _ _ _ _ _
    · have hf2 : f < bs.length := by omega
      rw [drop_cons hf2] at hV
      have hff : decide (f = bs.length) = false := decide_eq_false hf
      have hfe : ((f : Int) == (bs.length : Int)) = false := by rw [beq_eq_false_iff_ne]; omega
      have HSC := Lib.hid (sc_new (HRW.out.mono HT0.out.bel) hn last hf2)
      have HF := Lib.hid hf2
      obtain ⟨b0, off, ha, hb0, hc⟩ := HRW.out.at 0 f hf2
      have hcj := cell?_keep (HT0.out.alloc (.cells #[.pointer none, .slice none 0 0, .slice a bs.length cap, .int .i64 f, .bool last] 74)).bel (hc f hf2)
      have hcj1 := cell?_keep HT0.out.bel (hc f hf2)
      have hb1 : ¬ b0 = W1.heap.size := by have := HT0.out.bel.size; omega
      unfold u8C at hcj hcj1
      subst ha
      have hb2 : b0 < W1.heap.size := by have := HT0.out.bel.size; omega
      have hfi : (f : Int) < bs.length := by omega
      have hTK : Calls Tryz.prog 25 #[.pointer (some ⟨W1.heap.size, 0, none⟩), .int .u8 (bs.getD f 0).toNat] (W1.alloc (.cells #[.pointer none, .slice none 0 0, .slice (some ⟨b0, off, none⟩) bs.length cap, .int .i64 f, .bool last] 74)) (TokEnd _ (fun b => b = W1.heap.size) W1.heap.size ⟨some ⟨b0, off, none⟩, cap, bs, last⟩ (tokV last (bs.getD f 0) (bs.drop (f + 1)))) := token_any HSC.out hf2
      have hV2 : V = if (tokV last (bs.getD f 0) (bs.drop (f + 1))).1 = 0 then ((tokV last (bs.getD f 0) (bs.drop (f + 1))).2.1, (f : Int), (bs.length : Int) - ((tokV last (bs.getD f 0) (bs.drop (f + 1))).2.2.length : Int), 0) else ({ kind := 0 }, (f : Int), (f : Int), (tokV last (bs.getD f 0) (bs.drop (f + 1))).1) := hV
      generalize tokV last (bs.getD f 0) (bs.drop (f + 1)) = T at *
      generalize bs.getD f 0 = cc at *
      have HV := Lib.hid hV2
      have HTK := Lib.hid hTK
      have hrr := (Array.getElem?_eq_some_iff.1 HT0.out.blk).1
      have hpw : w.heap.size ≤ W1.heap.size := HT0.out.bel.size
      have HT1 := Lib.hid (HT0.out.alloc (.cells #[.pointer none, .slice none 0 0, .slice (some ⟨b0, off, none⟩) bs.length cap, .int .i64 f, .bool last] 74))
      have HPR := Lib.hid (show W1.heap.size ≠ r by omega)
      have HPW := Lib.hid hpw
      have HRR := Lib.hid hrr
      have HSZ := Lib.hid (sizeA W1 (.cells #[.pointer none, .slice none 0 0, .slice (some ⟨b0, off, none⟩) bs.length cap, .int .i64 f, .bool last] 74))
      clear hV hV2 hTK HS hc hrr hpw HSC hb0
      go_wp2_with fail
      refine HTK.out.mono ?_
      rintro e w2 ⟨hk2, kk, vk, vn, vs, s, rfl, hfx⟩
      have HT2 := Lib.hid (HT1.out.keeps hk2 HPW.out HPR.out)
      have hws : W1.heap.size < w2.heap.size := by have := hk2.size; rw [HSZ.out] at this; omega
      have HWS := Lib.hid hws
      have HFX := Lib.hid hfx
      clear HTK HT1 HSZ hk2 hcj hcj1 hb1 hb2 hfx hws
      generalize W1.alloc _ = W1' at *
      generalize W1.heap.size = p at *
      have HT3 := Lib.hid (HT2.out.alloc (.cells (tokC kk 0 0 vk vn vs s) 45))
      obtain ⟨er, her⟩ : ∃ er, T.1 = er := ⟨_, rfl⟩
      have HE := Lib.hid her
      rw [her]
      clear her
      have hr2 : r < w2.heap.size := (Array.getElem?_eq_some_iff.1 HT2.out.blk).1
      have HR2 := Lib.hid hr2
      clear hr2
      by_cases h0 : er = 0
      · subst h0
        obtain ⟨hkk, hvk, hvn, hvs, hs, htl, hc3⟩ := HFX.out HE.out
        obtain ⟨t, ht⟩ : ∃ t : Nat, t = bs.length - T.2.2.length := ⟨_, rfl⟩
        have hc3' : w2.cell? ⟨p, 3, none⟩ = some (.int .i64 (t : Int)) := by rw [ht]; exact hc3
        have HVV := Lib.hid (show V = (T.2.1, (f : Int), (t : Int), 0) by
          rw [HV.out, if_pos HE.out, ht]
          have h2 : T.2.2.length ≤ bs.length := htl
          congr 3; omega)
        have hcp := cell_alloc (.cells (tokC kk 0 0 vk vn vs s) 45) hc3'
        have hbr2 : (w2.alloc (.cells (tokC kk 0 0 vk vn vs s) 45)).heap[w2.heap.size]? = some (.cells #[.int .i64 kk, .int .i64 0, .int .i64 0, .int .i64 vk, .int .i64 vn, .string vs, .slice none 0 0, .string s] 45 (0, 0)) := heapA_new _ rfl
        have HBR2 := Lib.hid hbr2
        have HCP := Lib.hid hcp
        have HW2 := Lib.hid (show w.heap.size ≤ w2.heap.size from HT2.out.bel.size)
        have HNR := Lib.hid (show w2.heap.size ≠ r from Nat.ne_of_gt HR2.out)
        have HNP := Lib.hid (show p ≠ w2.heap.size from Nat.ne_of_lt HWS.out)
        have HKK := Lib.hid hkk
        have HVK := Lib.hid hvk
        have HVN := Lib.hid hvn
        have HVS := Lib.hid hvs
        have HSS := Lib.hid hs
        clear hkk hvk hvn hvs hs htl hc3 hc3' hcp hbr2 HE HFX HV ht
        unfold tokC at *
        go_wp2
        generalize w2.alloc _ = W3 at *
        generalize w2.heap.size = r2 at *
        have hcp := HCP.out
        have hnr := HNR.out
        have hnp := HNP.out
        obtain ⟨⟨g0, g1, g2, g3, g4, g5, g6, g7⟩, m0, m1, m2, m3, m4, m5, m6, m7⟩ := cells8 HBR2.out
        have HO1 := Lib.hid (show Nx w r ((W3.setCell ⟨r2, 1, none⟩ (.int .i64 f)).setCell ⟨r2, 2, none⟩ (.int .i64 t)).drew ∧ ((W3.setCell ⟨r2, 1, none⟩ (.int .i64 f)).setCell ⟨r2, 2, none⟩ (.int .i64 t)).drew.heap[r2]? = some (.cells #[.int .i64 kk, .int .i64 f, .int .i64 t, .int .i64 vk, .int .i64 vn, .string vs, .slice none 0 0, .string s] 45 (0, 0)) from
          ⟨((HT3.out.set HW2.out hnr 1 _).set HW2.out hnr 2 _).drewN 1, heap_setCell_same _ _ 2 _ _ _ (heap_setCell_same W3 _ 1 _ _ _ HBR2.out)⟩)
        have HO2 := Lib.hid (show Nx w r ((W3.setCell ⟨r2, 2, none⟩ (.int .i64 t)).setCell ⟨r2, 1, none⟩ (.int .i64 f)).drew ∧ ((W3.setCell ⟨r2, 2, none⟩ (.int .i64 t)).setCell ⟨r2, 1, none⟩ (.int .i64 f)).drew.heap[r2]? = some (.cells #[.int .i64 kk, .int .i64 f, .int .i64 t, .int .i64 vk, .int .i64 vn, .string vs, .slice none 0 0, .string s] 45 (0, 0)) from
          ⟨((HT3.out.set HW2.out hnr 2 _).set HW2.out hnr 1 _).drewN 1, heap_setCell_same _ _ 1 _ _ _ (heap_setCell_same W3 _ 2 _ _ _ HBR2.out)⟩)
        go_region
        all_goals
          clear hcp hnp g0 g1 g2 g3 g4 g5 g6 g7 m0 m1 m2 m3 m4 m5 m6 m7
          first
            | (obtain ⟨W4, hW4⟩ : ∃ W4, W4 = ((W3.setCell ⟨r2, 1, none⟩ (.int .i64 f)).setCell ⟨r2, 2, none⟩ (.int .i64 t)).drew := ⟨_, rfl⟩; rw [← hW4]; have HX4 := Lib.hid (show Nx w r W4 by rw [hW4]; exact HO1.out.1); have HB4 := Lib.hid (show W4.heap[r2]? = some (.cells #[.int .i64 kk, .int .i64 f, .int .i64 t, .int .i64 vk, .int .i64 vn, .string vs, .slice none 0 0, .string s] 45 (0, 0)) by rw [hW4]; exact HO1.out.2))
            | (obtain ⟨W4, hW4⟩ : ∃ W4, W4 = ((W3.setCell ⟨r2, 2, none⟩ (.int .i64 t)).setCell ⟨r2, 1, none⟩ (.int .i64 f)).drew := ⟨_, rfl⟩; rw [← hW4]; have HX4 := Lib.hid (show Nx w r W4 by rw [hW4]; exact HO2.out.1); have HB4 := Lib.hid (show W4.heap[r2]? = some (.cells #[.int .i64 kk, .int .i64 f, .int .i64 t, .int .i64 vk, .int .i64 vn, .string vs, .slice none 0 0, .string s] 45 (0, 0)) by rw [hW4]; exact HO2.out.2))
          clear hW4
          obtain ⟨⟨g0, g1, g2, g3, g4, g5, g6, g7⟩, m0, m1, m2, m3, m4, m5, m6, m7⟩ := cells8 HB4.out
          obtain ⟨⟨k0, k1, k2, k3, k4, k5, k6, k7⟩, f0, f1, f2, f3, f4, f5, f6, f7⟩ := cells8 HX4.out.blk
          go_wp2
          refine bodyPost_ret (results_val rfl _ _ _ 45 _ (0, 0) _ rfl (set8 HX4.out.blk _ _ _ _ _ _ _ _) Tryz.underlying45 rfl infoTok _ rfl) rfl ?_
          have e1 := HKK.out
          have e2 := HVK.out
          have e3 := HVN.out
          have e4 := HVS.out
          have e5 := HSS.out
          subst e1 e2 e3 e4 e5
          exact HX4.out.fin HVV.out _ _ _ _ _ _ _ _
      · have HVV := Lib.hid (show V = ({ kind := 0 }, (f : Int), (f : Int), er) by rw [HV.out, HE.out, if_neg h0])
        have e1 : (er == 0) = false := by rw [beq_eq_false_iff_ne]; exact h0
        have e2 : (er != 0) = true := by simp only [bne, e1, Bool.not_false]
        clear h0
        obtain ⟨⟨k0, k1, k2, k3, k4, k5, k6, k7⟩, f0, f1, f2, f3, f4, f5, f6, f7⟩ := cells8 HT3.out.blk
        unfold tokC at *
        go_wp2
        refine bodyPost_ret (results_val rfl _ _ _ 45 _ (0, 0) _ rfl (set8 HT3.out.blk _ _ _ _ _ _ _ _) Tryz.underlying45 rfl infoTok _ rfl) rfl ?_
        exact HT3.out.fin HVV.out _ _ _ _ _ _ _ _
end Go.Proofs.YtnkodejgiabamaaGreat
/-
  Walks of layer 12: small functions.
-/
namespace Go.Proofs.YtnkodejgiabamaaGreat
open Go.RowKit

theorem more_any (e : Int) (w : World) : Calls Tryz.prog 74 #[.int .i64 e] w fun x w' => x = .returned (.int .i64 (moreV e)) ∧ w = w' := by
  unfold moreV
  by_cases h : e = 6
  · subst h
    go_enter Tryz.func74, Tryz.ntmps74
    go_wp2
    go_ret
    exact ⟨rfl, rfl⟩
  · have hd : (e == 6) = false := by rw [beq_eq_false_iff_ne]; exact h
    rw [if_neg h]
    clear h
    go_enter Tryz.func74, Tryz.ntmps74
    go_wp2
    go_ret
    exact ⟨rfl, rfl⟩
theorem infoPV : (Tryz.prog.info? 26).map (·.size) = some 4 := by kernel_rfl

set_option maxHeartbeats 2000000 in
theorem whole_tk (x : Tk) (f t : Int) (w : World) : Calls Tryz.prog 17 #[.agg (tokN x f t)] w fun e w' => e = .returned (.bool (wholeV x)) ∧ Below w.heap.size w w' := by
  unfold tokN wholeV
  generalize x.kind = a0 at *
  generalize x.vk = a1 at *
  generalize x.vn = a2 at *
  generalize mkB x.vs = s1 at *
  generalize mkB x.s = s2 at *
  cases h0 : (a0 == 1)
  · go_enter Tryz.func17, Tryz.ntmps17
    go_wp2
    go_ret
    exact ⟨rfl, belowA w _⟩
  · go_enter Tryz.func17, Tryz.ntmps17
    go_wp2
    go_ret
    exact ⟨rfl, belowA w _⟩

def wordE (s : List UInt8) : PV × Int := match wordV s with | none => (PV.none, 11) | some v => (v, 0)
theorem eq_mkB (a b : List UInt8) : ((mkB a).toList == b) = decide (a = b) := by
  have : (mkB a).toList = a := by unfold mkB; exact ByteArray.toList_eq _
  rw [this]; by_cases h : a = b <;> simp [h]

set_option maxHeartbeats 2000000 in
theorem pword_any (s : List UInt8) (w : World) : Calls Tryz.prog 54 #[.string (mkB s)] w fun e w' => e = .returned (.tuple #[pvA (wordE s).1 (.slice none 0 0), .int .i64 (wordE s).2]) ∧ Below w.heap.size w w' := by
  have h1 := eq_mkB s [116, 114, 117, 101]
  have h2 := eq_mkB s [102, 97, 108, 115, 101]
  have h3 := eq_mkB s [110, 117, 108, 108]
  unfold wordE wordV pvA
  by_cases g1 : s = [116, 114, 117, 101]
  · rw [if_pos g1]
    rw [decide_eq_true g1] at h1
    clear g1 h2 h3
    go_enter Tryz.func54, Tryz.ntmps54
    go_wp2
    refine bodyPost_ret (results_val rfl _ _ w.heap.size 26 _ (0, 0) _ rfl (heapA_new _ rfl) Tryz.underlying26 rfl (by exact infoPV) _ rfl) rfl ?_
    exact ⟨rfl, belowA _ _⟩
  rw [if_neg g1]
  rw [decide_eq_false g1] at h1
  by_cases g2 : s = [102, 97, 108, 115, 101]
  · rw [if_pos g2]
    rw [decide_eq_true g2] at h2
    clear g1 g2 h3
    go_enter Tryz.func54, Tryz.ntmps54
    go_wp2
    refine bodyPost_ret (results_val rfl _ _ w.heap.size 26 _ (0, 0) _ rfl (heapA_new _ rfl) Tryz.underlying26 rfl (by exact infoPV) _ rfl) rfl ?_
    exact ⟨rfl, belowA _ _⟩
  rw [if_neg g2]
  rw [decide_eq_false g2] at h2
  by_cases g3 : s = [110, 117, 108, 108]
  · rw [if_pos g3]
    rw [decide_eq_true g3] at h3
    clear g1 g2 g3
    go_enter Tryz.func54, Tryz.ntmps54
    go_wp2
    refine bodyPost_ret (results_val rfl _ _ w.heap.size 26 _ (0, 0) _ rfl (heapA_new _ rfl) Tryz.underlying26 rfl (by exact infoPV) _ rfl) rfl ?_
    exact ⟨rfl, belowA _ _⟩
  · rw [if_neg g3]
    rw [decide_eq_false g3] at h3
    clear g1 g2 g3
    go_enter Tryz.func54, Tryz.ntmps54
    go_wp2
    refine bodyPost_ret (results_val rfl _ _ w.heap.size 26 _ (0, 0) _ rfl (heapA_new _ rfl) Tryz.underlying26 rfl (by exact infoPV) _ rfl) rfl ?_
    exact ⟨rfl, belowA _ _⟩
end Go.Proofs.YtnkodejgiabamaaGreat
/-
  Walks of layer 10: the document's Skip.
-/
namespace Go.Proofs.YtnkodejgiabamaaGreat
open Go.RowKit

theorem skN_pc {bs : List UInt8} {j : Nat} (h : j < bs.length) (hc : bs.getD j 0 = 37) : skN bs false j = skN bs true j := by
  rw [skN_go (b' := true) h (by rw [hc]; simp [skipN]), skN_go (b := true) (b' := true) h (by rw [hc]; simp [skipN])]
theorem skN_nl {bs : List UInt8} {j : Nat} (h : j < bs.length) (hc : bs.getD j 0 = 10 ∨ bs.getD j 0 = 13) : skN bs true j = skN bs false j := by
  have hl : ∀ l, skipN true (bs.getD j 0 :: l) = 1 + skipN false l := fun l => by
    rcases hc with hc | hc <;> (rw [hc]; simp [skipN])
  have h2 : ∀ l, skipN false (bs.getD j 0 :: l) = 1 + skipN false l := fun l => by
    rcases hc with hc | hc <;> (rw [hc]; simp [skipN, isSp])
  rw [skN_go (b' := false) h (hl _), skN_go (b := false) (b' := false) h (h2 _)]
theorem skN_on {bs : List UInt8} {j : Nat} (h : j < bs.length) (h1 : bs.getD j 0 ≠ 10) (h2 : bs.getD j 0 ≠ 13) : skN bs true j = skN bs true (j + 1) :=
  skN_go h (by rw [skipN, show (bs.getD j 0 != 10 && bs.getD j 0 != 13) = true by rw [Bool.and_eq_true, bne_iff_ne, bne_iff_ne]; exact ⟨h1, h2⟩])

set_option maxRecDepth 8000 in
set_option maxHeartbeats 4000000 in
theorem rskip_any {w : World} {a : Option Addr} {cap : Nat} {bs : List UInt8} (hr : Row w 1 a bs.length cap (bs.map u8C)) (hn : bs.length ≤ 100000) (k : Int) :
    Calls Tryz.prog 27 #[.slice a bs.length cap, .int .i64 k] w fun e w' => e = .returned (.int .i64 (skipV bs k : Nat)) ∧ w = w' := by
  obtain ⟨V, hV⟩ : ∃ V, V = skipV bs k := ⟨_, rfl⟩
  rw [← hV]
  by_cases hk : k < 0
  · have HV := Lib.hid (show V = 0 by rw [hV]; unfold skipV; rw [if_pos hk])
    have hkd : decide (k < 0) = true := decide_eq_true hk
    clear hV hr
    go_enter Tryz.func27, Tryz.ntmps27
    go_wp2
    go_ret
    exact ⟨by rw [HV.out]; rfl, rfl⟩
  · have hv := hV.trans (skipV_skN (by omega))
    obtain ⟨j0, hj0⟩ : ∃ j : Nat, k = j := ⟨k.toNat, by omega⟩
    subst hj0
    rw [Int.toNat_natCast] at hv
    have HV := Lib.hid hv
    have hkd : decide ((j0 : Int) < 0) = false := decide_eq_false (by omega)
    have HC := Lib.hid (fun j (hj : j < bs.length) => hr.at 0 j hj)
    clear hV hr hv hk
    go_enter Tryz.func27, Tryz.ntmps27
    go_wp2
    go_loop [1] (fun i => ∃ j : Nat, i = .int .i64 j ∧ Hid (V = skN bs false j))
      (fun i => bs.length - (intOf i).toNat)
    case atStart => exact ⟨j0, rfl, HV⟩
    case round =>
      obtain ⟨j, rfl, HJ⟩ := hrel
      by_cases hj : j < bs.length
      · obtain ⟨b0, off, ha, -, hc⟩ := HC.out j hj
        have hcj := hc j hj
        have HCC := Lib.hid hc
        unfold u8C at hcj
        have hji : decide ((j : Int) < bs.length) = true := by simp; exact hj
        have hjd : decide (j < bs.length) = true := decide_eq_true hj
        have hjm : j ≤ 99999 := by omega
        have HSP := Lib.hid (fun W => rspace_any (bs.getD j 0).toNat W)
        rw [← spI_eq] at HSP
        have HG := Lib.hid (fun b b' => @skN_go bs b b' j hj)
        have HST := Lib.hid (fun h1 h2 => @skN_stop bs j hj h1 h2)
        have HPC := Lib.hid (fun h => @skN_pc bs j hj h)
        have HM := Lib.hid (show bs.length - (j + 1) < bs.length - j by omega)
        have HN := Lib.hid hn
        have HJJ := Lib.hid hj
        obtain ⟨c, hcc⟩ : ∃ c, bs.getD j 0 = c := ⟨_, rfl⟩
        rw [hcc] at hcj HSP HG HST HPC
        have HCJ := Lib.hid hcc
        subst ha
        clear hc HC hn hkd hcc
        obtain ⟨sp, hsp⟩ : ∃ sp, isSp c = sp := ⟨_, rfl⟩
        rw [hsp] at HSP
        have HS := Lib.hid hsp
        clear hsp
        cases sp
        · by_cases h37 : c = 37
          · have hx : c.toNat = 37 := by rw [h37]; rfl
            have HV2 := Lib.hid (HJ.out.trans (HPC.out h37))
            rw [hx] at hcj HSP
            have H37 := Lib.hid h37
            clear hx h37
            go_wp2_with (go_at_call 48; refine (HSP.out _).mono ?_; rintro e w' ⟨rfl, rfl⟩)
            clear hcj hj hji hjd hjm
            go_loop [1] (fun i => ∃ m : Nat, i = .int .i64 m ∧ Hid (j ≤ m) ∧ Hid (V = skN bs true m))
              (fun i => bs.length - (intOf i).toNat)
            case atStart => exact ⟨j, rfl, Lib.hid (Nat.le_refl _), HV2⟩
            case round =>
              obtain ⟨m, rfl, HJM, HMM⟩ := hrel
              by_cases hm : m < bs.length
              · have hcm := HCC.out m hm
                unfold u8C at hcm
                have hmi : decide ((m : Int) < bs.length) = true := by simp; exact hm
                have hmd : decide (m < bs.length) = true := decide_eq_true hm
                have hmm : m ≤ 99999 := by have := HN.out; omega
                have HME := Lib.hid (show bs.length - (m + 1) < bs.length - m by omega)
                by_cases hnl : bs.getD m 0 = 10 ∨ bs.getD m 0 = 13
                · have HV3 := Lib.hid (HMM.out.trans (skN_nl hm hnl))
                  have HJM2 := Lib.hid (show bs.length - m < bs.length - j by
                    have h1 := HJM.out
                    have h2 := HJJ.out
                    have h3 : m ≠ j := fun e => by
                      rw [e, HCJ.out, H37.out] at hnl
                      rcases hnl with h | h <;> exact absurd h (by decide)
                    omega)
                  obtain ⟨x, hx⟩ : ∃ x, (bs.getD m 0).toNat = x := ⟨_, rfl⟩
                  rw [hx] at hcm
                  have hxx : x = 10 ∨ x = 13 := by rw [← hx]; rcases hnl with h | h <;> (rw [h]; decide)
                  clear hx hnl
                  rcases hxx with rfl | rfl
                  all_goals
                    go_wp2
                    go_round
                    case rel => exact ⟨m, rfl, HV3⟩
                    case measure => simpa [intOf] using HJM2.out
                · have HV3 := Lib.hid (HMM.out.trans (skN_on hm (fun e => hnl (.inl e)) (fun e => hnl (.inr e))))
                  have HJM2 := Lib.hid (show j ≤ m + 1 from Nat.le_succ_of_le HJM.out)
                  have e1 : (((bs.getD m 0).toNat : Int) == 10) = false := by rw [beq_eq_false_iff_ne]; exact fun e => hnl (.inl (UInt8.toNat_inj.1 (Int.ofNat_inj.1 e)))
                  have e2 : (((bs.getD m 0).toNat : Int) == 13) = false := by rw [beq_eq_false_iff_ne]; exact fun e => hnl (.inr (UInt8.toNat_inj.1 (Int.ofNat_inj.1 e)))
                  generalize (bs.getD m 0).toNat = x at *
                  have e3 : ((x : Int) != 10) = true := by simp only [bne, e1, Bool.not_false]
                  have e4 : ((x : Int) != 13) = true := by simp only [bne, e2, Bool.not_false]
                  clear hnl
                  go_wp2
                  go_round
                  case rel => exact ⟨m + 1, by go_num, HJM2, HV3⟩
                  case measure => simpa [intOf] using HME.out
              · have hmi : decide ((m : Int) < bs.length) = false := decide_eq_false (by omega)
                have hmd : decide (m < bs.length) = false := decide_eq_false hm
                have HV3 := Lib.hid (HMM.out.trans ((skN_end (b := true) (by omega)).trans (skN_end (b := false) (Nat.le_of_not_lt hm)).symm))
                have HJM2 := Lib.hid (show bs.length - m < bs.length - j by have := HJJ.out; omega)
                clear hm
                go_wp2
                go_round
                case rel => exact ⟨m, rfl, HV3⟩
                case measure => simpa [intOf] using HJM2.out
          · have hx : ((c.toNat : Int) == 37) = false := by rw [beq_eq_false_iff_ne]; exact fun e => h37 (UInt8.toNat_inj.1 (Int.ofNat_inj.1 e))
            have hx2 : ((c.toNat : Int) != 37) = true := by simp only [bne, hx, Bool.not_false]
            have HV2 := Lib.hid (HJ.out.trans (HST.out h37 HS.out))
            clear h37
            generalize c.toNat = x at *
            go_wp2_with (go_at_call 48; refine (HSP.out _).mono ?_; rintro e w' ⟨rfl, rfl⟩)
            go_ret
            exact ⟨by rw [HV2.out]; rfl, rfl⟩
        · have h37 : c ≠ 37 := fun e => by have := HS.out; rw [e] at this; exact absurd this (by decide)
          have HV2 := Lib.hid (HJ.out.trans (HG.out false false (by rw [skipN, if_neg h37, if_pos HS.out])))
          clear h37
          generalize c.toNat = x at *
          go_wp2_with (go_at_call 48; refine (HSP.out _).mono ?_; rintro e w' ⟨rfl, rfl⟩)
          go_round
          case rel => exact ⟨j + 1, by go_num, HV2⟩
          case measure => simpa [intOf] using HM.out
      · have hji : decide ((j : Int) < bs.length) = false := decide_eq_false (by omega)
        have HV2 := Lib.hid (HJ.out.trans (skN_end (by omega)))
        have hjd : decide (j < bs.length) = false := decide_eq_false hj
        clear hj HC
        go_wp2
        go_ret
        exact ⟨by rw [HV2.out]; rfl, rfl⟩
end Go.Proofs.YtnkodejgiabamaaGreat
/-
  Walks of layer 10's reference: what stands behind a backslash.
-/
namespace Go.Proofs.YtnkodejgiabamaaGreat
open Go.RowKit

theorem results_tmp4 {fn : Func} {t u v x : Tmp} (h : fn.results = #[.tmp t, .tmp u, .tmp v, .tmp x]) (tmps : Array Value) (P : Program) (w : World) :
    (results fn tmps).run P w = .ok (.tuple #[tmps.getD t undef, tmps.getD u undef, tmps.getD v undef, tmps.getD x undef]) w := by
  simp [results, h]

/-- What the document's escape returns. -/
def escR (last : Bool) (k : Nat) : Option (List UInt8 × Nat) → Value
  | none => .tuple #[.int .u8 0, .int .i64 0, .bool false, .int .i64 (openE last)]
  | some ([], m) => .tuple #[.int .u8 0, .int .i64 ((k + m : Nat) : Int), .bool false, .int .i64 0]
  | some (c :: _, m) => .tuple #[.int .u8 c.toNat, .int .i64 ((k + m : Nat) : Int), .bool true, .int .i64 0]
def EscREnd (last : Bool) (k : Nat) (V : Option (List UInt8 × Nat)) (w : World) (e : Ending) (w' : World) : Prop := e = .returned (escR last k V) ∧ w = w'
theorem escR_byte {last : Bool} {k : Nat} {V : Option (List UInt8 × Nat)} {N j : Nat} {n : Int} (hV : V = some ([UInt8.ofNat N], j)) (hn : n = ((k + j : Nat) : Int)) (w : World) :
    EscREnd last k V w (.returned (.tuple #[.int .u8 ((N : Int) % 256), .int .i64 n, .bool true, .int .i64 0])) w := by
  subst hV; subst hn
  refine ⟨?_, rfl⟩
  rw [show (N : Int) % 256 = ((UInt8.ofNat N).toNat : Int) by rw [UInt8.toNat_ofNat']; omega]; rfl
theorem escR_none {last : Bool} {k : Nat} {V : Option (List UInt8 × Nat)} {er : Int} (hV : V = none) (he : openE last = er) (w : World) :
    EscREnd last k V w (.returned (.tuple #[.int .u8 0, .int .i64 0, .bool false, .int .i64 er])) w := by
  subst hV; subst he; exact ⟨rfl, rfl⟩
theorem escR_gone {last : Bool} {k : Nat} {V : Option (List UInt8 × Nat)} {j : Nat} {n : Int} (hV : V = some ([], j)) (hn : n = ((k + j : Nat) : Int)) (w : World) :
    EscREnd last k V w (.returned (.tuple #[.int .u8 0, .int .i64 n, .bool false, .int .i64 0])) w := by
  subst hV; subst hn; exact ⟨rfl, rfl⟩
theorem escR_one {last : Bool} {k : Nat} {V : Option (List UInt8 × Nat)} {c : UInt8} {x n : Int} (hV : V = some ([c], 1)) (hx : x = c.toNat) (hn : n = ((k + 1 : Nat) : Int)) (w : World) :
    EscREnd last k V w (.returned (.tuple #[.int .u8 x, .int .i64 n, .bool true, .int .i64 0])) w := by
  subst hV; subst hx; subst hn; exact ⟨rfl, rfl⟩
theorem u8_ne {c d : UInt8} (h : c ≠ d) (n : Int) (hn : n = (d.toNat : Int)) : ((c.toNat : Int) == n) = false := by
  rw [beq_eq_false_iff_ne]; subst hn; exact fun e => h (UInt8.toNat_inj.1 (Int.ofNat_inj.1 e))

set_option maxRecDepth 8000 in
set_option maxHeartbeats 8000000 in
theorem rescape_lit {w : World} {b off cap : Nat} {n : Nat} (k : Nat) (last : Bool) (hk : k < n) (hn : n ≤ 100000) (x y : UInt8) (V : Option (List UInt8 × Nat))
    (hc : w.cell? ⟨b, off + k, none⟩ = some (.int .u8 x.toNat)) (hV : V = some ([y], 1))
    (hx : (x = 110 ∧ y = 10) ∨ (x = 114 ∧ y = 13) ∨ (x = 116 ∧ y = 9) ∨ (x = 98 ∧ y = 8) ∨ (x = 102 ∧ y = 12)) :
    Calls Tryz.prog 51 #[.slice (some ⟨b, off, none⟩) n cap, .int .i64 k, .bool last] w (EscREnd last k V w) := by
  have HV := Lib.hid hV
  have hkd : decide ((n : Int) ≤ k) = false := decide_eq_false (by omega)
  have hkn : decide (n ≤ k) = false := decide_eq_false (by omega)
  have hki : (k : Int) < n := by omega
  clear hV
  rcases hx with ⟨rfl, rfl⟩ | ⟨rfl, rfl⟩ | ⟨rfl, rfl⟩ | ⟨rfl, rfl⟩ | ⟨rfl, rfl⟩
  · rw [show ((110 : UInt8).toNat : Int) = 110 from rfl] at hc
    go_enter Tryz.func51, Tryz.ntmps51
    go_wp2
    (try simp only [Exit.inBlock, Exit.then]); refine bodyPost_ret (results_tmp4 rfl _ _ _) rfl ?_
    exact escR_one HV.out rfl rfl _
  · rw [show ((114 : UInt8).toNat : Int) = 114 from rfl] at hc
    go_enter Tryz.func51, Tryz.ntmps51
    go_wp2
    (try simp only [Exit.inBlock, Exit.then]); refine bodyPost_ret (results_tmp4 rfl _ _ _) rfl ?_
    exact escR_one HV.out rfl rfl _
  · rw [show ((116 : UInt8).toNat : Int) = 116 from rfl] at hc
    go_enter Tryz.func51, Tryz.ntmps51
    go_wp2
    (try simp only [Exit.inBlock, Exit.then]); refine bodyPost_ret (results_tmp4 rfl _ _ _) rfl ?_
    exact escR_one HV.out rfl rfl _
  · rw [show ((98 : UInt8).toNat : Int) = 98 from rfl] at hc
    go_enter Tryz.func51, Tryz.ntmps51
    go_wp2
    (try simp only [Exit.inBlock, Exit.then]); refine bodyPost_ret (results_tmp4 rfl _ _ _) rfl ?_
    exact escR_one HV.out rfl rfl _
  · rw [show ((102 : UInt8).toNat : Int) = 102 from rfl] at hc
    go_enter Tryz.func51, Tryz.ntmps51
    go_wp2
    (try simp only [Exit.inBlock, Exit.then]); refine bodyPost_ret (results_tmp4 rfl _ _ _) rfl ?_
    exact escR_one HV.out rfl rfl _

set_option maxRecDepth 8000 in
set_option maxHeartbeats 8000000 in
theorem rescape_any {w : World} {a : Option Addr} {cap : Nat} {bs : List UInt8} (hr : Row w 1 a bs.length cap (bs.map u8C)) (hn : bs.length ≤ 100000) (k : Nat) (last : Bool) :
    Calls Tryz.prog 51 #[.slice a bs.length cap, .int .i64 k, .bool last] w (EscREnd last k (escV last (bs.drop k)) w) := by
  obtain ⟨V, hV⟩ : ∃ V, V = escV last (bs.drop k) := ⟨_, rfl⟩
  rw [← hV]
  by_cases hk : k < bs.length
  case neg =>
    rw [drop_nil hk] at hV
    have HV := Lib.hid (show V = none from hV)
    have hkd : decide ((bs.length : Int) ≤ k) = true := decide_eq_true (by omega)
    have hkn : decide (bs.length ≤ k) = true := decide_eq_true (by omega)
    clear hV hr hk
    go_enter Tryz.func51, Tryz.ntmps51
    go_wp2_with (go_at_call 50; refine (rcut_any _ _).mono ?_; rintro e w' ⟨rfl, rfl⟩)
    (try simp only [Exit.inBlock, Exit.then]); refine bodyPost_ret (results_tmp4 rfl _ _ _) rfl ?_
    exact escR_none HV.out rfl _
  obtain ⟨b, off, rfl, -, hc⟩ := hr.at 0 k hk
  unfold u8C at hc
  have hck := hc k hk
  rw [drop_cons hk] at hV
  obtain ⟨c, hcc⟩ : ∃ c, bs.getD k 0 = c := ⟨_, rfl⟩
  rw [hcc] at hck hV
  by_cases hl : c = 110 ∨ c = 114 ∨ c = 116 ∨ c = 98 ∨ c = 102
  · rcases hl with rfl | rfl | rfl | rfl | rfl
    · exact rescape_lit k last hk hn 110 10 V hck (hV.trans rfl) (by simp)
    · exact rescape_lit k last hk hn 114 13 V hck (hV.trans rfl) (by simp)
    · exact rescape_lit k last hk hn 116 9 V hck (hV.trans rfl) (by simp)
    · exact rescape_lit k last hk hn 98 8 V hck (hV.trans rfl) (by simp)
    · exact rescape_lit k last hk hn 102 12 V hck (hV.trans rfl) (by simp)
  have n1 : c ≠ 110 := fun e => hl (by simp [e])
  have n2 : c ≠ 114 := fun e => hl (by simp [e])
  have n3 : c ≠ 116 := fun e => hl (by simp [e])
  have n4 : c ≠ 98 := fun e => hl (by simp [e])
  have n5 : c ≠ 102 := fun e => hl (by simp [e])
  rw [escV_far _ _ _ n1 n2 n3 n4 n5] at hV
  have e1 := u8_ne n1 110 rfl
  have e2 := u8_ne n2 114 rfl
  have e3 := u8_ne n3 116 rfl
  have e4 := u8_ne n4 98 rfl
  have e5 := u8_ne n5 102 rfl
  have hkd : decide ((bs.length : Int) ≤ k) = false := decide_eq_false (by omega)
  have hkn : decide (bs.length ≤ k) = false := decide_eq_false (by omega)
  have hki : (k : Int) < bs.length := by omega
  have hk1 : k ≤ 99999 := by omega
  have hk2 : (k : Int) ≤ 99999 := by omega
  clear hl n1 n2 n3 n4 n5 hr
  by_cases hoc : isOc c = true
  · rw [if_pos hoc, octV_go, Option.map_map] at hV
    have hoc2 := isOc_iff.1 hoc
    have e6 : ((c.toNat : Int) == 10) = false := by rw [beq_eq_false_iff_ne]; omega
    have e7 : ((c.toNat : Int) == 13) = false := by rw [beq_eq_false_iff_ne]; omega
    have d1 : decide ((c.toNat : Int) < 48) = false := decide_eq_false (by omega)
    have d2 : decide ((55 : Int) < c.toNat) = false := decide_eq_false (by omega)
    have HG := Lib.hid (show V = (octGo last 3 0 (bs.drop (k + 0))).map fun x => ([UInt8.ofNat x.1], 0 + x.2) by
      rw [hV, show bs.drop (k + 0) = c :: bs.drop (k + 1) by rw [Nat.add_zero, drop_cons hk, hcc], octGo, if_pos hoc, Option.map_map]
      congr 1
      · funext x; simp [Function.comp]
      · rw [show 8 * 0 + (c.toNat - 48) = c.toNat - 48 from by omega])
    have HC := Lib.hid hc
    clear hV hoc hoc2 hcc hc
    generalize c.toNat = x at *
    go_enter Tryz.func51, Tryz.ntmps51
    go_wp2
    clear hck e1 e2 e3 e4 e5 e6 e7 d1 d2 hkd
    go_loop [11, 12] (fun n i => ∃ (j N : Nat), j ≤ 3 ∧ n = .int .i64 N ∧ i = .int .i64 j ∧ N + 1 ≤ 8 ^ j ∧ Hid (V = (octGo last (3 - j) N (bs.drop (k + j))).map fun x => ([UInt8.ofNat x.1], j + x.2))) (fun _ i => 3 - (intOf i).toNat)
    case atStart => exact ⟨0, 0, by omega, by go_num, by go_num, by omega, HG⟩
    case round =>
      obtain ⟨j, N, hj, rfl, rfl, hN, HJ⟩ := hrel
      have hN5 : N ≤ 511 := by
        have : j = 0 ∨ j = 1 ∨ j = 2 ∨ j = 3 := by omega
        rcases this with rfl | rfl | rfl | rfl <;> omega
      by_cases hj3 : j < 3
      · have hjd : decide ((j : Int) < 3) = true := decide_eq_true (by omega)
        obtain ⟨m, hm⟩ : ∃ m, 3 - j = m + 1 := ⟨2 - j, by omega⟩
        have hg := HJ.out
        rw [hm] at hg
        by_cases hin : k + j < bs.length
        · have hcj := HC.out (k + j) hin
          rw [drop_cons hin, octGo] at hg
          have hid1 : decide ((k : Int) + j < bs.length) = true := decide_eq_true (by omega)
          have hii : (k : Int) + j < bs.length := by omega
          have hge : decide ((bs.length : Int) ≤ (k : Int) + j) = false := decide_eq_false (by omega)
          by_cases hd : isOc (bs.getD (k + j) 0) = true
          · have hd2 := isOc_iff.1 hd
            rw [if_pos hd, Option.map_map] at hg
            have d1 : decide ((48 : Int) ≤ (bs.getD (k + j) 0).toNat) = true := decide_eq_true (by omega)
            have d2 : decide (((bs.getD (k + j) 0).toNat : Int) ≤ 55) = true := decide_eq_true (by omega)
            have HG2 := Lib.hid (show V = (octGo last (3 - (j + 1)) (8 * N + ((bs.getD (k + j) 0).toNat - 48)) (bs.drop (k + (j + 1)))).map fun x => ([UInt8.ofNat x.1], (j + 1) + x.2) by
              rw [hg, show 3 - (j + 1) = m from by omega]
              congr 1
              funext x
              simp only [Function.comp]
              rw [show j + (x.2 + 1) = j + 1 + x.2 from by omega])
            have HB := Lib.hid (show 8 * N + ((bs.getD (k + j) 0).toNat - 48) + 1 ≤ 8 ^ (j + 1) by rw [Nat.pow_succ]; omega)
            have HE := Lib.hid (show 8 * (N : Int) + ((bs.getD (k + j) 0).toNat : Int) - 48 = ((8 * N + ((bs.getD (k + j) 0).toNat - 48) : Nat) : Int) by omega)
            have HJ3 := Lib.hid hj3
            clear hg hm hd HJ
            generalize (bs.getD (k + j) 0).toNat = y at *
            go_wp2
            go_round
            case rel => exact ⟨j + 1, 8 * N + (y - 48), HJ3.out, by rw [← HE.out], by go_num, HB.out, HG2⟩
            case measure => have := HJ3.out; simp [intOf]; omega
          · rw [if_neg hd, Option.map_some] at hg
            have HG2 := Lib.hid (show V = some ([UInt8.ofNat N], j) from hg)
            have hd2 : ¬ (48 ≤ (bs.getD (k + j) 0).toNat ∧ (bs.getD (k + j) 0).toNat ≤ 55) := fun e => hd (isOc_iff.2 e)
            clear hg hm hd HJ
            generalize (bs.getD (k + j) 0).toNat = y at *
            by_cases hy : (48 : Int) ≤ y
            · have d1 : decide ((48 : Int) ≤ y) = true := decide_eq_true hy
              have d2 : decide ((y : Int) ≤ 55) = false := decide_eq_false (by omega)
              clear hd2
              go_wp2
              (try simp only [Exit.inBlock, Exit.then]); refine bodyPost_ret (results_tmp4 rfl _ _ _) rfl ?_
              exact escR_byte HG2.out rfl _
            · have d1 : decide ((48 : Int) ≤ y) = false := decide_eq_false hy
              clear hd2 hy
              go_wp2
              (try simp only [Exit.inBlock, Exit.then]); refine bodyPost_ret (results_tmp4 rfl _ _ _) rfl ?_
              exact escR_byte HG2.out rfl _
        · rw [drop_nil hin, octGo] at hg
          have hid1 : decide ((k : Int) + j < bs.length) = false := decide_eq_false (by omega)
          have hge : decide ((bs.length : Int) ≤ (k : Int) + j) = true := decide_eq_true (by omega)
          have HG2 := Lib.hid hg
          clear hg hm HJ hin
          cases last
          · go_wp2
            (try simp only [Exit.inBlock, Exit.then]); refine bodyPost_ret (results_tmp4 rfl _ _ _) rfl ?_
            exact escR_none HG2.out rfl _
          · go_wp2
            (try simp only [Exit.inBlock, Exit.then]); refine bodyPost_ret (results_tmp4 rfl _ _ _) rfl ?_
            exact escR_byte HG2.out rfl _
      · obtain rfl : j = 3 := by omega
        have hg := HJ.out
        rw [Nat.sub_self, octGo, Option.map_some] at hg
        have HG2 := Lib.hid (show V = some ([UInt8.ofNat N], 3) from hg)
        clear hg HJ
        go_wp2
        (try simp only [Exit.inBlock, Exit.then]); refine bodyPost_ret (results_tmp4 rfl _ _ _) rfl ?_
        exact escR_byte HG2.out rfl _
  · rw [if_neg hoc] at hV
    by_cases h10 : c = 10
    · subst h10
      have HV := Lib.hid (show V = some ([], 1) from hV)
      clear hV hc hcc hoc
      go_enter Tryz.func51, Tryz.ntmps51
      go_wp2
      (try simp only [Exit.inBlock, Exit.then]); refine bodyPost_ret (results_tmp4 rfl _ _ _) rfl ?_
      exact escR_gone HV.out rfl _
    · rw [if_neg h10] at hV
      have e6 := u8_ne h10 10 rfl
      by_cases h13 : c = 13
      · subst h13
        rw [if_pos rfl] at hV
        by_cases hk3 : k + 1 < bs.length
        · rw [drop_cons hk3] at hV
          have hc1 := hc (k + 1) hk3
          have hid1 : decide ((bs.length : Int) ≤ (k : Int) + 1) = false := decide_eq_false (by omega)
          have hid2 : decide ((k : Int) + 1 < bs.length) = true := decide_eq_true (by omega)
          have hii : (k : Int) + 1 < bs.length := by omega
          clear hc hcc hoc h10
          by_cases hd : bs.getD (k + 1) 0 = 10
          · have HV := Lib.hid (show V = some ([], 2) by rw [hV, hd]; rfl)
            rw [hd] at hc1
            rw [show ((10 : UInt8).toNat : Int) = 10 from rfl] at hc1
            clear hV hd
            go_enter Tryz.func51, Tryz.ntmps51
            go_wp2
            (try simp only [Exit.inBlock, Exit.then]); refine bodyPost_ret (results_tmp4 rfl _ _ _) rfl ?_
            exact escR_gone HV.out rfl _
          · have HV := Lib.hid (show V = some ([], 1) by rw [hV]; show (some (if bs.getD (k + 1) 0 = 10 then 1 else 0)).map _ = _; rw [if_neg hd]; rfl)
            have e8 := u8_ne hd 10 rfl
            clear hV hd
            generalize (bs.getD (k + 1) 0).toNat = y at *
            go_enter Tryz.func51, Tryz.ntmps51
            go_wp2
            (try simp only [Exit.inBlock, Exit.then]); refine bodyPost_ret (results_tmp4 rfl _ _ _) rfl ?_
            exact escR_gone HV.out rfl _
        · rw [drop_nil hk3] at hV
          have hid1 : decide ((bs.length : Int) ≤ (k : Int) + 1) = true := decide_eq_true (by omega)
          have hid2 : decide ((k : Int) + 1 < bs.length) = false := decide_eq_false (by omega)
          have HV := Lib.hid hV
          clear hV hc hcc hoc h10 hk3
          cases last
          · go_enter Tryz.func51, Tryz.ntmps51
            go_wp2
            (try simp only [Exit.inBlock, Exit.then]); refine bodyPost_ret (results_tmp4 rfl _ _ _) rfl ?_
            exact escR_none HV.out rfl _
          · go_enter Tryz.func51, Tryz.ntmps51
            go_wp2
            (try simp only [Exit.inBlock, Exit.then]); refine bodyPost_ret (results_tmp4 rfl _ _ _) rfl ?_
            exact escR_gone HV.out rfl _
      · rw [if_neg h13] at hV
        have e7 := u8_ne h13 13 rfl
        have HV := Lib.hid hV
        have hd2 : ¬ (48 ≤ c.toNat ∧ c.toNat ≤ 55) := fun e => hoc (isOc_iff.2 e)
        clear hV hoc h10 h13 hcc hc
        by_cases hy : (c.toNat : Int) < 48
        · have d1 : decide ((c.toNat : Int) < 48) = true := decide_eq_true hy
          clear hd2 hy
          obtain ⟨x, hx⟩ : ∃ x, x = c.toNat := ⟨_, rfl⟩
          rw [← hx] at hck e1 e2 e3 e4 e5 e6 e7 d1
          have HX := Lib.hid hx
          clear hx
          go_enter Tryz.func51, Tryz.ntmps51
          go_wp2
          (try simp only [Exit.inBlock, Exit.then]); refine bodyPost_ret (results_tmp4 rfl _ _ _) rfl ?_
          exact escR_one HV.out (by rw [HX.out]) rfl _
        · have d1 : decide ((c.toNat : Int) < 48) = false := decide_eq_false hy
          have d2 : decide ((55 : Int) < c.toNat) = true := decide_eq_true (by omega)
          clear hd2 hy
          obtain ⟨x, hx⟩ : ∃ x, x = c.toNat := ⟨_, rfl⟩
          rw [← hx] at hck e1 e2 e3 e4 e5 e6 e7 d1 d2
          have HX := Lib.hid hx
          clear hx
          go_enter Tryz.func51, Tryz.ntmps51
          go_wp2
          (try simp only [Exit.inBlock, Exit.then]); refine bodyPost_ret (results_tmp4 rfl _ _ _) rfl ?_
          exact escR_one HV.out (by rw [HX.out]) rfl _
end Go.Proofs.YtnkodejgiabamaaGreat
