/-
  Our texts Xr5 to SortB, in one.
-/
import Derived.Test.YtamkknailbnhnaaGreatPkR5
import Derived.IntWalk
import Derived.Deep.RegionHeld3
import Derived.Deep.AppendLies
import Derived.PlainAid
import Derived.Deep.DeepCutAuto
import Derived.Test.YtamkknailbnhnaaGreatProg
import Derived.BigQuiet
import Derived.Sort.LotA
import Derived.Sort.Lot0
import Derived.Deep.Draws
set_option maxRecDepth 8000
set_option maxHeartbeats 8000000
namespace Go.Proofs.YtamkknailbnhnaaGreat
open Go.RowKit
theorem grps_err {bs : List UInt8} {last : Bool} {g : Nat} {gs : List Grp} {k : Int} (he : (nxtV bs last k).2.2.2 ≠ 0) : grpsV bs last (g + 1) gs k = ([], 0, (nxtV bs last k).2.2.2) := by
 unfold grpsV; simp only; rw [if_pos he]
theorem grps_trail {bs : List UInt8} {last : Bool} {g : Nat} {gs : List Grp} {k : Int} (he : (nxtV bs last k).2.2.2 = 0) (ht : trailT (nxtV bs last k).1 = true) : grpsV bs last (g + 1) gs k = (gs, (nxtV bs last k).2.2.1, 0) := by
 unfold grpsV; simp only; rw [if_neg (by rw [he]; decide), if_pos ht]
theorem grps_bad {bs : List UInt8} {last : Bool} {g : Nat} {gs : List Grp} {k : Int} (he : (nxtV bs last k).2.2.2 = 0) (ht : trailT (nxtV bs last k).1 = false) (hw : wholeV (nxtV bs last k).1 = false) : grpsV bs last (g + 1) gs k = ([], 0, 20) := by
 unfold grpsV; simp only; rw [if_neg (by rw [he]; decide), if_neg (by rw [ht]; decide), if_pos hw]
theorem grps_full {bs : List UInt8} {last : Bool} {g : Nat} {gs : List Grp} {k : Int} (he : (nxtV bs last k).2.2.2 = 0) (ht : trailT (nxtV bs last k).1 = false) (hw : wholeV (nxtV bs last k).1 = true) (hl : gs.length = 64) :
   grpsV bs last (g + 1) gs k = ([], 0, if (nxtV bs last (nxtV bs last k).2.2.1).2.2.2 ≠ 0 then (nxtV bs last (nxtV bs last k).2.2.1).2.2.2 else 20) := by
 unfold grpsV; simp only
 rw [if_neg (by rw [he]; decide), if_neg (by rw [ht]; decide), if_neg (by rw [hw]; decide)]
 split
 · rfl
 · rw [if_pos (.inr (.inl hl))]
theorem grps_step {bs : List UInt8} {last : Bool} {g : Nat} {gs : List Grp} {k : Int} (he : (nxtV bs last k).2.2.2 = 0) (ht : trailT (nxtV bs last k).1 = false) (hl : gs.length ≠ 64) :
   grpsV bs last (g + 1) gs k = if (grp1 bs last (nxtV bs last k).1 (nxtV bs last k).2.2.1).2.2 ≠ 0 then ([], 0, (grp1 bs last (nxtV bs last k).1 (nxtV bs last k).2.2.1).2.2)
     else grpsV bs last g (gs ++ [(grp1 bs last (nxtV bs last k).1 (nxtV bs last k).2.2.1).1]) (grp1 bs last (nxtV bs last k).1 (nxtV bs last k).2.2.1).2.1 := by
 conv => lhs; unfold grpsV
 simp only
 rw [if_neg (by rw [he]; decide), if_neg (by rw [ht]; decide)]
 unfold grp1
 generalize nxtV bs last (nxtV bs last k).2.2.1 = u
 generalize nxtV bs last k = t
 by_cases hw : wholeV t.1 = false
 · simp [hw]
 rw [if_neg hw, if_neg hw]
 by_cases hu : u.2.2.2 ≠ 0
 · rw [if_pos hu, if_pos hu]
   simp [hu]
 rw [if_neg hu, if_neg hu]
 by_cases hf : wholeV u.1 = false ∨ fitsV t.1.vn u.1.vn = false
 · rw [if_pos (hf.imp id fun h => .inr h), if_pos hf]
   simp
 rw [if_neg (fun h => h.elim (fun a => hf (.inl a)) (fun b => b.elim hl (fun c => hf (.inr c)))), if_neg hf]
 by_cases hq : (entsV bs last u.1.vn.toNat u.2.2.1.toNat []).2.2 ≠ 0
 · rw [if_pos hq, if_pos hq]
   simp [hq]
 · rw [if_neg hq, if_neg hq]
   simp
theorem grp1_le {bs : List UInt8} {last : Bool} {x : Tk} {k : Int} (h0 : 0 ≤ k) (h1 : k ≤ bs.length) : 0 ≤ (grp1 bs last x k).2.1 ∧ (grp1 bs last x k).2.1 ≤ bs.length := by
 have hto := nextV_to (bs := bs) (k := k) last h0 h1
 rw [← nxt_3] at hto
 have hen : ∀ (m a : Nat) (l : List Ent), a ≤ bs.length → (entsV bs last m a l).2.1 ≤ bs.length := by
   intro m
   induction m with
   | zero => intro a l h; exact h
   | succ m ih =>
     intro a l h
     rw [entsV]
     split
     · exact Nat.zero_le _
     · rename_i he
       exact ih _ _ (entV_le h (by simpa using he))
 unfold grp1
 split
 · exact ⟨Int.le_refl _, by show (0 : Int) ≤ _; omega⟩
 split
 · exact ⟨Int.le_refl _, by show (0 : Int) ≤ _; omega⟩
 split
 · exact ⟨Int.le_refl _, by show (0 : Int) ≤ _; omega⟩
 split
 · exact ⟨Int.le_refl _, by show (0 : Int) ≤ _; omega⟩
 · have := hen (nxtV bs last k).1.vn.toNat (nxtV bs last k).2.2.1.toNat [] (by omega)
   exact ⟨by show (0 : Int) ≤ ((_ : Nat) : Int); omega, by show ((_ : Nat) : Int) ≤ _; omega⟩
theorem EGrp : ElemT Tryz.prog 24 42 (.agg #[.int .i64 0, .slice none 0 0]) 2 32 := ⟨Tryz.underlying24, by kernel_rfl, rfl, by omega⟩
theorem trail_iff (x : Tk) : trailT x = (x.kind == 6 && decide (x.s = [116, 114, 97, 105, 108, 101, 114])) := by
 unfold trailT
 congr 1
 by_cases h : x.s = [116, 114, 97, 105, 108, 101, 114] <;> simp [h]
theorem heapA_keep (W : World) (o : Obj) {b : Nat} (hb : b < W.heap.size) : (W.alloc o).heap[b]? = W.heap[b]? := (belowA W o).block b hb
structure GsM (w W : World) (p : Nat) (gs : List Grp) (cs : List Value) (v : Value) : Prop where
 own : W.ownsRow w.heap.size 42 2 v gs.length cs
 hold : IsGs W (fun b => w.heap.size ≤ b ∧ v.ownBlock ≠ some b) gs cs
 kps : Keeps (fun b => b = p) w W
theorem GsM.on {w W W' : World} {p : Nat} {gs : List Grp} {cs : List Value} {v : Value} (h : GsM w W p gs cs v) (hp : p < w.heap.size) (hk : Keeps (fun b => b = p) W W') : GsM w W' p gs cs v :=
 ⟨owns_heap h.own fun b hb => hk.block b (h.own.lt b hb).2 (by have := (h.own.lt b hb).1; omega), h.hold.keep ⟨hk.size, fun b hb hF => hk.block b hb (by have := hF.1; omega)⟩ (fun _ h => h), h.kps.trans hk (fun x hx => .inl hx)⟩
theorem GsM.fin {w W : World} {p : Nat} {gs : List Grp} {cs : List Value} {v : Value} (h : GsM w W p gs cs v) : IsG W (fun b => w.heap.size ≤ b) gs v := by
 obtain ⟨a, cap, e, -, -⟩ := owns_slice h.own
 subst e
 exact ⟨a, cap, cs, rfl, (Row.of_own h.own).2, fun h0 x hx => (h.own.lt x.block (by rw [hx]; rfl)).1, h.hold.keep (Stays.refl _ _) (fun b hb => hb.1)⟩
theorem GsM.app {w W W8 : World} {p : Nat} {o : Obj} {gs : List Grp} {cs : List Value} {v v' : Value} (h : GsM w W p gs cs v) (hg8 : (W.alloc o).grownBy W8 v.ownBlock) {n : Int} {es : List Ent} {sv : Value} {B : Nat} (he : IsE W (fun b => B ≤ b) es sv) (hB : w.heap.size ≤ B) (hv : ∀ b, v.ownBlock = some b → b < B) (_hBW : B ≤ W.heap.size)
   (hO : W8.ownsRow w.heap.size 42 2 v' (gs.length + 1) (cs ++ [.int .i64 n, sv])) (hn : ∀ b, v'.ownBlock = some b → v.ownBlock = some b ∨ (W.alloc o).heap.size ≤ b) : GsM w W8 p (gs ++ [⟨n, es⟩]) (cs ++ [.int .i64 n, sv]) v' := by
 have hst : Stays (fun b => v.ownBlock ≠ some b ∧ b < W.heap.size) W W8 := ⟨by have := hg8.size; rw [sizeA] at this; omega, fun b hb hF => by
   rw [hg8.block b (by rw [sizeA]; omega) (fun e => hF.1 e.symm)]
   exact (heapA_keep W o hb)⟩
 refine ⟨by rw [List.length_append]; exact hO, ?_, (h.kps.alloc o).grown hg8 (fun k hk => .inr (h.own.lt k hk).1)⟩
 have hnew : ∀ b, b < W.heap.size → v.ownBlock ≠ some b → v'.ownBlock ≠ some b := fun b hb hne e => by
   rcases hn b e with h1 | h1
   · exact hne h1
   · rw [sizeA] at h1; omega
 have lt_e : ∀ {es : List Ent} {sv : Value} {F : Nat → Prop}, IsE W F es sv → IsE W (fun b => F b ∧ b < W.heap.size) es sv := fun {es sv F} h => by
   obtain ⟨a, cap, e, hr, hF⟩ := h
   exact ⟨a, cap, e, hr, fun h0 x hx => ⟨hF h0 x hx, hr.lt h0 x hx⟩⟩
 have lt_g : ∀ {gs : List Grp} {cs : List Value} {F : Nat → Prop}, IsGs W F gs cs → IsGs W (fun b => F b ∧ b < W.heap.size) gs cs := fun {gs} => by
   induction gs with
   | nil => exact fun h => h
   | cons g gs ih => exact fun ⟨v, t, e, h1, h2⟩ => ⟨v, t, e, lt_e h1, ih h2⟩
 refine IsGs.snoc ?_ ?_
 · have h2 := (lt_g h.hold)
   have h3 : IsGs W8 (fun b => (w.heap.size ≤ b ∧ v.ownBlock ≠ some b) ∧ b < W.heap.size) gs cs := h2.keep ⟨hst.1, fun b hb hF => hst.2 b hb ⟨hF.1.2, hF.2⟩⟩ (fun _ h => h)
   exact h3.keep (Stays.refl _ _) (fun b hb => ⟨hb.1.1, hnew b hb.2 hb.1.2⟩)
 · have h2 : IsE W (fun b => B ≤ b ∧ b < W.heap.size) es sv := lt_e he
   have hne : ∀ b, B ≤ b → v.ownBlock ≠ some b := fun b hb e => by have := hv b e; omega
   have h3 : IsE W8 (fun b => B ≤ b ∧ b < W.heap.size) es sv := h2.keep ⟨hst.1, fun b hb hF => hst.2 b hb ⟨hne b hF.1, hF.2⟩⟩ (fun _ h => h)
   exact h3.keep (Stays.refl _ _) (fun b hb => ⟨Nat.le_trans hB hb.1, hnew b hb.2 (hne b hb.1)⟩)
section
variable {w0 w : World} {p : Nat} {a : Option Addr} {cap : Nat} {bs : List UInt8} {last : Bool}
def GsEnd (w0 w : World) (p : Nat) (a : Option Addr) (cap : Nat) (bs : List UInt8) (last : Bool) (V : List Grp × Int × Int) (e : Ending) (w' : World) : Prop :=
 ∃ v, e = .returned (.tuple #[v, .int .i64 V.2.2]) ∧ IsG w' (fun b => w.heap.size ≤ b) V.1 v ∧ (∃ at2 : Int, IsRd w0 w' p a cap bs last at2 ∧ (V.2.2 = 0 → at2 = V.2.1)) ∧ Keeps (fun b => b = p) w w'
theorem gs_no {V : List Grp × Int × Int} {W : World} {e : Int} (hV : V = ([], 0, e)) (he : e ≠ 0) (hI : ∃ at2 : Int, IsRd w0 W p a cap bs last at2) (hk : Keeps (fun b => b = p) w W) : GsEnd w0 w p a cap bs last V (.returned (.tuple #[.slice none 0 0, .int .i64 e])) W := by
 subst hV
 obtain ⟨at2, hI⟩ := hI
 exact ⟨_, rfl, IsG.nil _ _, ⟨at2, hI, fun h => absurd h he⟩, hk⟩
def lenV : Value → Nat | .slice _ n _ => n | _ => 0
theorem xgroups_any {k : Int} (h : IsRd w0 w p a cap bs last k) (h0 : 0 ≤ k) (h1 : k ≤ bs.length) : Calls Tryz.prog 45 #[.pointer (some ⟨p, 0, none⟩)] w (GsEnd w0 w p a cap bs last (grpsV bs last 65 [] k)) := by
 have hsm := h.small
 have HPW := Lib.hid (show p < w.heap.size from h.lt)
 obtain ⟨R, hR⟩ : ∃ R, R = grpsV bs last 65 [] k := ⟨_, rfl⟩
 rw [← hR]
 have HRR := Lib.hid hR
 have HR := Lib.hid h
 clear h hR
 go_enter Tryz.func45, Tryz.ntmps45
 go_wp2
 go_loopw [4] (fun v wr => ∃ (gs : List Grp) (k2 : Int) (cs : List Value), gs.length ≤ 64 ∧ 0 ≤ k2 ∧ k2 ≤ bs.length ∧ Hid (IsRd w0 wr p a cap bs last k2) ∧ Hid (GsM w wr p gs cs v) ∧ Hid (R = grpsV bs last (65 - gs.length) gs k2)) (fun v _ => 65 - lenV v)
 case atStart => exact ⟨[], k, [], by simp, h0, h1, HR, Lib.hid ⟨World.ownsRow_nil _ _ _ _, rfl, Keeps.refl _ _⟩, HRR⟩
 case round =>
   obtain ⟨gs, k2, cs, hgl, hk0, hk1, HI, HGM, HQ⟩ := hrel
   obtain ⟨sa, sc, rfl, -, -⟩ := owns_slice HGM.out.own
   have HN := Lib.hid (xnext_any HI.out)
   have hto := nextV_to (bs := bs) (k := k2) last hk0 hk1
   rw [← nxt_3] at hto
   obtain ⟨m, hm⟩ : ∃ m, m + 1 = 65 - gs.length := ⟨64 - gs.length, by omega⟩
   have hQ := HQ.out
   rw [← hm] at hQ
   have HM := Lib.hid hm
   have HQE := Lib.hid (fun he => hQ.trans (grps_err he))
   have HQT := Lib.hid (fun he ht => hQ.trans (grps_trail he ht))
   have HQB := Lib.hid (fun he ht hw => hQ.trans (grps_bad he ht hw))
   have HQF := Lib.hid (fun he ht hw hl => hQ.trans (grps_full he ht hw hl))
   have HQS := Lib.hid (fun he ht hl => hQ.trans (grps_step he ht hl))
   have HN2 := Lib.hid (fun (W : World) (hI : IsRd w0 W p a cap bs last (nxtV bs last k2).2.2.1) => xnext_any hI)
   have HGR := Lib.hid (fun (W : World) (hI : IsRd w0 W p a cap bs last (nxtV bs last k2).2.2.1) => xgroup_any hI (by omega) hto.2 (nxtV bs last k2).1 (nxtV bs last k2).2.1 (nxtV bs last k2).2.2.1)
   have HGL := Lib.hid (grp1_le (bs := bs) (last := last) (x := (nxtV bs last k2).1) (k := (nxtV bs last k2).2.2.1) (by omega) hto.2)
   have HGB := Lib.hid (fun (h : wholeV (nxtV bs last k2).1 = false) => show (grp1 bs last (nxtV bs last k2).1 (nxtV bs last k2).2.2.1).2.2 = 20 by unfold grp1; rw [if_pos h])
   have HTI := Lib.hid (trail_iff (nxtV bs last k2).1)
   have HWX := Lib.hid (fun W => xwhole_tk (nxtV bs last k2).1 (nxtV bs last k2).2.1 (nxtV bs last k2).2.2.1 W)
   have HSQ := Lib.hid (eq_mkB (nxtV bs last k2).1.s [116, 114, 97, 105, 108, 101, 114])
   clear hm hQ HQ
   generalize nxtV bs last k2 = U at *
   obtain ⟨x, f, t, E⟩ := U
   simp only at hto HN HQE HQT HQB HQF HQS HN2 HGR HGL HTI HWX HSQ
   generalize nxtV bs last t = U2 at *
   obtain ⟨y, f2, t2, E2⟩ := U2
   generalize grp1 bs last x t = G at *
   obtain ⟨⟨gn, ge⟩, gk, gr⟩ := G
   unfold GrpEnd at HGR
   simp only at HQF HQS HN2 HGR HGL HGB
   unfold tokN at HN HN2 HWX HGR
   obtain ⟨tr, htr⟩ : ∃ tr, tr = decide (x.s = [116, 114, 97, 105, 108, 101, 114]) := ⟨_, rfl⟩
   rw [← htr] at HTI HSQ
   rw [HTI.out] at HQT HQB HQF HQS
   clear htr HTI
   generalize wholeV x = wx at *
   generalize x.kind = a0 at *
   generalize x.vk = a1 at *
   generalize x.vn = a2 at *
   generalize mkB x.vs = s1 at *
   generalize mkB x.s = s2 at *
   generalize y.kind = b0 at *
   generalize y.vk = b1 at *
   generalize y.vn = b2 at *
   generalize mkB y.vs = q1 at *
   generalize mkB y.s = q2 at *
   go_wp2_with fail
   refine HN.out.mono ?_
   rintro e w3 ⟨rfl, hi3, hk3⟩
   have HT3 := Lib.hid (heapA_new (w := w3) (b := w3.heap.size) (.cells #[.int .i64 a0, .int .i64 f, .int .i64 t, .int .i64 a1, .int .i64 a2, .string s1, .slice none 0 0, .string s2] 152) rfl)
   have HI3 := Lib.hid (hi3.mono (belowA w3 (.cells #[.int .i64 a0, .int .i64 f, .int .i64 t, .int .i64 a1, .int .i64 a2, .string s1, .slice none 0 0, .string s2] 152)))
   have HG3 := Lib.hid ((HGM.out.on HPW.out hk3).on HPW.out (keeps_below (belowA w3 (.cells #[.int .i64 a0, .int .i64 f, .int .i64 t, .int .i64 a1, .int .i64 a2, .string s1, .slice none 0 0, .string s2] 152))))
   have HTP := Lib.hid (show w3.heap.size ≠ p by have := hi3.lt; omega)
   clear hi3 hk3 HN HI HGM
   go_upto_region 3 with fail
   obtain ⟨T, hT⟩ : ∃ T, T = w3.heap.size := ⟨_, rfl⟩
   rw [← hT] at HT3 HTP ⊢
   clear hT
   generalize World.alloc _ _ = W3 at *
   obtain ⟨⟨v0, v1, v2, v3, v4, v5, v6, v7⟩, -⟩ := cells8 HT3.out
   by_cases hE : E = 0
   case neg =>
     have HV3 := Lib.hid (HQE.out hE)
     have e0 : (E == 0) = false := by rw [beq_eq_false_iff_ne]; exact hE
     have e1 : (E != 0) = true := by simp only [bne, e0, Bool.not_false]
     have HE := Lib.hid hE
     clear hE
     go_wp2
     go_ret2
     exact gs_no HV3.out HE.out ⟨_, HI3.out⟩ HG3.out.kps
   subst hE
   rw [if_pos rfl] at HI3
   have hsq := HSQ.out
   obtain ⟨k6, hk6⟩ : ∃ k6, k6 = (a0 == 6) := ⟨_, rfl⟩
   rw [← hk6] at HQT HQB HQF HQS
   have HK6 := Lib.hid hk6
   obtain ⟨tb, htb⟩ : ∃ tb, tb = (k6 && tr) := ⟨_, rfl⟩
   rw [← htb] at HQT HQB HQF HQS
   have HTB := Lib.hid htb
   clear htb hk6
   go_upto_region 5 with fail
   go_cut [27] from 10 to 59 (fun v wx => v = .bool tb ∧ wx = W3)
   case first =>
     clear HQT HQB HQF HQS HN2 HGR HGL HGB
     cases k6
     · have e6 := HK6.out.symm
       obtain rfl : tb = false := HTB.out
       go_wp2_with fail
       go_meet
       exact ⟨rfl, rfl⟩
     · have e6 := HK6.out.symm
       obtain rfl : tb = tr := HTB.out
       go_wp2_with fail
       go_meet
       exact ⟨rfl, rfl⟩
   case rest =>
   obtain ⟨rfl, hw⟩ := hcut
   subst hw
   clear hsq HSQ HK6 HTB
   cases tb
   case true =>
     have HV3 := Lib.hid (HQT.out rfl rfl)
     clear HQT HQB HQF HQS HN2 HGR HGL HGB v0 v1 v2 v3 v4 v5 v6 v7
     go_wp2
     go_ret2
     rw [HV3.out]
     exact ⟨_, rfl, HG3.out.fin, ⟨_, HI3.out, fun _ => rfl⟩, HG3.out.kps⟩
   have HQB2 := Lib.hid (HQB.out rfl rfl)
   have HQF2 := Lib.hid (HQF.out rfl rfl)
   have HQS2 := Lib.hid (HQS.out rfl rfl)
   clear HQT HQB HQF HQS
   obtain ⟨fb, hfb⟩ : ∃ fb, fb = (decide (gs.length = 64) && wx) := ⟨_, rfl⟩
   have HFB := Lib.hid hfb
   clear hfb
   go_upto_region 7 with fail
   go_cut [35] from 10 to 59 (fun v wx => v = .bool fb ∧ Hid (IsRd w0 wx p a cap bs last t) ∧ Hid (GsM w wx p gs cs (.slice sa gs.length sc)) ∧ Hid (wx.heap[T]? = some (.cells #[.int .i64 a0, .int .i64 f, .int .i64 t, .int .i64 a1, .int .i64 a2, .string s1, .slice none 0 0, .string s2] 152 (0, 0))))
   case first =>
     clear HQB2 HQF2 HQS2 HN2 HGR HGL HGB
     by_cases h64 : gs.length = 64
     · obtain rfl : fb = wx := by rw [HFB.out, decide_eq_true h64, Bool.true_and]
       have hd64 : ((gs.length : Int) == 64) = true := by rw [beq_iff_eq]; omega
       have hd64n : (gs.length == 64) = true := by rw [beq_iff_eq]; exact h64
       clear h64
       go_wp2_with (go_at_call 80; refine (HWX.out _).mono ?_; rintro e w4 ⟨rfl, hb4⟩; have HI4 := Lib.hid (HI3.out.mono hb4); have HG4 := Lib.hid (HG3.out.on HPW.out (keeps_below hb4)); have HT4 := Lib.hid (block_keep hb4 HT3.out))
       go_meet
       exact ⟨rfl, HI4, HG4, HT4⟩
     · obtain rfl : fb = false := by rw [HFB.out, decide_eq_false h64, Bool.false_and]
       have hd64 : ((gs.length : Int) == 64) = false := by rw [beq_eq_false_iff_ne]; omega
       have hd64n : (gs.length == 64) = false := by rw [beq_eq_false_iff_ne]; exact h64
       go_wp2_with fail
       go_meet
       exact ⟨rfl, HI3, HG3, HT3⟩
   case rest =>
   obtain ⟨rfl, HI4, HG4, HT4⟩ := hcut
   clear HI3 HG3 HT3 v0 v1 v2 v3 v4 v5 v6 v7 HWX
   obtain ⟨⟨v0, v1, v2, v3, v4, v5, v6, v7⟩, -⟩ := cells8 HT4.out
   cases fb
   case true =>
     have h64 : gs.length = 64 ∧ wx = true := by have := HFB.out; simpa using this.symm
     have HVF := Lib.hid (HQF2.out h64.2 h64.1)
     clear HQB2 HQS2 HQF2 HGR HGL HGB HFB h64
     go_wp2_with fail
     refine (HN2.out _ HI4.out).mono ?_
     rintro e w5 ⟨rfl, hi5, hk5⟩
     have HI5 := Lib.hid (hi5.mono (belowA w5 (.cells #[.int .i64 b0, .int .i64 f2, .int .i64 t2, .int .i64 b1, .int .i64 b2, .string q1, .slice none 0 0, .string q2] 152)))
     have HG5 := Lib.hid ((HG4.out.on HPW.out hk5).on HPW.out (keeps_below (belowA w5 (.cells #[.int .i64 b0, .int .i64 f2, .int .i64 t2, .int .i64 b1, .int .i64 b2, .string q1, .slice none 0 0, .string q2] 152))))
     have HT5 := Lib.hid (heapA_new (w := w5) (b := w5.heap.size) (.cells #[.int .i64 b0, .int .i64 f2, .int .i64 t2, .int .i64 b1, .int .i64 b2, .string q1, .slice none 0 0, .string q2] 152) rfl)
     clear hi5 hk5 HN2 HI4 HG4 HT4 v0 v1 v2 v3 v4 v5 v6 v7
     go_upto_region 9 with fail
     generalize w5.heap.size = T5 at *
     generalize World.alloc _ _ = W5 at *
     obtain ⟨⟨v0, v1, v2, v3, v4, v5, v6, v7⟩, -⟩ := cells8 HT5.out
     by_cases hE2 : E2 = 0
     · subst hE2
       rw [if_neg (by decide)] at HVF
       go_wp2
       go_ret2
       exact gs_no HVF.out (by decide) ⟨_, HI5.out⟩ HG5.out.kps
     · have e0 : (E2 == 0) = false := by rw [beq_eq_false_iff_ne]; exact hE2
       have e1 : (E2 != 0) = true := by simp only [bne, e0, Bool.not_false]
       have HE2 := Lib.hid hE2
       rw [if_pos hE2] at HVF
       clear hE2
       go_wp2
       go_ret2
       exact gs_no HVF.out HE2.out ⟨_, HI5.out⟩ HG5.out.kps
   have HGE := Lib.hid (show gr ≠ 0 → R = ([], 0, gr) from fun h => by
     by_cases h64 : gs.length = 64
     · have hwx : wx = false := by have := HFB.out; rw [decide_eq_true h64, Bool.true_and] at this; exact this.symm
       rw [HQB2.out hwx, HGB.out hwx]
     · have := HQS2.out h64
       rw [if_pos h] at this
       exact this)
   have HGO := Lib.hid (show gr = 0 → gs.length ≠ 64 ∧ R = grpsV bs last m (gs ++ [⟨gn, ge⟩]) gk from fun h => by
     by_cases h64 : gs.length = 64
     · have hwx : wx = false := by have := HFB.out; rw [decide_eq_true h64, Bool.true_and] at this; exact this.symm
       have := HGB.out hwx
       rw [h] at this
       cases this
     · have := HQS2.out h64
       rw [if_neg (by rw [h]; decide)] at this
       exact ⟨h64, this⟩)
   clear HQB2 HQF2 HQS2 HGB HFB HN2
   go_wp2_with fail
   refine (HGR.out _ HI4.out).mono ?_
   rintro e w6 ⟨gv, rfl, hie, ⟨at2, hi6, hat⟩, hk6⟩
   have HG6 := Lib.hid (HG4.out.on HPW.out hk6)
   have HVB := Lib.hid (show ∀ b, Value.ownBlock (.slice sa gs.length sc) = some b → b < wc.heap.size from fun b hb => (HG4.out.own.lt b hb).2)
   have HWW := Lib.hid (show w.heap.size ≤ wc.heap.size ∧ wc.heap.size ≤ w6.heap.size from ⟨HG4.out.kps.size, hk6.size⟩)
   obtain ⟨va, vc, rfl, -, -⟩ := hie.len
   have HI7 := Lib.hid (hi6.mono (belowA w6 (.cells #[.int .i64 gn, .slice va ge.length vc] 42)))
   have HG7 := Lib.hid (HG6.out.on HPW.out (keeps_below (belowA w6 (.cells #[.int .i64 gn, .slice va ge.length vc] 42))))
   have HE7 := Lib.hid (hie.below (belowA w6 (.cells #[.int .i64 gn, .slice va ge.length vc] 42)))
   have HZ7 := Lib.hid (heapA_new (w := w6) (b := w6.heap.size) (.cells #[.int .i64 gn, .slice va ge.length vc] 42) rfl)
   have HAT := Lib.hid hat
   have HWS := Lib.hid (sizeA w6 (.cells #[.int .i64 gn, .slice va ge.length vc] 42))
   clear hie hi6 hat hk6 HG4 HI4 HT4 HGR HG6 v0 v1 v2 v3 v4 v5 v6 v7
   go_upto_region 14 with fail
   obtain ⟨z, hz⟩ : ∃ z, z = w6.heap.size := ⟨_, rfl⟩
   rw [← hz] at HZ7 HWW HWS ⊢
   clear hz
   generalize w6.alloc _ = W7 at *
   obtain ⟨⟨z0, z1⟩, -⟩ := cells2 HZ7.out
   by_cases hgr : gr = 0
   case neg =>
     have HVF := Lib.hid (HGE.out hgr)
     have e0 : (gr == 0) = false := by rw [beq_eq_false_iff_ne]; exact hgr
     have e1 : (gr != 0) = true := by simp only [bne, e0, Bool.not_false]
     have HE2 := Lib.hid hgr
     clear hgr
     go_wp2
     go_ret2
     exact gs_no HVF.out HE2.out ⟨_, HI7.out⟩ HG7.out.kps
   subst hgr
   obtain ⟨h64, hRQ⟩ := HGO.out rfl
   have hL : gs.length ≤ 63 := by omega
   have HRQ := Lib.hid hRQ
   have hone : ∀ u ∈ [Value.int .i64 gn, .slice va ge.length vc], u.oneCell' = true := by
     intro u hu
     simp at hu
     rcases hu with rfl | rfl <;> rfl
   have HONE := Lib.hid hone
   have HKK := Lib.hid HGL.out
   clear hone h64 hRQ HGO HGE HGL
   go_wp2_with (at_builtin; go_loud (refine append_one EGrp rfl (.tmp 56) (.tmp 58) rfl w.heap.size _ gs.length _ rfl (HG7.out.own.alloc _) _ 1 _ rfl (row_newS _ #[.int .i64 gn, .slice va ge.length vc] _ 2 rfl rfl) HONE.out (by unfold maxLen; omega) (by omega) (by rw [sizeA]; have := HG7.out.kps.size; omega) ?_); intro v' w8 hO8 hg8 hn8; obtain ⟨ua, uc, rfl, -, -⟩ := owns_slice hO8; have HG8 := Lib.hid (HG7.out.app hg8 HE7.out HWW.out.1 HVB.out (by have := HWW.out.2; have := HWS.out; omega) hO8 hn8); have HI8 := Lib.hid ((HI7.out.mono (belowA _ _)).grown hg8 (fun b hb => ⟨fun e => by have := (HG7.out.own.lt b hb).1; have := HPW.out; omega, Nat.le_trans HR.out.bel.size (HG7.out.own.lt b hb).1⟩)); clear hO8 hg8 hn8)
   go_roundw
   case rel => exact ⟨gs ++ [⟨gn, ge⟩], gk, _, by rw [List.length_append]; simp; omega, HKK.out.1, HKK.out.2, by rw [← HAT.out rfl]; exact HI8, HG8, Lib.hid (by rw [HRQ.out, List.length_append, show 65 - (gs.length + [(⟨gn, ge⟩ : Grp)].length) = m by have := HM.out; simp; omega])⟩
   case measure => simp [lenV]; omega
end
def pk : List Int → List UInt8
 | a :: b :: t => UInt8.ofNat (16 * a + b).toNat :: pk t
 | _ => []
theorem pk_append : ∀ (n : Nat) (l m : List Int), l.length = 2 * n → pk (l ++ m) = pk l ++ pk m
 | 0, l, m, h => by
   obtain rfl : l = [] := List.eq_nil_of_length_eq_zero (by omega)
   rfl
 | n + 1, l, m, h => by
   rcases l with _ | ⟨a, _ | ⟨b, t⟩⟩
   · simp at h
   · simp at h; omega
   · simp only [List.cons_append, pk]
     rw [pk_append n t m (by simp at h; omega)]
structure DgP (ds : List Int) (out : List UInt8) (half : Int) : Prop where
 bd : ∀ d ∈ ds, 0 ≤ d ∧ d ≤ 15
 form : ∃ ps : List Int, ps.length = 2 * out.length ∧ pk ps = out ∧ ((half = -1 ∧ ds = ps) ∨ (0 ≤ half ∧ ds = ps ++ [half]))
theorem DgP.nil : DgP [] [] (-1) := ⟨fun d h => (by cases h), [], rfl, rfl, .inl ⟨rfl, rfl⟩⟩
theorem DgP.put {ds : List Int} {out : List UInt8} {half : Int} (h : DgP ds out half) {d : Int} (h0 : 0 ≤ d) (h1 : d ≤ 15) : (half < 0 → DgP (ds ++ [d]) out d) ∧ (0 ≤ half → DgP (ds ++ [d]) (out ++ [UInt8.ofNat (16 * half + d).toNat]) (-1)) := by
 obtain ⟨hb, ps, hl, hp, hf⟩ := h
 have hb2 : ∀ x ∈ ds ++ [d], 0 ≤ x ∧ x ≤ 15 := fun x hx => by
   rcases List.mem_append.1 hx with h | h
   · exact hb x h
   · simp at h; subst h; exact ⟨h0, h1⟩
 refine ⟨fun hn => ⟨hb2, ps, hl, hp, .inr ⟨h0, ?_⟩⟩, fun hn => ⟨hb2, ds ++ [d], ?_, ?_, .inl ⟨rfl, rfl⟩⟩⟩
 · rcases hf with ⟨_, rfl⟩ | ⟨h, _⟩
   · rfl
   · omega
 · rcases hf with ⟨h, _⟩ | ⟨h, rfl⟩
   · omega
   · simp; omega
 · rcases hf with ⟨h, _⟩ | ⟨h, rfl⟩
   · omega
   · rw [List.append_assoc, pk_append _ _ _ hl, hp]; rfl
def i64C (x : Int) : Value := .int .i64 x
structure DgM (w : World) (v : Value) (ds : List Int) (wr : World) : Prop where
 row : wr.ownsRow w.heap.size 3 1 v ds.length (ds.map i64C)
 bel : Below w.heap.size w wr
theorem DgM.put {w wr w5 : World} {v v' : Value} {ds : List Int} (h : DgM w v ds wr) (d : Int) (O : Obj) (hO5 : w5.ownsRow w.heap.size 3 1 v' (ds.length + 1) (ds.map i64C ++ [.int .i64 d])) (hg5 : (wr.alloc O).grownBy w5 v.ownBlock) : DgM w v' (ds ++ [d]) w5 :=
 ⟨by have h := hO5; simpa [i64C] using h, (h.bel.alloc h.bel.size _).grown hg5 (by rw [sizeA]; have := h.bel.size; omega) (fun q hq => (h.row.lt q hq).1)⟩
theorem DgM.len {w wr : World} {v : Value} {ds : List Int} (h : DgM w v ds wr) : ∃ a cap, v = .slice a ds.length cap ∧ Row wr 1 a ds.length cap (ds.map i64C) := by
 obtain ⟨a, cap, hv, hr, -⟩ := Row.of_owns h.row
 exact ⟨a, cap, hv, hr⟩
structure PA (p : List UInt8) (N : Int) (ov : Bool) : Prop where
 dg : p.all isDg = true
 ov_ : ov = decide (2147483647 < valD p)
 n : ov = false → N = (valD p : Nat)
def PB (p : List UInt8) (i : Nat) (N P : Int) (ov : Bool) : Prop := ∃ w r, p = w ++ 46 :: r ∧ w.length = i ∧ PA w N ov ∧ r.all isDg = true ∧ P = (mil r : Nat)
theorem PA.nil : PA [] 0 false := ⟨rfl, rfl, fun _ => rfl⟩
theorem PA.over {p : List UInt8} {N : Int} (h : PA p N true) {c : UInt8} (hc : isDg c = true) : PA (p ++ [c]) N true :=
 ⟨all_snoc _ _ h.dg hc, by have := h.ov_; rw [eq_comm, decide_eq_true_iff] at this; rw [eq_comm, decide_eq_true_iff, valD_snoc]; omega, fun h => by cases h⟩
theorem PB.bd {p : List UInt8} {i : Nat} {N P : Int} {ov : Bool} (h : PB p i N P ov) : 0 ≤ P ∧ P ≤ 999999 := by
 obtain ⟨w, r, e, hl, hA, hr, rfl⟩ := h
 have := mil_lt r hr
 omega
theorem PA.fin {p : List UInt8} {N : Int} {ov : Bool} (h : PA p N ov) (sg : Int) : parseB sg p = if p.length = 0 then (0, 0, 11) else if ov = true then (0, 0, 5) else (2, sg * N, 0) := by
 rw [parseB_int sg p h.dg]
 by_cases h0 : p.length = 0
 · rw [if_pos h0, if_pos h0]
 · rw [if_neg h0, if_neg h0]
   have h1 := h.ov_
   cases ov
   · rw [eq_comm, decide_eq_false_iff_not] at h1
     rw [if_neg h1, if_neg (by decide), h.n rfl]
   · rw [eq_comm, decide_eq_true_iff] at h1
     rw [if_pos h1, if_pos rfl]
theorem PB.fin {p : List UInt8} {i : Nat} {N P : Int} {ov : Bool} (h : PB p i N P ov) (sg : Int) : parseB sg p = if p.length = 1 then (0, 0, 11) else if ov = true ∨ (N = 2147483647 ∧ 0 < P) then (0, 0, 5) else (3, sg * (1000000 * N + P), 0) := by
 obtain ⟨w, r, e, hl, hA, hr, rfl⟩ := h
 have hlen := congrArg List.length e
 simp only [List.length_append, List.length_cons] at hlen
 rw [e, parseB_real sg w r hA.dg hr, ← e]
 by_cases h0 : p.length = 1
 · rw [if_pos h0, if_pos (by omega)]
 · rw [if_neg h0, if_neg (by omega)]
   have h1 := hA.ov_
   cases ov
   · rw [eq_comm, decide_eq_false_iff_not] at h1
     have h2 := hA.n rfl
     by_cases h3 : N = 2147483647 ∧ 0 < ((mil r : Nat) : Int)
     · rw [if_pos (.inr (by omega)), if_pos (.inr h3)]
     · rw [if_neg (by rintro (h | h); exact h1 h; exact h3 (by omega)), if_neg (by rintro (h | h); cases h; exact h3 h), h2]
       rw [Int.natCast_add, Int.natCast_mul, Int.mul_comm 1000000]; rfl
   · rw [eq_comm, decide_eq_true_iff] at h1
     rw [if_pos (.inl h1), if_pos (.inl rfl)]
structure Rx (w : World) (r n : Nat) (f : Nat) (W : World) : Prop where
 blk : W.heap[r]? = some (.cells #[.int .i64 0, .int .i64 0, .int .i64 0, .int .i64 0, .int .i64 0, .string ⟨#[]⟩, .slice none 0 0, .string ⟨#[]⟩] 113 (0, 0))
 no : W.heap[n]? = some (.cells #[.int .i64 0, .int .i64 f, .int .i64 f, .int .i64 0, .int .i64 0, .string ⟨#[]⟩, .slice none 0 0, .string ⟨#[]⟩] 113 (0, 0))
 bel : Below w.heap.size w W
 wr : w.heap.size ≤ r
theorem Rx.on {w W W' : World} {r n f : Nat} (h : Rx w r n f W) (hb : Below W.heap.size W W') : Rx w r n f W' := ⟨block_keep hb h.blk, block_keep hb h.no, h.bel.trans (hb.mono h.bel.size), h.wr⟩
theorem Rx.alloc {w W : World} {r n f : Nat} (h : Rx w r n f W) (o : Obj) : Rx w r n f (W.alloc o) := h.on (belowA W o)
end Go.Proofs.YtamkknailbnhnaaGreat
namespace Go.Proofs.YtamkknailbnhnaaGreat
mutual
def compareC : PV → PV → Int
 | .mk k n s l, .mk k2 n2 s2 l2 =>
   if k < k2 ∨ (k = k2 ∧ (n < n2 ∨ (n = n2 ∧ sLt s s2 = true))) then -1
   else if k ≠ k2 ∨ n ≠ n2 ∨ s ≠ s2 then 1
   else compareL l l2
def compareL : List PV → List PV → Int
 | [], [] => 0
 | [], _ :: _ => -1
 | _ :: _, [] => 1
 | x :: l, y :: m => if compareC x y ≠ 0 then compareC x y else compareL l m
end
mutual
theorem compare_self : ∀ a : PV, compareC a a = 0
 | .mk k n s l => by
   simp only [compareC]
   rw [if_neg (by rintro (h | ⟨-, h | ⟨-, h⟩⟩); omega; omega; rw [sLt_ir] at h; cases h), if_neg (by simp)]
   exact compareL_self l
theorem compareL_self : ∀ l : List PV, compareL l l = 0
 | [] => rfl
 | x :: l => by
   simp only [compareL]
   rw [if_neg (by simp [compare_self x])]
   exact compareL_self l
end
end Go.Proofs.YtamkknailbnhnaaGreat
namespace Go.Proofs.YtamkknailbnhnaaGreat
open Go.RowKit
theorem less_mkB : ∀ a b : List UInt8, Op.bytesLess a b = sLt a b
 | [], [] => rfl
 | [], _ :: _ => rfl
 | _ :: _, [] => rfl
 | a :: l, b :: m => by
   simp only [Op.bytesLess, sLt]
   rw [less_mkB l m]
   by_cases h : a.toNat < b.toNat
   · rw [if_pos h]
     have : (a < b) := h
     simp [this]
   · rw [if_neg h]
     have h' : ¬ (a < b) := h
     by_cases h2 : b.toNat < a.toNat
     · rw [if_pos h2]
       have : (a == b) = false := by rw [beq_eq_false_iff_ne]; intro e; subst e; omega
       simp [h', this]
     · rw [if_neg h2]
       have : a = b := UInt8.toNat_inj.1 (by omega)
       subst this
       simp
theorem toList_mkB (l : List UInt8) : (mkB l).toList = l := by unfold mkB; exact ByteArray.toList_eq _
structure Box4 (w : World) (b : Nat) (v : PV) (sl : Value) : Prop where
 blk : w.heap[b]? = some (.cells #[.int .i64 v.kind, .int .i64 v.n, .string (mkB v.s), sl] 27 (0, 0))
theorem Box4.cells {w : World} {b : Nat} {v : PV} {sl : Value} (h : Box4 w b v sl) : w.cell? ⟨b, 0, none⟩ = some (.int .i64 v.kind) ∧ w.cell? ⟨b, 1, none⟩ = some (.int .i64 v.n) ∧ w.cell? ⟨b, 2, none⟩ = some (.string (mkB v.s)) ∧ w.cell? ⟨b, 3, none⟩ = some sl := by
 refine ⟨?_, ?_, ?_, ?_⟩
 · rw [cell_of_row w b 0 _ _ _ h.blk]; rfl
 · rw [cell_of_row w b 1 _ _ _ h.blk]; rfl
 · rw [cell_of_row w b 2 _ _ _ h.blk]; rfl
 · rw [cell_of_row w b 3 _ _ _ h.blk]; rfl
theorem cmpL_step {l m : List PV} {k : Nat} {x y : PV} (h1 : l[k]? = some x) (h2 : m[k]? = some y) :
   compareL (l.drop k) (m.drop k) = if compareC x y ≠ 0 then compareC x y else compareL (l.drop (k + 1)) (m.drop (k + 1)) := by
 obtain ⟨g1, e1⟩ := List.getElem?_eq_some_iff.1 h1
 obtain ⟨g2, e2⟩ := List.getElem?_eq_some_iff.1 h2
 rw [List.drop_eq_getElem_cons g1, List.drop_eq_getElem_cons g2, e1, e2]
 rfl
theorem cmpL_end {l m : List PV} {k : Nat} (h : ¬ (k < l.length ∧ k < m.length)) (h1 : k ≤ l.length) (h2 : k ≤ m.length) :
   compareL (l.drop k) (m.drop k) = if l.length < m.length then -1 else if m.length < l.length then 1 else 0 := by
 by_cases g1 : k < l.length
 · have g2 : k = m.length := by omega
   rw [List.drop_eq_getElem_cons g1, List.drop_of_length_le (l := m) (by omega), if_neg (by omega), if_pos (by omega)]
   rfl
 · rw [List.drop_of_length_le (l := l) (by omega)]
   by_cases g2 : k < m.length
   · rw [List.drop_eq_getElem_cons g2, if_pos (by omega)]
     rfl
   · rw [List.drop_of_length_le (l := m) (by omega), if_neg (by omega), if_neg (by omega)]
     rfl
def anyF : Nat → Prop := fun _ => True
theorem IsV.any {w : World} {F : Nat → Prop} {v : PV} {sl : Value} (h : IsV w F v sl) : IsV w anyF v sl := h.weaken fun _ _ => trivial
theorem sizeOf_mem {v x : PV} {k : Nat} (h : v.l[k]? = some x) : SizeOf.sizeOf x < SizeOf.sizeOf v := by
 obtain ⟨a, b, c, l⟩ := v
 have : SizeOf.sizeOf x < SizeOf.sizeOf l := List.sizeOf_lt_of_mem (List.mem_of_getElem? (h : l[k]? = some x))
 simp only [PV.mk.sizeOf_spec]; omega
theorem compare_any : ∀ (N : Nat) (a b : PV) (sa sb : Value) (w : World), SizeOf.sizeOf a ≤ N → IsV w anyF a sa → IsV w anyF b sb →
   Calls Tryz.prog 89 #[pvA a sa, pvA b sb] w fun e w' => e = .returned (.int .i64 (compareC a b)) ∧ Below w.heap.size w w' := by
 intro N
 induction N with
 | zero => intro a b sa sb w h; obtain ⟨_, _, _, _⟩ := a; simp at h
 | succ N ih =>
 intro a b sa sb w hN ha hb
 obtain ⟨a1, cap1, e1, g1, g2, g3⟩ := ha.len
 obtain ⟨a2, cap2, e2, g4, g5, g6⟩ := hb.len
 have HA := Lib.hid ha
 have HB := Lib.hid hb
 have HIH := Lib.hid ih
 have HN := Lib.hid hN
 have hC : compareC a b = if a.kind < b.kind ∨ (a.kind = b.kind ∧ (a.n < b.n ∨ (a.n = b.n ∧ sLt a.s b.s = true))) then -1
   else if a.kind ≠ b.kind ∨ a.n ≠ b.n ∨ a.s ≠ b.s then 1 else compareL a.l b.l := by
   obtain ⟨_, _, _, _⟩ := a; obtain ⟨_, _, _, _⟩ := b; simp only [compareC]; rfl
 have HSA := Lib.hid (fun (k : Nat) (x : PV) (h : a.l[k]? = some x) => sizeOf_mem h)
 subst e1 e2
 obtain ⟨la, hla⟩ : ∃ la, la = a.l := ⟨_, rfl⟩
 obtain ⟨lb, hlb⟩ : ∃ lb, lb = b.l := ⟨_, rfl⟩
 rw [← hla] at g1 HA ⊢
 rw [← hlb] at g4 HB ⊢
 rw [← hla, ← hlb] at hC
 have HLA := Lib.hid hla
 have HLB := Lib.hid hlb
 have m1 : (la.length : Int) ≤ 9223372036854775807 := by unfold maxLen at g2; omega
 have m2 : (lb.length : Int) ≤ 9223372036854775807 := by unfold maxLen at g5; omega
 have hl2 : Op.bytesLess (mkB a.s).toList (mkB b.s).toList = sLt a.s b.s := by rw [toList_mkB, toList_mkB, less_mkB]
 have hl3 : ((mkB a.s).toList == (mkB b.s).toList) = decide (a.s = b.s) := by rw [toList_mkB, toList_mkB]; by_cases h : a.s = b.s <;> simp [h]
 clear ih hN hla hlb ha hb
 unfold pvA
 generalize compareC a b = V at *
 generalize a.kind = ka at *
 generalize b.kind = kb at *
 generalize a.n = na at *
 generalize b.n = nb at *
 generalize a.s = s1 at *
 generalize b.s = s2 at *
 by_cases h1 : ka < kb
 · have hd : decide (ka < kb) = true := decide_eq_true h1
   rw [if_pos (.inl h1)] at hC
   have HC := Lib.hid hC
   clear h1 hC hl2 hl3
   go_enter Tryz.func89, Tryz.ntmps89
   go_wp2
   go_ret
   exact ⟨by rw [HC.out]; rfl, belowA2 w _ _⟩
 have hf1 : decide (ka < kb) = false := decide_eq_false h1
 by_cases h2 : kb < ka
 · have hq : (ka == kb) = false := by rw [beq_eq_false_iff_ne]; omega
   have hq2 : (ka != kb) = true := by simp [bne, hq]
   rw [if_neg (by omega), if_pos (.inl (by omega))] at hC
   have HC := Lib.hid hC
   clear h1 h2 hC hl2 hl3
   go_enter Tryz.func89, Tryz.ntmps89
   go_wp2
   go_ret
   exact ⟨by rw [HC.out]; rfl, belowA2 w _ _⟩
 obtain rfl : ka = kb := by omega
 clear h1 h2 hf1
 by_cases h1 : na < nb
 · have hd : decide (na < nb) = true := decide_eq_true h1
   rw [if_pos (.inr ⟨rfl, .inl h1⟩)] at hC
   have HC := Lib.hid hC
   clear h1 hC hl2 hl3
   go_enter Tryz.func89, Tryz.ntmps89
   go_wp2
   go_ret
   exact ⟨by rw [HC.out]; rfl, belowA2 w _ _⟩
 have hf1 : decide (na < nb) = false := decide_eq_false h1
 by_cases h2 : nb < na
 · have hq : (na == nb) = false := by rw [beq_eq_false_iff_ne]; omega
   have hq2 : (na != nb) = true := by simp [bne, hq]
   rw [if_neg (by rintro (h | ⟨-, h | ⟨h, -⟩⟩) <;> omega), if_pos (.inr (.inl (by omega)))] at hC
   have HC := Lib.hid hC
   clear h1 h2 hC hl2 hl3
   go_enter Tryz.func89, Tryz.ntmps89
   go_wp2
   go_ret
   exact ⟨by rw [HC.out]; rfl, belowA2 w _ _⟩
 obtain rfl : na = nb := by omega
 clear h1 h2 hf1
 by_cases h1 : sLt s1 s2 = true
 · rw [if_pos (.inr ⟨rfl, .inr ⟨rfl, h1⟩⟩)] at hC
   rw [h1] at hl2
   have HC := Lib.hid hC
   clear h1 hC hl3
   go_enter Tryz.func89, Tryz.ntmps89
   go_wp2
   go_ret
   exact ⟨by rw [HC.out]; rfl, belowA2 w _ _⟩
 rw [if_neg (by rintro (h | ⟨-, h | ⟨-, h⟩⟩); omega; omega; exact h1 h)] at hC
 rw [show sLt s1 s2 = false by simpa using h1] at hl2
 clear h1
 by_cases h2 : s1 = s2
 case neg =>
   rw [if_pos (.inr (.inr h2))] at hC
   rw [decide_eq_false h2] at hl3
   have hl4 : ((mkB s1).toList != (mkB s2).toList) = true := by simp [bne, hl3]
   have HC := Lib.hid hC
   clear h2 hC
   go_enter Tryz.func89, Tryz.ntmps89
   go_wp2
   go_ret
   exact ⟨by rw [HC.out]; rfl, belowA2 w _ _⟩
 subst h2
 rw [if_neg (by simp)] at hC
 have HC := Lib.hid hC
 clear hC hl3
 go_enter Tryz.func89, Tryz.ntmps89
 go_wp2
 obtain ⟨B, hB⟩ : ∃ B, B = w.heap.size := ⟨_, rfl⟩
 rw [← hB]
 have hx1 : ((w.alloc (.cells #[.int .i64 ka, .int .i64 na, .string (mkB s1), .slice a1 la.length cap1] 27)).alloc (.cells #[.int .i64 ka, .int .i64 na, .string (mkB s1), .slice a2 lb.length cap2] 27)).heap[B]? = some (.cells #[.int .i64 ka, .int .i64 na, .string (mkB s1), .slice a1 la.length cap1] 27 (0, 0)) := heapA_old _ (heapA_new _ hB)
 have hx2 : ((w.alloc (.cells #[.int .i64 ka, .int .i64 na, .string (mkB s1), .slice a1 la.length cap1] 27)).alloc (.cells #[.int .i64 ka, .int .i64 na, .string (mkB s1), .slice a2 lb.length cap2] 27)).heap[B + 1]? = some (.cells #[.int .i64 ka, .int .i64 na, .string (mkB s1), .slice a2 lb.length cap2] 27 (0, 0)) := heapA_new _ (by rw [sizeA, hB])
 have HX1 := Lib.hid hx1
 have HX2 := Lib.hid hx2
 have HW := Lib.hid (belowA2 w (.cells #[.int .i64 ka, .int .i64 na, .string (mkB s1), .slice a1 la.length cap1] 27) (.cells #[.int .i64 ka, .int .i64 na, .string (mkB s1), .slice a2 lb.length cap2] 27))
 have HBB := Lib.hid hB
 clear hx1 hx2 hB
 generalize (w.alloc _).alloc _ = W1 at *
 go_loopw [5] (fun vk wr => ∃ k : Nat, vk = .int .i64 k ∧ k ≤ la.length ∧ k ≤ lb.length ∧ Hid (Below w.heap.size w wr) ∧ Hid (Below W1.heap.size W1 wr) ∧ Hid (V = compareL (la.drop k) (lb.drop k))) (fun vk _ => la.length - (intOf vk).toNat)
 case atStart => exact ⟨0, rfl, Nat.zero_le _, Nat.zero_le _, HW, Below.refl _ _, HC⟩
 case round =>
   obtain ⟨k, rfl, hk1, hk2, HWR, HW1, HV⟩ := hrel
   have hy1 := block_keep HW1.out HX1.out
   have hy2 := block_keep HW1.out HX2.out
   obtain ⟨c0, c1, c2, c3⟩ := Box4.cells (v := .mk ka na s1 la) (sl := .slice a1 la.length cap1) (w := wr) (b := B) ⟨hy1⟩
   obtain ⟨d0, d1, d2, d3⟩ := Box4.cells (v := .mk ka na s1 lb) (sl := .slice a2 lb.length cap2) (w := wr) (b := B + 1) ⟨hy2⟩
   by_cases q1 : k < la.length ∧ k < lb.length
   case neg =>
     have hv := HV.out
     rw [cmpL_end q1 hk1 hk2] at hv
     have HV2 := Lib.hid hv
     clear hv hy1 hy2 HA HB HIH HV
     by_cases t1 : la.length < lb.length
     · have hd : decide (la.length < lb.length) = true := decide_eq_true t1
       have q2 : ¬ k < la.length := by omega
       go_wp2
       go_ret
       exact ⟨by rw [HV2.out, if_pos t1]; rfl, HWR.out⟩
     · have hd : decide (la.length < lb.length) = false := decide_eq_false t1
       by_cases t2 : lb.length < la.length
       · have hd2 : decide (lb.length < la.length) = true := decide_eq_true t2
         have q2 : ¬ k < lb.length := by omega
         have q3 : k < la.length := by omega
         go_wp2
         go_ret
         exact ⟨by rw [HV2.out, if_neg t1, if_pos t2]; rfl, HWR.out⟩
       · have hd2 : decide (lb.length < la.length) = false := decide_eq_false t2
         have q2 : ¬ k < la.length := by omega
         go_wp2
         go_ret
         exact ⟨by rw [HV2.out, if_neg t1, if_neg t2]; rfl, HWR.out⟩
   obtain ⟨q1, q2⟩ := q1
   obtain ⟨x, hx⟩ : ∃ x, la[k]? = some x := ⟨_, List.getElem?_eq_getElem q1⟩
   obtain ⟨y, hy⟩ : ∃ y, lb[k]? = some y := ⟨_, List.getElem?_eq_getElem q2⟩
   have hbw : Below w.heap.size w wr := HWR.out
   obtain ⟨-, -, -, b1, o1, rfl, -, -, hax⟩ := (HA.out.below hbw).at (by omega)
   obtain ⟨-, -, -, b2, o2, rfl, -, -, hbx⟩ := (HB.out.below hbw).at (by omega)
   rw [← HLA.out] at hax
   rw [← HLB.out] at hbx
   obtain ⟨sx, hsx, x0, x1, x2, x3⟩ := hax k x hx
   obtain ⟨sy, hsy, y0, y1, y2, y3⟩ := hbx k y hy
   have hlt : SizeOf.sizeOf x < SizeOf.sizeOf a := HSA.out k x (by rw [← HLA.out]; exact hx)
   have hN := HN.out
   have hcall := fun (p : BelowW wr) => HIH.out x y sx sy p.w (by omega) (hsx.below p.h) (hsy.below p.h)
   have hv := HV.out
   rw [cmpL_step hx hy] at hv
   have HV2 := Lib.hid hv
   unfold pvA at hcall
   generalize compareC x y = c at *
   have HCALL := Lib.hid hcall
   clear hcall hv hsx hsy hlt hN hax hbx hx hy HA HB HIH HV hy1 hy2 hbw HSA HLA HLB HN
   have u3 := BelowW.cell c3
   have v3 := BelowW.cell d3
   have e0 := BelowW.cell x0
   have e1 := BelowW.cell x1
   have e2 := BelowW.cell x2
   have e3 := BelowW.cell x3
   have r0 := BelowW.cell y0
   have r1 := BelowW.cell y1
   have r2 := BelowW.cell y2
   have r3 := BelowW.cell y3
   have hkl : (0 : Int) ≤ (k : Int) := by omega
   have hki : (k : Int) < (la.length : Int) := by omega
   have hkj : (k : Int) < (lb.length : Int) := by omega
   go_wp2
   refine wp_region_below (by kernel_rfl) (by kernel_rfl) ?_
   repeat (quiet_step ((go_at_call 89; with_reducible exact Calls.below_of (HCALL.out _))))
   refine wpQuiet_nil ?_
   rintro _ ⟨⟨w4, hb4⟩, rfl⟩
   have HW4 := Lib.hid (HWR.out.trans (hb4.mono HWR.out.size))
   have HW5 := Lib.hid (HW1.out.trans (hb4.mono HW1.out.size))
   clear u3 v3 e0 e1 e2 e3 r0 r1 r2 r3 x0 x1 x2 x3 y0 y1 y2 y3 c0 c1 c2 c3 d0 d1 d2 d3 hb4
   by_cases hc : c = 0
   · subst hc
     go_wp2
     go_roundw
     case rel => exact ⟨k + 1, by go_num, by omega, by omega, HW4, HW5, by rw [HV2.out]; rfl⟩
     case measure => simp [intOf]; omega
   · have hc1 : (c == 0) = false := by rw [beq_eq_false_iff_ne]; exact hc
     have hc2 : (c != 0) = true := by simp [bne, hc1]
     go_wp2
     go_ret
     exact ⟨by rw [HV2.out, if_pos hc]; rfl, HW4.out⟩
theorem compare_two {a b : PV} {sa sb : Value} {w : World} {F G : Nat → Prop} (ha : IsV w F a sa) (hb : IsV w G b sb) :
   Calls Tryz.prog 89 #[pvA a sa, pvA b sb] w fun e w' => e = .returned (.int .i64 (compareC a b)) ∧ Below w.heap.size w w' :=
 compare_any _ a b sa sb w (Nat.le_refl _) ha.any hb.any
theorem same_any {a b : PV} {sa sb : Value} {w : World} {F G : Nat → Prop} (ha : IsV w F a sa) (hb : IsV w G b sb) :
   Calls Tryz.prog 52 #[pvA a sa, pvA b sb] w fun e w' => e = .returned (.bool (compareC a b == 0)) ∧ Below w.heap.size w w' := by
 have HB0 := Lib.hid (belowA2 w (.cells #[.int .i64 a.kind, .int .i64 a.n, .string (mkB a.s), sa] 27) (.cells #[.int .i64 b.kind, .int .i64 b.n, .string (mkB b.s), sb] 27))
 have hc := compare_two (ha.below HB0.out) (hb.below HB0.out)
 unfold pvA at *
 have HC := Lib.hid hc
 clear hc ha hb
 generalize compareC a b = c at *
 generalize a.kind = a0 at *
 generalize a.n = a1 at *
 generalize mkB a.s = a2 at *
 generalize b.kind = b0 at *
 generalize b.n = b1 at *
 generalize mkB b.s = b2 at *
 go_enter Tryz.func52, Tryz.ntmps52
 go_wp2_with (go_at_call 89; refine HC.out.mono ?_; rintro e w' ⟨rfl, hb⟩)
 go_ret
 exact ⟨rfl, HB0.out.trans (hb.mono HB0.out.size)⟩
theorem wants_any {w : World} {g n cap : Nat} {d : Bool} {a : Option Addr} (h : w.heap[g]? = some (.cells #[.bool d, .slice a n cap] 168 (0, 0))) (hn : n ≤ maxLen) :
   Calls Tryz.prog 159 #[.pointer (some ⟨g, 0, none⟩)] w fun e w' => e = .returned (.bool (d && n % 2 == 0)) ∧ w = w' := by
 have c0 : w.cell? ⟨g, 0, none⟩ = some (.bool d) := by rw [cell_of_row w g 0 _ _ _ h]; rfl
 have c1 : w.cell? ⟨g, 1, none⟩ = some (.slice a n cap) := by rw [cell_of_row w g 1 _ _ _ h]; rfl
 have hi : (n : Int) ≤ 9223372036854775807 := by unfold maxLen at hn; omega
 have he : ((n : Int) % 2 == 0) = (n % 2 == 0) := by rw [Bool.eq_iff_iff]; simp; omega
 have HE := Lib.hid he
 clear h hn he
 cases d
 · go_enter Tryz.func159, Tryz.ntmps159
   go_wp2
   go_ret
   exact ⟨rfl, rfl⟩
 · go_enter Tryz.func159, Tryz.ntmps159
   go_wp2
   go_ret
   exact ⟨ret_bool (by rw [Bool.true_and]; exact HE.out), rfl⟩
section
variable {w0 w w' : World} {F F' G : Nat → Prop} {p : Nat} {a : Option Addr} {cap : Nat} {bs : List UInt8} {last : Bool} {st : List Lv} {at_ : Int} {gs : List Nat} {osl : Value}
def RefEnd (w0 w : World) (F G : Nat → Prop) (p : Nat) (a : Option Addr) (cap : Nat) (bs : List UInt8) (last : Bool) (st : List Lv) (gs : List Nat) (osl : Value) (R : PV × Int × Int) (e : Ending) (w' : World) : Prop :=
 e = .returned (.tuple #[pvA R.1 (.slice none 0 0), .int .i64 R.2.2]) ∧ IsStk w0 w' F G p a cap bs last st R.2.1 gs osl ∧ Keeps (fun b => b = p) w w'
theorem fin4 (h : IsStk w0 w F G p a cap bs last st at_ gs osl) {W : World} (hb : Below w.heap.size w W) {q : Nat} (hq : w.heap.size ≤ q) (hl : q < W.heap.size) (y0 y1 y2 y3 : Value) :
   IsStk w0 ((((W.setCell ⟨q, 0, none⟩ y0).setCell ⟨q, 1, none⟩ y1).setCell ⟨q, 2, none⟩ y2).setCell ⟨q, 3, none⟩ y3) F G p a cap bs last st at_ gs osl ∧
     Keeps (fun b => b = p) w ((((W.setCell ⟨q, 0, none⟩ y0).setCell ⟨q, 1, none⟩ y1).setCell ⟨q, 2, none⟩ y2).setCell ⟨q, 3, none⟩ y3) :=
 ⟨((h.res (G' := fun b => G b ∨ b = q) hb (fun b hb => hb.imp id fun e => by rw [e]; exact ⟨hq, hl⟩)).set4 (.inr rfl) _ _ _ _).give fun b hb => .inl hb, keeps_set4 (keeps_below hb) hq _ _ _ _⟩
theorem fin4a (h : IsStk w0 w F G p a cap bs last st at_ gs osl) {W : World} (hb : Below w.heap.size w W) {q : Nat} (hq : w.heap.size ≤ q) (hl : q < W.heap.size) (at2 : Int) (y0 y1 y2 y3 : Value) :
   IsStk w0 (((((W.setCell ⟨p, 1, none⟩ (.int .i64 at2)).setCell ⟨q, 0, none⟩ y0).setCell ⟨q, 1, none⟩ y1).setCell ⟨q, 2, none⟩ y2).setCell ⟨q, 3, none⟩ y3) F G p a cap bs last st at2 gs osl ∧
     Keeps (fun b => b = p) w (((((W.setCell ⟨p, 1, none⟩ (.int .i64 at2)).setCell ⟨q, 0, none⟩ y0).setCell ⟨q, 1, none⟩ y1).setCell ⟨q, 2, none⟩ y2).setCell ⟨q, 3, none⟩ y3) :=
 ⟨(((h.res (G' := fun b => G b ∨ b = q) hb (fun b hb => hb.imp id fun e => by rw [e]; exact ⟨hq, hl⟩)).setAt at2).set4 (.inr rfl) _ _ _ _).give fun b hb => .inl hb,
   keeps_set4 (Keeps.setCell (S := fun b => b = p) (a := ⟨p, 1, none⟩) (keeps_below hb) (.inl rfl) _) hq _ _ _ _⟩
theorem drew4 {W : World} {S : Nat → Prop} (h : IsStk w0 W F G p a cap bs last st at_ gs osl ∧ Keeps S w W) : IsStk w0 W.drew F G p a cap bs last st at_ gs osl ∧ Keeps S w W.drew := ⟨h.1.drewN 1, h.2.drewN 1⟩
theorem ref_any (h : IsStk w0 w F G p a cap bs last st at_ gs osl) (v : PV) : Calls Tryz.prog 162 #[.pointer (some ⟨p, 0, none⟩), pvA v (.slice none 0 0)] w (RefEnd w0 w F G p a cap bs last st gs osl (refV bs last at_ v)) := by
 have HN := Lib.hid (fun (W : World) (hb : Below w.heap.size w W) => next_any (h.bytes.mono hb) h.small at_ last)
 obtain ⟨R, hR⟩ : ∃ R, R = refV bs last at_ v := ⟨_, rfl⟩
 rw [← hR]
 unfold refV at hR
 simp only at hR
 have HWH := Lib.hid (fun (W : World) => whole_tk (nextV bs at_ last).1 (nextV bs at_ last).2.1 (nextV bs at_ last).2.2.1 W)
 have HN2 := Lib.hid (fun (W : World) (hb : Below w.heap.size w W) => next_any (h.bytes.mono hb) h.small (nextV bs at_ last).2.2.1 last)
 generalize nextV bs (nextV bs at_ last).2.2.1 last = V2 at *
 generalize nextV bs at_ last = V at *
 obtain ⟨x, gf, gt, ger⟩ := V
 obtain ⟨y, rf, rt, rer⟩ := V2
 simp only at hR HN2 HWH
 unfold NextEnd tokN at HN HN2
 unfold tokN at HWH
 simp only at HN HN2
 unfold pvA
 have HR := Lib.hid hR
 have HYS := Lib.hid (eq_mkB y.s [82])
 clear hR
 generalize x.kind = ga0 at *
 generalize x.vk = ga1 at *
 generalize x.vn = ga2 at *
 generalize mkB x.vs = gs1 at *
 generalize mkB x.s = gs2 at *
 generalize y.kind = ra0 at *
 generalize y.vk = ra1 at *
 generalize y.vn = ra2 at *
 generalize mkB y.vs = rs1 at *
 generalize mkB y.s = rs2 at *
 generalize wholeV x = wh at *
 obtain ⟨vk, vn, vs, vl⟩ := v
 simp only [PV.kind, PV.n, PV.s] at HR ⊢
 have HS := Lib.hid h
 have hpw := h.lt
 clear h
 go_enter Tryz.func162, Tryz.ntmps162
 go_wp2
 have HB1 := Lib.hid (belowA2 w (.cells #[.int .i64 vk, .int .i64 vn, .string (mkB vs), .slice none 0 0] 27) (.cells #[.int .i64 0, .int .i64 0, .string ⟨#[]⟩, .slice none 0 0] 27))
 have HS1 := Lib.hid (HS.out.mono HB1.out)
 have HK3 := Lib.hid (heapA_old (.cells #[.int .i64 0, .int .i64 0, .string ⟨#[]⟩, .slice none 0 0] 27) (heapA_new (w := w) (b := w.heap.size) (.cells #[.int .i64 vk, .int .i64 vn, .string (mkB vs), .slice none 0 0] 27) rfl))
 have HK4 := Lib.hid (heapA_new (w := w.alloc (.cells #[.int .i64 vk, .int .i64 vn, .string (mkB vs), .slice none 0 0] 27)) (b := w.heap.size + 1) (.cells #[.int .i64 0, .int .i64 0, .string ⟨#[]⟩, .slice none 0 0] 27) (by rw [sizeA]))
 generalize (w.alloc _).alloc _ = W1 at *
 obtain ⟨r, hr⟩ : ∃ r, r = w.heap.size := ⟨_, rfl⟩
 have hpr0 : p ≠ r := by omega
 have hpr1 : p ≠ r + 1 := by omega
 rw [← hr] at HK3 HK4 ⊢
 have HRR := Lib.hid hr
 clear hr hpw
 obtain ⟨⟨c0, c1, c2, c3⟩, f0, f1, f2, f3⟩ := HS1.out.cells
 go_upto_region 1 with fail
 go_cut [6, 7] from 9 (fun v6 v7 wx => ∃ r2, v6 = .pointer (some ⟨r2, 0, none⟩) ∧ v7 = .int .i64 ger ∧ Hid (TkM W1 wx r2 #[.int .i64 ga0, .int .i64 gf, .int .i64 gt, .int .i64 ga1, .int .i64 ga2, .string gs1, .slice none 0 0, .string gs2]))
 case first =>
   have HA1 := Lib.hid (fun o : Obj => (belowA W1 o).drew)
   have HA2 := Lib.hid (fun o : Obj => HB1.out.trans ((HA1.out o).mono (show w.heap.size ≤ W1.heap.size from HB1.out.size)))
   have HC0 : Hid (S3 W1 p 0 (.slice a bs.length cap) p 1 (.int .i64 at_) p 2 (.bool last)) := Lib.hid ⟨c0, c1, c2⟩
   have HPR : Hid (p ≠ W1.heap.size ∧ p ≠ W1.heap.size ∧ p ≠ W1.heap.size) := Lib.hid ⟨Nat.ne_of_lt (World.block_lt_of_cell? W1 _ c0), Nat.ne_of_lt (World.block_lt_of_cell? W1 _ c1), Nat.ne_of_lt (World.block_lt_of_cell? W1 _ c2)⟩
   go_region_held3 (fun w' => w'.cell? ⟨p, 0, none⟩ = some (.slice a bs.length cap) ∧ w'.cell? ⟨p, 1, none⟩ = some (.int .i64 at_) ∧ w'.cell? ⟨p, 2, none⟩ = some (.bool last))
     ((show S3 _ p 0 (.slice a bs.length cap) p 1 (.int .i64 at_) p 2 (.bool last); (first
       | (with_reducible exact HC0.out.drew)
       | (with_reducible exact HC0.out)
       | (with_reducible exact (HC0.out.alloc _).drew)
       | (with_reducible exact Hid.out (by assumption))
       | (with_reducible exact S3.alloc (Hid.out (by assumption)) _)
       | (with_reducible exact S3.set8 (Hid.out (by assumption)) HPR.out.1 HPR.out.2.1 HPR.out.2.2 _ _ _ _ _ _ _ _))))
     ((go_at_call 116; first
       | ((with_reducible refine (HN.out _ HB1.out.drew).mono ?_); rintro e wN ⟨rfl, hbN⟩; have hbM : Below W1.heap.size W1 wN := (Below.refl _ _).drew.trans hbN; have HSN := Lib.hid (HC0.out.below hbM))
       | ((with_reducible refine (HN.out _ (HA2.out _)).mono ?_); rintro e wN ⟨rfl, hbN⟩; have hbM : Below W1.heap.size W1 wN := (HA1.out _).trans (hbN.mono (HA1.out _).size); have HSN := Lib.hid (HC0.out.below hbM); have HZ := Lib.hid (block_keep hbN (heapA_new (w := W1) (b := W1.heap.size) (.cells #[.int .i64 0, .int .i64 0, .int .i64 0, .int .i64 0, .int .i64 0, .string ⟨#[]⟩, .slice none 0 0, .string ⟨#[]⟩] 152) rfl)); obtain ⟨⟨z0, z1, z2, z3, z4, z5, z6, z7⟩, y0, y1, y2, y3, y4, y5, y6, y7⟩ := cells8 HZ.out)))
   all_goals
     first
       | (obtain ⟨W2, hW2⟩ : ∃ W2, W2 = wN.alloc (.cells #[.int .i64 ga0, .int .i64 gf, .int .i64 gt, .int .i64 ga1, .int .i64 ga2, .string gs1, .slice none 0 0, .string gs2] 152) := ⟨_, rfl⟩
          rw [← hW2]
          have HT := Lib.hid (show TkM W1 W2 wN.heap.size #[.int .i64 ga0, .int .i64 gf, .int .i64 gt, .int .i64 ga1, .int .i64 ga2, .string gs1, .slice none 0 0, .string gs2] from ⟨by rw [hW2]; exact hbM.alloc hbM.size _, by rw [hW2]; exact heapA_new _ rfl, hbM.size⟩)
          obtain ⟨r2, hr2⟩ : ∃ r2, r2 = wN.heap.size := ⟨_, rfl⟩
          rw [← hr2] at HT ⊢)
       | (obtain ⟨W2, hW2⟩ : ∃ W2, W2 = ((((((((wN.setCell ⟨W1.heap.size, 0, none⟩ (.int .i64 ga0)).setCell ⟨W1.heap.size, 1, none⟩ (.int .i64 gf)).setCell ⟨W1.heap.size, 2, none⟩ (.int .i64 gt)).setCell ⟨W1.heap.size, 3, none⟩ (.int .i64 ga1)).setCell ⟨W1.heap.size, 4, none⟩ (.int .i64 ga2)).setCell ⟨W1.heap.size, 5, none⟩ (.string gs1)).setCell ⟨W1.heap.size, 6, none⟩ (.slice none 0 0)).setCell ⟨W1.heap.size, 7, none⟩ (.string gs2)) := ⟨_, rfl⟩
          rw [← hW2]
          have HT := Lib.hid (show TkM W1 W2 W1.heap.size #[.int .i64 ga0, .int .i64 gf, .int .i64 gt, .int .i64 ga1, .int .i64 ga2, .string gs1, .slice none 0 0, .string gs2] from ⟨by rw [hW2]; exact below_set8 hbM (Nat.le_refl _) _ _ _ _ _ _ _ _, by rw [hW2]; exact set8 HZ.out _ _ _ _ _ _ _ _, Nat.le_refl _⟩)
          clear z0 z1 z2 z3 z4 z5 z6 z7 y0 y1 y2 y3 y4 y5 y6 y7 HZ
          obtain ⟨r2, hr2⟩ : ∃ r2, r2 = W1.heap.size := ⟨_, rfl⟩
          rw [← hr2] at HT ⊢)
     clear hW2 hr2 hbN hbM HSN
   all_goals
     go_wp2
     go_meet
     exact ⟨r2, rfl, rfl, HT⟩
 case rest =>
   obtain ⟨r2, rfl, rfl, HT⟩ := hcut
   have HS2 := Lib.hid (HS1.out.mono HT.out.bel)
   have HB2 := Lib.hid (HB1.out.trans (HT.out.bel.mono HB1.out.size))
   have HL3 := Lib.hid (block_keep HT.out.bel HK3.out)
   have HL4 := Lib.hid (block_keep HT.out.bel HK4.out)
   have HTK := Lib.hid HT.out.blk
   clear c0 c1 c2 c3 f0 f1 f2 f3 HT HK3 HK4 HS1 HB1 HN
   have hmv := Lib.hid (fun e w => more_any e w)
   by_cases hg : ger = 0
   case neg =>
     have e1 : (ger == 0) = false := by rw [beq_eq_false_iff_ne]; exact hg
     have e2 : (ger != 0) = true := by simp only [bne, e1, Bool.not_false]
     have hr2 := HR.out
     rw [if_pos (.inl hg)] at hr2
     have HR2 := Lib.hid hr2
     obtain ⟨⟨k0, k1, k2, k3⟩, m0, m1, m2, m3⟩ := cells4 HL3.out
     obtain ⟨⟨q0, q1, q2, q3⟩, n0, n1, n2, n3⟩ := cells4 HL4.out
     clear hr2 hg HR HN2
     go_wp2
     go_region_with ((go_at_call 191; refine (hmv.out _ _).mono ?_; rintro e w' ⟨rfl, rfl⟩))
     all_goals
       go_wp2
       refine bodyPost_ret (results_val rfl _ _ (r + 1) 27 _ (0, 0) _ rfl (by exact set4 HL4.out _ _ _ _) Tryz.underlying27 rfl (by exact infoPV) _ rfl) rfl ?_
       rw [HR2.out]
       exact ⟨rfl, drew4 (fin4 HS.out HB2.out (by rw [HRR.out]; exact Nat.le_succ _) (lt_of_heap HL4.out) _ _ _ _)⟩
   subst hg
   cases wh with
   | false =>
     have hr2 := HR.out
     rw [if_pos (.inr rfl)] at hr2
     have HR2 := Lib.hid hr2
     obtain ⟨⟨k0, k1, k2, k3, k4, k5, k6, k7⟩, -⟩ := cells8 HTK.out
     clear hr2 HR HN2
     go_wp2_with fail
     refine (HWH.out _).mono ?_
     rintro e w' ⟨rfl, hb⟩
     have HL3b := Lib.hid (block_keep hb HL3.out)
     have HL4b := Lib.hid (block_keep hb HL4.out)
     have HB3 := Lib.hid (HB2.out.trans (hb.mono HB2.out.size))
     obtain ⟨⟨k0, k1, k2, k3⟩, m0, m1, m2, m3⟩ := cells4 HL3b.out
     obtain ⟨⟨q0, q1, q2, q3⟩, n0, n1, n2, n3⟩ := cells4 HL4b.out
     clear hb
     go_wp2
     go_region_with ((go_at_call 191; refine (hmv.out _ _).mono ?_; rintro e w' ⟨rfl, rfl⟩))
     all_goals
       go_wp2
       refine bodyPost_ret (results_val rfl _ _ (r + 1) 27 _ (0, 0) _ rfl (by exact set4 HL4b.out _ _ _ _) Tryz.underlying27 rfl (by exact infoPV) _ rfl) rfl ?_
       rw [HR2.out]
       exact ⟨rfl, drew4 (fin4 HS.out HB3.out (by rw [HRR.out]; exact Nat.le_succ _) (lt_of_heap HL4b.out) _ _ _ _)⟩
   | true =>
     have hr1 := HR.out
     rw [if_neg (by simp)] at hr1
     have HRX := Lib.hid hr1
     obtain ⟨⟨k0, k1, k2, k3, k4, k5, k6, k7⟩, -⟩ := cells8 HTK.out
     clear hr1 HR
     go_upto_region 4 with (go_at_call 96; refine (HWH.out _).mono ?_; rintro e W3 ⟨rfl, hb3⟩)
     have HB3 := Lib.hid (HB2.out.trans (hb3.mono HB2.out.size))
     have HS3 := Lib.hid (HS2.out.mono hb3)
     have HL3b := Lib.hid (block_keep hb3 HL3.out)
     have HL4b := Lib.hid (block_keep hb3 HL4.out)
     have HTKb := Lib.hid (block_keep hb3 HTK.out)
     clear hb3 k0 k1 k2 k3 k4 k5 k6 k7
     go_cut [7, 8] from 9 (fun v7 v8 wx => ∃ r3, v7 = .int .i64 rer ∧ v8 = .pointer (some ⟨r3, 0, none⟩) ∧ Hid (TkM W3 wx r3 #[.int .i64 ra0, .int .i64 rf, .int .i64 rt, .int .i64 ra1, .int .i64 ra2, .string rs1, .slice none 0 0, .string rs2]))
     case first =>
       obtain ⟨⟨k0, k1, k2, k3, k4, k5, k6, k7⟩, -⟩ := cells8 HTKb.out
       obtain ⟨⟨c0, c1, c2, c3⟩, -⟩ := HS3.out.cells
       clear k0 k1 k3 k4 k5 k6 k7 c1 c3
       have HA1 := Lib.hid (fun o : Obj => (belowA W3 o).drew)
       have HA2 := Lib.hid (fun o : Obj => HB3.out.trans ((HA1.out o).mono (show w.heap.size ≤ W3.heap.size from HB3.out.size)))
       have HC0 : Hid (S3 W3 p 0 (.slice a bs.length cap) r2 2 (.int .i64 gt) p 2 (.bool last)) := Lib.hid ⟨c0, k2, c2⟩
       have HPR : Hid (p ≠ W3.heap.size ∧ r2 ≠ W3.heap.size ∧ p ≠ W3.heap.size) := Lib.hid ⟨Nat.ne_of_lt (World.block_lt_of_cell? W3 _ c0), Nat.ne_of_lt (World.block_lt_of_cell? W3 _ k2), Nat.ne_of_lt (World.block_lt_of_cell? W3 _ c2)⟩
       go_region_held3 (fun w' => w'.cell? ⟨p, 0, none⟩ = some (.slice a bs.length cap) ∧ w'.cell? ⟨r2, 2, none⟩ = some (.int .i64 gt) ∧ w'.cell? ⟨p, 2, none⟩ = some (.bool last))
         ((show S3 _ p 0 (.slice a bs.length cap) r2 2 (.int .i64 gt) p 2 (.bool last); (first
           | (with_reducible exact HC0.out.drew)
           | (with_reducible exact HC0.out)
           | (with_reducible exact (HC0.out.alloc _).drew)
           | (with_reducible exact Hid.out (by assumption))
           | (with_reducible exact S3.alloc (Hid.out (by assumption)) _)
           | (with_reducible exact S3.set8 (Hid.out (by assumption)) HPR.out.1 HPR.out.2.1 HPR.out.2.2 _ _ _ _ _ _ _ _))))
         ((go_at_call 116; first
           | ((with_reducible refine (HN2.out _ HB3.out.drew).mono ?_); rintro e wN ⟨rfl, hbN⟩; have hbM : Below W3.heap.size W3 wN := (Below.refl _ _).drew.trans hbN; have HSN := Lib.hid (HC0.out.below hbM))
           | ((with_reducible refine (HN2.out _ (HA2.out _)).mono ?_); rintro e wN ⟨rfl, hbN⟩; have hbM : Below W3.heap.size W3 wN := (HA1.out _).trans (hbN.mono (HA1.out _).size); have HSN := Lib.hid (HC0.out.below hbM); have HZ := Lib.hid (block_keep hbN (heapA_new (w := W3) (b := W3.heap.size) (.cells #[.int .i64 0, .int .i64 0, .int .i64 0, .int .i64 0, .int .i64 0, .string ⟨#[]⟩, .slice none 0 0, .string ⟨#[]⟩] 152) rfl)); obtain ⟨⟨z0, z1, z2, z3, z4, z5, z6, z7⟩, y0, y1, y2, y3, y4, y5, y6, y7⟩ := cells8 HZ.out)))
       all_goals
         first
           | (obtain ⟨W2, hW2⟩ : ∃ W2, W2 = wN.alloc (.cells #[.int .i64 ra0, .int .i64 rf, .int .i64 rt, .int .i64 ra1, .int .i64 ra2, .string rs1, .slice none 0 0, .string rs2] 152) := ⟨_, rfl⟩
              rw [← hW2]
              have HT := Lib.hid (show TkM W3 W2 wN.heap.size #[.int .i64 ra0, .int .i64 rf, .int .i64 rt, .int .i64 ra1, .int .i64 ra2, .string rs1, .slice none 0 0, .string rs2] from ⟨by rw [hW2]; exact hbM.alloc hbM.size _, by rw [hW2]; exact heapA_new _ rfl, hbM.size⟩)
              obtain ⟨r2_1, hr2⟩ : ∃ r2_1, r2_1 = wN.heap.size := ⟨_, rfl⟩
              rw [← hr2] at HT ⊢)
           | (obtain ⟨W2, hW2⟩ : ∃ W2, W2 = ((((((((wN.setCell ⟨W3.heap.size, 0, none⟩ (.int .i64 ra0)).setCell ⟨W3.heap.size, 1, none⟩ (.int .i64 rf)).setCell ⟨W3.heap.size, 2, none⟩ (.int .i64 rt)).setCell ⟨W3.heap.size, 3, none⟩ (.int .i64 ra1)).setCell ⟨W3.heap.size, 4, none⟩ (.int .i64 ra2)).setCell ⟨W3.heap.size, 5, none⟩ (.string rs1)).setCell ⟨W3.heap.size, 6, none⟩ (.slice none 0 0)).setCell ⟨W3.heap.size, 7, none⟩ (.string rs2)) := ⟨_, rfl⟩
              rw [← hW2]
              have HT := Lib.hid (show TkM W3 W2 W3.heap.size #[.int .i64 ra0, .int .i64 rf, .int .i64 rt, .int .i64 ra1, .int .i64 ra2, .string rs1, .slice none 0 0, .string rs2] from ⟨by rw [hW2]; exact below_set8 hbM (Nat.le_refl _) _ _ _ _ _ _ _ _, by rw [hW2]; exact set8 HZ.out _ _ _ _ _ _ _ _, Nat.le_refl _⟩)
              clear z0 z1 z2 z3 z4 z5 z6 z7 y0 y1 y2 y3 y4 y5 y6 y7 HZ
              obtain ⟨r2_1, hr2⟩ : ∃ r2_1, r2_1 = W3.heap.size := ⟨_, rfl⟩
              rw [← hr2] at HT ⊢)
         clear hW2 hr2 hbN hbM HSN
       all_goals
         go_wp2
         go_meet
         exact ⟨r2_1, rfl, rfl, HT⟩
     case rest =>
       obtain ⟨r3, rfl, rfl, HT⟩ := hcut
       have HS4 := Lib.hid (HS3.out.mono HT.out.bel)
       have HB4 := Lib.hid (HB3.out.trans (HT.out.bel.mono HB3.out.size))
       have HM3 := Lib.hid (block_keep HT.out.bel HL3b.out)
       have HM4 := Lib.hid (block_keep HT.out.bel HL4b.out)
       have HU1 := Lib.hid (block_keep HT.out.bel HTKb.out)
       have HU2 := Lib.hid HT.out.blk
       clear HT
       obtain ⟨⟨k0, k1, k2, k3⟩, m0, m1, m2, m3⟩ := cells4 HM3.out
       obtain ⟨⟨q0, q1, q2, q3⟩, n0, n1, n2, n3⟩ := cells4 HM4.out
       obtain ⟨⟨t0, t1, t2, t3, t4, t5, t6, t7⟩, -⟩ := cells8 HU2.out
       obtain ⟨⟨d0, d1, d2, d3, d4, d5, d6, d7⟩, -⟩ := cells8 HU1.out
       obtain ⟨⟨c0, c1, c2, c3⟩, f0, f1, f2, f3⟩ := HS4.out.cells
       have hys := HYS.out
       by_cases h0 : rer = 0
       case neg =>
         have e1 : (rer == 0) = false := by rw [beq_eq_false_iff_ne]; exact h0
         have e2 : (rer != 0) = true := by simp only [bne, e1, Bool.not_false]
         have hr2 := HRX.out
         rw [if_pos (.inl h0)] at hr2
         have HR2 := Lib.hid hr2
         clear hr2 h0 hys
         go_wp2
         go_region_with ((go_at_call 191; refine (hmv.out _ _).mono ?_; rintro e w' ⟨rfl, rfl⟩))
         all_goals
           go_wp2
           refine bodyPost_ret (results_val rfl _ _ (r + 1) 27 _ (0, 0) _ rfl (by exact set4 HM4.out _ _ _ _) Tryz.underlying27 rfl (by exact infoPV) _ rfl) rfl ?_
           rw [HR2.out]
           exact ⟨rfl, drew4 (fin4 HS.out HB4.out (by rw [HRR.out]; exact Nat.le_succ _) (lt_of_heap HM4.out) _ _ _ _)⟩
       subst h0
       by_cases h6 : ra0 = 6
       case neg =>
         have e1 : (ra0 == 6) = false := by rw [beq_eq_false_iff_ne]; exact h6
         have e2 : (ra0 != 6) = true := by simp only [bne, e1, Bool.not_false]
         have hr2 := HRX.out
         rw [if_pos (.inr (.inl h6))] at hr2
         have HR2 := Lib.hid hr2
         clear hr2 h6 hys
         go_wp2
         go_region_with ((go_at_call 191; refine (hmv.out _ _).mono ?_; rintro e w' ⟨rfl, rfl⟩))
         all_goals
           go_wp2
           refine bodyPost_ret (results_val rfl _ _ (r + 1) 27 _ (0, 0) _ rfl (by exact set4 HM4.out _ _ _ _) Tryz.underlying27 rfl (by exact infoPV) _ rfl) rfl ?_
           rw [HR2.out]
           exact ⟨rfl, drew4 (fin4 HS.out HB4.out (by rw [HRR.out]; exact Nat.le_succ _) (lt_of_heap HM4.out) _ _ _ _)⟩
       subst h6
       by_cases hs : y.s = [82]
       case neg =>
         rw [decide_eq_false hs] at hys
         have hr2 := HRX.out
         rw [if_pos (.inr (.inr hs))] at hr2
         have HR2 := Lib.hid hr2
         clear hr2 hs
         go_wp2
         go_region_with ((go_at_call 191; refine (hmv.out _ _).mono ?_; rintro e w' ⟨rfl, rfl⟩))
         all_goals
           go_wp2
           refine bodyPost_ret (results_val rfl _ _ (r + 1) 27 _ (0, 0) _ rfl (by exact set4 HM4.out _ _ _ _) Tryz.underlying27 rfl (by exact infoPV) _ rfl) rfl ?_
           rw [HR2.out]
           exact ⟨rfl, drew4 (fin4 HS.out HB4.out (by rw [HRR.out]; exact Nat.le_succ _) (lt_of_heap HM4.out) _ _ _ _)⟩
       rw [decide_eq_true hs] at hys
       have hr2 := HRX.out
       rw [if_neg (by rintro (h | h | h); exact h rfl; exact h rfl; exact h hs)] at hr2
       have HRY := Lib.hid hr2
       clear hr2 hs
       by_cases hv1 : vn < 1
       case pos =>
         have hd : decide (vn < 1) = true := decide_eq_true hv1
         have hr2 := HRY.out.trans (if_pos (show vn < 1 ∨ 4096 < vn ∨ ga2 ≠ 0 from .inl hv1))
         have HR2 := Lib.hid hr2
         clear hr2 hv1
         go_wp2
         refine bodyPost_ret (results_val rfl _ _ (r + 1) 27 _ (0, 0) _ rfl (by exact set4 HM4.out _ _ _ _) Tryz.underlying27 rfl (by exact infoPV) _ rfl) rfl ?_
         rw [HR2.out]
         exact ⟨rfl, fin4 HS.out HB4.out (by rw [HRR.out]; exact Nat.le_succ _) (lt_of_heap HM4.out) _ _ _ _⟩
       have hd1 : decide (vn < 1) = false := decide_eq_false hv1
       by_cases hv2 : 4096 < vn
       case pos =>
         have hd : decide (4096 < vn) = true := decide_eq_true hv2
         have hr2 := HRY.out.trans (if_pos (show vn < 1 ∨ 4096 < vn ∨ ga2 ≠ 0 from .inr (.inl hv2)))
         have HR2 := Lib.hid hr2
         clear hr2 hv2 hv1
         go_wp2
         refine bodyPost_ret (results_val rfl _ _ (r + 1) 27 _ (0, 0) _ rfl (by exact set4 HM4.out _ _ _ _) Tryz.underlying27 rfl (by exact infoPV) _ rfl) rfl ?_
         rw [HR2.out]
         exact ⟨rfl, fin4 HS.out HB4.out (by rw [HRR.out]; exact Nat.le_succ _) (lt_of_heap HM4.out) _ _ _ _⟩
       have hd2 : decide (4096 < vn) = false := decide_eq_false hv2
       by_cases hg2 : ga2 = 0
       case neg =>
         have e1 : (ga2 == 0) = false := by rw [beq_eq_false_iff_ne]; exact hg2
         have e2 : (ga2 != 0) = true := by simp only [bne, e1, Bool.not_false]
         have hr2 := HRY.out.trans (if_pos (show vn < 1 ∨ 4096 < vn ∨ ga2 ≠ 0 from .inr (.inr hg2)))
         have HR2 := Lib.hid hr2
         clear hr2 hv2 hv1 hg2
         go_wp2
         refine bodyPost_ret (results_val rfl _ _ (r + 1) 27 _ (0, 0) _ rfl (by exact set4 HM4.out _ _ _ _) Tryz.underlying27 rfl (by exact infoPV) _ rfl) rfl ?_
         rw [HR2.out]
         exact ⟨rfl, fin4 HS.out HB4.out (by rw [HRR.out]; exact Nat.le_succ _) (lt_of_heap HM4.out) _ _ _ _⟩
       subst hg2
       have hr2 := HRY.out.trans (if_neg (show ¬ (vn < 1 ∨ 4096 < vn ∨ (0 : Int) ≠ 0) by rintro (h | h | h); exact hv1 h; exact hv2 h; exact h rfl))
       have HR2 := Lib.hid hr2
       clear hr2 hv2 hv1
       go_wp2
       refine bodyPost_ret (results_val rfl _ _ (r + 1) 27 _ (0, 0) _ rfl (by exact set4 ((heap_setCell_other _ _ _ _ (Ne.symm hpr1)).trans HM4.out) _ _ _ _) Tryz.underlying27 rfl (by exact infoPV) _ rfl) rfl ?_
       rw [HR2.out]
       exact ⟨rfl, fin4a HS.out HB4.out (by rw [HRR.out]; exact Nat.le_succ _) (lt_of_heap HM4.out) _ _ _ _ _⟩
end
section
variable {w0 w w' : World} {F F' G : Nat → Prop} {p : Nat} {a : Option Addr} {cap : Nat} {bs : List UInt8} {last : Bool} {st : List Lv} {at_ : Int} {gs : List Nat} {osl : Value}
theorem IsStk.top (h : IsStk w0 w F G p a cap bs last st at_ gs osl) : (st = [] ∧ gs = []) ∨ ∃ v st' g t sa sc, st = v :: st' ∧ gs = g :: t ∧ v.l.length ≤ sc ∧ sc ≤ maxLen ∧ w.heap[g]? = some (.cells #[.bool v.dict, .slice sa v.l.length sc] 168 (0, 0)) := by
 cases st with
 | nil => exact .inl ⟨rfl, List.eq_nil_of_length_eq_zero (by rw [h.lvs.len]; rfl)⟩
 | cons v st' =>
   obtain ⟨g, t, sl, cs, h1, h2, h3, h4, h5, h6, h7, h8⟩ := h.lvs
   obtain ⟨sa, sc, rfl, h9, h10⟩ := owns_slice h5
   exact .inr ⟨v, st', g, t, sa, sc, rfl, h1, h9, h10, h4⟩
theorem single_any (h : IsStk w0 w F G p a cap bs last st at_ gs osl) (x : Tk) (f t : Int) : Calls Tryz.prog 121 #[.pointer (some ⟨p, 0, none⟩), .agg (tokN x f t)] w (RefEnd w0 w F G p a cap bs last st gs osl (singleV bs last st at_ x)) := by
 obtain ⟨R, hR⟩ : ∃ R, R = singleV bs last st at_ x := ⟨_, rfl⟩
 rw [← hR]
 unfold singleV at hR
 have HR := Lib.hid hR
 have HTOP := Lib.hid (fun (W : World) (hb : Below w.heap.size w W) => top_any (h.mono hb))
 have HTP := Lib.hid (fun (W : World) (hb : Below w.heap.size w W) => (h.mono hb).top)
 have HREF := Lib.hid (fun (W : World) (hb : Below w.heap.size w W) (hl : w.heap.size + 1 < W.heap.size) => ref_any (h.res (G' := fun b => G b ∨ b = w.heap.size + 1) hb (fun b h => h.imp id fun e => by rw [e]; exact ⟨Nat.le_succ _, hl⟩)) (tkV x))
 have HWD := Lib.hid (fun (W : World) => pword_any x.s W)
 have HWH := Lib.hid (fun (W : World) => whole_tk x f t W)
 have HTK := Lib.hid (show tkV x = .mk x.vk x.vn x.vs [] from rfl)
 generalize tkV x = TV at *
 unfold tokN at *
 generalize wholeV x = wh at *
 generalize x.kind = a0 at *
 generalize x.vk = a1 at *
 generalize x.vn = a2 at *
 generalize hxs : x.vs = xs at *
 generalize x.s = ys at *
 have HS := Lib.hid h
 have hpw := h.lt
 clear h hR hxs
 go_enter Tryz.func121, Tryz.ntmps121
 go_wp2_with fail
 have HB1 := Lib.hid (belowA2 w (.cells #[.int .i64 a0, .int .i64 f, .int .i64 t, .int .i64 a1, .int .i64 a2, .string (mkB xs), .slice none 0 0, .string (mkB ys)] 152) (.cells #[.int .i64 0, .int .i64 0, .string ⟨#[]⟩, .slice none 0 0] 27))
 have HK3 := Lib.hid (heapA_old (.cells #[.int .i64 0, .int .i64 0, .string ⟨#[]⟩, .slice none 0 0] 27) (heapA_new (w := w) (b := w.heap.size) (.cells #[.int .i64 a0, .int .i64 f, .int .i64 t, .int .i64 a1, .int .i64 a2, .string (mkB xs), .slice none 0 0, .string (mkB ys)] 152) rfl))
 have HK4 := Lib.hid (heapA_new (w := w.alloc (.cells #[.int .i64 a0, .int .i64 f, .int .i64 t, .int .i64 a1, .int .i64 a2, .string (mkB xs), .slice none 0 0, .string (mkB ys)] 152)) (b := w.heap.size + 1) (.cells #[.int .i64 0, .int .i64 0, .string ⟨#[]⟩, .slice none 0 0] 27) (by rw [sizeA]))
 refine (HTOP.out _ HB1.out).mono ?_
 rintro e w1 ⟨rfl, q, rfl⟩
 generalize (w.alloc _).alloc _ = W1 at *
 have HB2 := Lib.hid (below_drewN HB1.out q)
 have HL3 := Lib.hid (show (W1.drewN q).heap[w.heap.size]? = _ from HK3.out)
 have HL4 := Lib.hid (show (W1.drewN q).heap[w.heap.size + 1]? = _ from HK4.out)
 clear HK3 HK4 HB1
 generalize W1.drewN q = W2 at *
 obtain ⟨r, hr⟩ : ∃ r, r = w.heap.size := ⟨_, rfl⟩
 have hpr0 : p ≠ r := by omega
 have hpr1 : p ≠ r + 1 := by omega
 rw [← hr] at HL3 HL4 ⊢
 have HRR := Lib.hid hr
 clear hr hpw
 go_upto_region 2 with fail
 go_cut [25] from 7 (fun v25 wx => ∃ c : Bool, v25 = .bool c ∧ Hid (c = true ↔ (topW st = true ∧ (a0 ≠ 1 ∨ a1 ≠ 5))) ∧ W2 = wx)
 case first =>
   obtain ⟨⟨k0, k1, k2, k3, k4, k5, k6, k7⟩, -⟩ := cells8 HL3.out
   rcases HTP.out _ HB2.out with ⟨rfl, rfl⟩ | ⟨v, st', g, t', sa, sc, rfl, rfl, h1, h2, h3⟩
   · unfold topP
     go_wp2
     go_meet
     exact ⟨false, rfl, Lib.hid (by simp [topW]), rfl⟩
   · have HWT := Lib.hid (wants_any h3 (by omega))
     have HTW := Lib.hid (show topW (v :: st') = (v.dict && v.l.length % 2 == 0) from rfl)
     unfold topP
     generalize (v.dict && v.l.length % 2 == 0) = tw at *
     clear h1 h2 h3
     cases tw
     · go_wp2_with (go_at_call 159; refine HWT.out.mono ?_; rintro e w' ⟨rfl, rfl⟩)
       go_meet
       exact ⟨false, rfl, Lib.hid (by rw [HTW.out]; simp), rfl⟩
     · by_cases h1 : a0 = 1
       · subst h1
         by_cases h5 : a1 = 5
         · subst h5
           go_wp2_with (go_at_call 159; refine HWT.out.mono ?_; rintro e w' ⟨rfl, rfl⟩)
           go_meet
           exact ⟨false, rfl, Lib.hid (by simp), rfl⟩
         · have e1 : (a1 == 5) = false := by rw [beq_eq_false_iff_ne]; exact h5
           have e2 : (a1 != 5) = true := by simp only [bne, e1, Bool.not_false]
           go_wp2_with (go_at_call 159; refine HWT.out.mono ?_; rintro e w' ⟨rfl, rfl⟩)
           go_meet
           exact ⟨true, rfl, Lib.hid (by rw [HTW.out]; simp [h5]), rfl⟩
       · have e1 : (a0 == 1) = false := by rw [beq_eq_false_iff_ne]; exact h1
         have e2 : (a0 != 1) = true := by simp only [bne, e1, Bool.not_false]
         go_wp2_with (go_at_call 159; refine HWT.out.mono ?_; rintro e w' ⟨rfl, rfl⟩)
         go_meet
         exact ⟨true, rfl, Lib.hid (by rw [HTW.out]; simp [h1]), rfl⟩
 case rest =>
   obtain ⟨c, rfl, HC, rfl⟩ := hcut
   have hr1 : w.heap.size ≤ r + 1 := by rw [HRR.out]; exact Nat.le_succ _
   have HR1 := Lib.hid hr1
   clear hr1
   cases c with
   | true =>
     have hr2 := HR.out
     rw [if_pos (HC.out.1 rfl)] at hr2
     have HR2 := Lib.hid hr2
     obtain ⟨⟨q0, q1, q2, q3⟩, n0, n1, n2, n3⟩ := cells4 HL4.out
     clear hr2 HR HREF HWD HWH
     go_wp2
     refine bodyPost_ret (results_val rfl _ _ (r + 1) 27 _ (0, 0) _ rfl (by exact set4 HL4.out _ _ _ _) Tryz.underlying27 rfl (by exact infoPV) _ rfl) rfl ?_
     rw [HR2.out]
     exact ⟨rfl, fin4 HS.out HB2.out HR1.out (lt_of_heap HL4.out) _ _ _ _⟩
   | false =>
     have hr2 := HR.out
     rw [if_neg (fun h => absurd (HC.out.2 h) (by decide))] at hr2
     have HRX := Lib.hid hr2
     obtain ⟨⟨k0, k1, k2, k3, k4, k5, k6, k7⟩, -⟩ := cells8 HL3.out
     clear hr2 HR HC
     by_cases h6 : a0 = 6
     · have hr2 := HRX.out
       rw [if_pos h6] at hr2
       subst h6
       have hr3 : R = ((wordE ys).1, at_, (wordE ys).2) := by
         rw [hr2]; unfold wordE; cases wordV ys <;> rfl
       have HR2 := Lib.hid hr3
       unfold pvA at HWD
       clear hr2 hr3 HRX
       go_wp2_with fail
       refine (HWD.out _).mono ?_
       rintro e w3 ⟨rfl, hb3⟩
       have HL4b := Lib.hid (block_keep hb3 HL4.out)
       have HB3 := Lib.hid (HB2.out.trans (hb3.mono HB2.out.size))
       obtain ⟨⟨q0, q1, q2, q3⟩, n0, n1, n2, n3⟩ := cells4 HL4b.out
       clear hb3
       go_wp2
       refine bodyPost_ret (results_val rfl _ _ (r + 1) 27 _ (0, 0) _ rfl (by exact set4 HL4b.out _ _ _ _) Tryz.underlying27 rfl (by exact infoPV) _ rfl) rfl ?_
       rw [HR2.out]
       exact ⟨rfl, fin4 HS.out HB3.out HR1.out (lt_of_heap HL4b.out) _ _ _ _⟩
     · have hr2 := HRX.out
       rw [if_neg h6] at hr2
       have HRY := Lib.hid hr2
       have e1 : (a0 == 6) = false := by rw [beq_eq_false_iff_ne]; exact h6
       clear hr2 h6 HRX
       go_wp2_with fail
       refine (HWH.out _).mono ?_
       rintro e w3 ⟨rfl, hb3⟩
       have HL3b := Lib.hid (block_keep hb3 HL3.out)
       have HL4b := Lib.hid (block_keep hb3 HL4.out)
       have HB3 := Lib.hid (HB2.out.trans (hb3.mono HB2.out.size))
       clear k0 k1 k2 k3 k4 k5 k6 k7 hb3
       obtain ⟨⟨k0, k1, k2, k3, k4, k5, k6, k7⟩, -⟩ := cells8 HL3b.out
       cases wh with
       | true =>
         have hr2 := HRY.out
         rw [if_pos rfl] at hr2
         have HR2 := Lib.hid hr2
         have HC2 := Lib.hid (HREF.out _ HB3.out (by rw [← HRR.out]; exact lt_of_heap HL4b.out))
         rw [HTK.out] at HC2
         unfold pvA at HC2
         simp only [PV.kind, PV.n, PV.s] at HC2
         clear hr2 HRY HREF
         go_wp2_with fail
         refine HC2.out.mono ?_
         rintro e w4 ⟨he, hs4, hk4⟩
         unfold pvA at he
         subst he
         have HL4c := Lib.hid (hk4.obj HL4b.out (fun e => hpr1 e.symm))
         have HS4 := Lib.hid hs4
         have HK4 := Lib.hid ((keeps_below HB3.out).trans hk4 (fun b hb => .inl hb))
         obtain ⟨⟨q0, q1, q2, q3⟩, n0, n1, n2, n3⟩ := cells4 HL4c.out
         clear hs4 hk4 HC2
         go_wp2
         refine bodyPost_ret (results_val rfl _ _ (r + 1) 27 _ (0, 0) _ rfl (by exact set4 HL4c.out _ _ _ _) Tryz.underlying27 rfl (by exact infoPV) _ rfl) rfl ?_
         rw [HR2.out]
         rw [HTK.out]
         exact ⟨rfl, (HS4.out.set4 (.inr (by rw [HRR.out])) _ _ _ _).give fun b hb => .inl hb, keeps_set4 HK4.out HR1.out _ _ _ _⟩
       | false =>
         have hr2 := HRY.out
         rw [if_neg (by decide)] at hr2
         have HR2 := Lib.hid hr2
         obtain ⟨⟨q0, q1, q2, q3⟩, n0, n1, n2, n3⟩ := cells4 HL4b.out
         clear hr2 HRY HREF
         go_wp2
         refine bodyPost_ret (results_val rfl _ _ (r + 1) 27 _ (0, 0) _ rfl (by exact set4 HL4b.out _ _ _ _) Tryz.underlying27 rfl (by exact infoPV) _ rfl) rfl ?_
         rw [HR2.out, HTK.out]
         exact ⟨rfl, fin4 HS.out HB3.out HR1.out (lt_of_heap HL4b.out) _ _ _ _⟩
end
theorem ptrs_cons (g : Nat) (gs : List Nat) : ptrs (g :: gs) = ptrs gs ++ [.pointer (some ⟨g, 0, none⟩)] := by simp [ptrs]
section
variable {w0 w w' : World} {F F' G G' : Nat → Prop} {p : Nat} {a : Option Addr} {cap : Nat} {bs : List UInt8} {last : Bool} {st : List Lv} {at_ : Int} {gs : List Nat} {osl : Value}
theorem IsStk.ownp (h : IsStk w0 w F G p a cap bs last st at_ gs osl) {b : Nat} (hb : osl.ownBlock = some b) : b ≠ p := by
 obtain ⟨cs, hc⟩ := owns_type h.own hb; exact type_ne hc h.blk (by decide)
theorem IsStk.ownF (h : IsStk w0 w F G p a cap bs last st at_ gs osl) {b : Nat} (hb : osl.ownBlock = some b) : ¬ F b := fun hf => by
 obtain ⟨cs, hc⟩ := owns_type h.own hb
 obtain ⟨_, _, ds, hd⟩ := h.fb b hf
 exact type_ne hc hd (by decide) rfl
theorem IsStk.Flt (h : IsStk w0 w F G p a cap bs last st at_ gs osl) {b : Nat} (hb : F b) : b < w.heap.size := by obtain ⟨_, _, cs, hc⟩ := h.fb b hb; exact lt_of_heap hc
theorem isLV_ne {w : World} {b c : Nat} {x : Array Value} {t : TypeId} {f : Nat × Nat} (h : IsLV w b) (hc : w.heap[c]? = some (.cells x t f)) (h1 : t ≠ 168) (h2 : t ≠ 27) : b ≠ c := by
 rcases h with ⟨cs, h⟩ | ⟨cs, h⟩
 · exact type_ne h hc (Ne.symm h1)
 · exact type_ne h hc (Ne.symm h2)
theorem IsStk.push (h : IsStk w0 w F G p a cap bs last st at_ gs osl) (d : Bool) (hd : st.length < 64) (o : Obj) {w2 : World} {v' : Value}
   (hO : w2.ownsRow w0.heap.size 165 1 v' (st.length + 1) (ptrs gs ++ [.pointer (some ⟨w.heap.size, 0, none⟩)]))
   (hg : ((w.alloc (.cells #[.bool d, .slice none 0 0] 168)).alloc o).grownBy w2 osl.ownBlock) (hN : NewAt ((w.alloc (.cells #[.bool d, .slice none 0 0] 168)).alloc o) osl v') :
   Nxt w0 w F G p a cap bs last ({ dict := d, l := [] } :: st) at_ F (w2.setCell ⟨p, 3, none⟩ v') := by
 have hs1 : ((w.alloc (.cells #[.bool d, .slice none 0 0] 168)).alloc o).heap.size = w.heap.size + 2 := by rw [sizeA, sizeA]
 have hs2 := hg.size
 rw [hs1] at hs2
 have hb1 := belowA2 w (.cells #[.bool d, .slice none 0 0] 168) o
 have hp := h.lt
 have hol : ∀ b, osl.ownBlock = some b → b < w.heap.size := fun b hb => (h.own.lt b hb).2
 have hkw : ∀ b, b < w.heap.size → osl.ownBlock ≠ some b → w2.heap[b]? = w.heap[b]? := fun b hb hn => (hg.block b (by rw [hs1]; omega) (fun e => hn e.symm)).trans (hb1.block b hb)
 have hk3 : ∀ b, b ≠ p → (w2.setCell ⟨p, 3, none⟩ v').heap[b]? = w2.heap[b]? := fun b hb => heap_setCell_other _ _ _ _ hb
 have hs3 : (w2.setCell ⟨p, 3, none⟩ v').heap.size = w2.heap.size := by simp [World.setCell]
 have hpo : osl.ownBlock ≠ some p := fun e => h.ownp e rfl
 have hgb : w2.heap[w.heap.size]? = some (.cells #[.bool d, .slice none 0 0] 168 (0, 0)) := by
   rw [hg.block w.heap.size (by rw [hs1]; omega) (fun e => by have := hol _ e.symm; omega)]
   exact heapA_old o (heapA_new _ rfl)
 have hp2 : w2.heap[p]? = _ := (hkw p hp hpo).trans h.blk
 have hv' : ∀ b, v'.ownBlock = some b → b ≠ p := fun b hb => by obtain ⟨cs, hc⟩ := owns_type hO hb; exact type_ne hc hp2 (by decide)
 have hFs : Stays F w (w2.setCell ⟨p, 3, none⟩ v') := ⟨by omega, fun b hb hf => by
   rw [hk3 b (h.notF hf), hkw b hb (fun e => h.ownF e hf)]⟩
 refine ⟨⟨w.heap.size :: gs, v', heap_setCell_same w2 p 3 _ _ _ hp2, h.base, h.gp, ?_, fun b hb hG => ?_, ?_, fun b hb => ?_, fun b hb => ?_, ?_, h.row, h.small, by simp; omega⟩, ⟨by omega, fun b hb hG => ?_⟩, hFs, fun _ h => h⟩
 · rw [ptrs_cons]; exact owns_heap hO fun b hb => hk3 b (hv' b hb)
 · rcases hN b hb with e | e
   · exact h.go b e hG
   · have := (h.gb b hG).2; rw [hs1] at e; omega
 · refine ⟨w.heap.size, gs, .slice none 0 0, [], rfl, h.bel.size, fun hG => by have := (h.gb _ hG).2; omega, (hk3 _ (by omega)).trans hgb, World.ownsRow_nil _ _ _ _, rfl, fun b hb => (by cases hb), ?_⟩
   refine h.lvs.keep' hFs (fun _ h => h) (fun b hb hn hl => ?_) (fun b hb => .inl hb) (fun b hb => ?_)
   · rw [hk3 b (isLV_ne hl h.blk (by decide) (by decide)), hkw b hb (fun e => by obtain ⟨cs, hc⟩ := owns_type h.own e; exact isLV_ne hl hc (by decide) (by decide) rfl)]
   · rcases hb with hb | hb | hb
     · exact .inl hb
     · exact .inr (Nat.le_of_eq hb.symm)
     · cases hb
 · obtain ⟨h1, h2, cs, h3⟩ := h.fb b hb
   exact ⟨h1, h2, cs, by rw [hFs.2 b (h.Flt hb) hb]; exact h3⟩
 · have := h.gb b hb; omega
 · refine h.bel.trans (Below.setCell (w := w2) (a := w) (p := ⟨p, 3, none⟩) ⟨?_, ?_, ?_, ?_, fun b hb => ?_⟩ h.base _)
   · exact hg.os.trans hb1.os
   · exact hg.tape.trans hb1.tape
   · exact hg.output.trans hb1.output
   · have := h.bel.size; omega
   · exact hkw b (by have := h.bel.size; omega) (fun e => by have := (h.own.lt b e).1; omega)
 · rw [hk3 b (fun e => h.gp (e ▸ hG)), hkw b hb (fun e => h.go b e hG)]
theorem IsStk.pop {v : Lv} (h : IsStk w0 w F G p a cap bs last (v :: st) at_ gs osl) {ao : Option Addr} {oc : Nat} (ho : osl = .slice ao (st.length + 1) oc) :
   ∃ F' sl, (∀ b, F b → F' b) ∧ (∃ g t cs, gs = g :: t ∧ w.heap[g]? = some (.cells #[.bool v.dict, sl] 168 (0, 0)) ∧ w.ownsRow w0.heap.size 27 4 sl v.l.length cs ∧ IsVs w F' v.l cs ∧ (∀ b, sl.ownBlock = some b → F' b)) ∧
     Nxt w0 w F G p a cap bs last st at_ F' (w.setCell ⟨p, 3, none⟩ (.slice ao st.length oc)) := by
 obtain ⟨g, t, sl, cs, h1, h2, h3, h4, h5, h6, h7, h8⟩ := h.lvs
 have hk3 : ∀ b, b ≠ p → (w.setCell ⟨p, 3, none⟩ (.slice ao st.length oc)).heap[b]? = w.heap[b]? := fun b hb => heap_setCell_other _ _ _ _ hb
 have hs3 : (w.setCell ⟨p, 3, none⟩ (.slice ao st.length oc)).heap.size = w.heap.size := by simp [World.setCell]
 have hsp : ∀ b, sl.ownBlock = some b → b ≠ p := fun b hb => by obtain ⟨cs, hc⟩ := owns_type h5 hb; exact type_ne hc h.blk (by decide)
 subst ho h1
 have hFs : Stays F w (w.setCell ⟨p, 3, none⟩ (.slice ao st.length oc)) := ⟨by omega, fun b hb hf => hk3 b (h.notF hf)⟩
 refine ⟨fun b => F b ∨ sl.ownBlock = some b, sl, fun b hb => .inl hb, ⟨g, t, cs, rfl, h4, h5, h6.weaken (fun b hb => .inl hb), fun b hb => .inr hb⟩, ⟨t, .slice ao st.length oc, heap_setCell_same w p 3 _ _ _ h.blk, h.base, h.gp, ?_, fun b hb => ?_, ?_, fun b hb => ?_, fun b hb => by rw [hs3]; exact h.gb b hb, h.bel.trans ((Below.refl _ _).setCell h.base _), h.row, h.small, by have := h.deep; simp at this; omega⟩,
   ⟨by omega, fun b hb hG => hk3 b (fun e => h.gp (e ▸ hG))⟩, hFs, fun b hb => .inl hb⟩
 · have ho := h.own
   rw [ptrs_cons] at ho
   obtain ⟨hl, ho⟩ := ho
   rcases ho with ⟨hn, -⟩ | ⟨gg, cc, cur, hv, hb, hh, hc1, hc2, hc3, hc4⟩
   · simp at hn
   · simp only [Value.slice.injEq] at hv
     obtain ⟨rfl, -, rfl⟩ := hv
     have hlp : (ptrs t).length = st.length := by simpa using hl
     refine ⟨by simpa using hlp, .inr ⟨gg, oc, cur, rfl, hb, ?_, by simp at hc1; omega, hc2, hc3, ?_⟩⟩
     · rw [hk3 gg (by intro e; subst e; exact h.ownp rfl rfl)]; exact hh
     · have := congrArg (List.take st.length) hc4
       simpa [List.take_take, hlp] using this
 · refine h.go b ?_
   cases ao with
   | none => cases hb
   | some x => exact hb
 · refine h8.keep' hFs (fun b hb => .inl hb) (fun b hb hn hl => hk3 b (isLV_ne hl h.blk (by decide) (by decide))) (fun b hb => ?_) (fun b hb => .inl (.inl hb))
   rcases hb with hb | hb
   · exact .inl hb
   · exact .inr (.inl (.inr (.inr hb)))
 · rcases hb with hb | hb
   · obtain ⟨k1, k2, ds, k3⟩ := h.fb b hb
     exact ⟨k1, k2, ds, by rw [hk3 b (h.notF hb)]; exact k3⟩
   · obtain ⟨ds, k3⟩ := owns_type h5 hb
     exact ⟨(h5.lt b hb).1, (h7 b hb).2, ds, by rw [hk3 b (hsp b hb)]; exact k3⟩
theorem IsStk.lastL {v : Lv} (h : IsStk w0 w F G p a cap bs last (v :: st) at_ gs osl) : ∃ g t sa sc cs, gs = g :: t ∧ v.l.length ≤ sc ∧ sc ≤ maxLen ∧ w0.heap.size ≤ g ∧ ¬ G g ∧ w.heap[g]? = some (.cells #[.bool v.dict, .slice sa v.l.length sc] 168 (0, 0)) ∧
   w.ownsRow w0.heap.size 27 4 (.slice sa v.l.length sc) v.l.length cs ∧ IsVs w F v.l cs ∧ ∀ b, (Value.slice sa v.l.length sc).ownBlock = some b → ¬ F b ∧ ¬ G b := by
 obtain ⟨g, t, sl, cs, h1, h2, h3, h4, h5, h6, h7, h8⟩ := h.lvs
 obtain ⟨sa, sc, rfl, h9, h10⟩ := owns_slice h5
 exact ⟨g, t, sa, sc, cs, h1, h9, h10, h2, h3, h4, h5, h6, h7⟩
theorem IsStk.put {v : Lv} {g : Nat} {t : List Nat} (h : IsStk w0 w F G p a cap bs last (v :: st) at_ (g :: t) osl) {sl : Value} (h4 : w.heap[g]? = some (.cells #[.bool v.dict, sl] 168 (0, 0))) {cs : List Value}
   (h6 : IsVs w F v.l cs) {x : PV} {sx : Value} (hx : IsV w F x sx) {w3 : World} {v' : Value} (hO : w3.ownsRow w0.heap.size 27 4 v' (v.l.length + 1) (cs ++ pvC x sx)) (hk : Keeps (fun b => sl.ownBlock = some b) w w3)
   (hN : ∀ b, v'.ownBlock = some b → sl.ownBlock = some b ∨ w.heap.size ≤ b) :
   Nxt w0 w F G p a cap bs last ({ v with l := v.l ++ [x] } :: st) at_ F (w3.setCell ⟨g, 1, none⟩ v') := by
 obtain ⟨g', t', sl', cs', h1, h2, h3, h4', h5, -, h7, h8⟩ := h.lvs
 simp only [List.cons.injEq] at h1
 obtain ⟨rfl, rfl⟩ := h1
 have hsl : sl' = sl := by
   rw [h4] at h4'
   simpa using h4'.symm
 subst hsl
 have hgl := lt_of_heap h4
 have hsg : ∀ b, sl'.ownBlock = some b → b ≠ g := fun b hb => by obtain ⟨ds, hc⟩ := owns_type h5 hb; exact type_ne hc h4 (by decide)
 have hsl : ∀ b, sl'.ownBlock = some b → b < w.heap.size := fun b hb => (h5.lt b hb).2
 have hk4 : ∀ b, b ≠ g → (w3.setCell ⟨g, 1, none⟩ v').heap[b]? = w3.heap[b]? := fun b hb => heap_setCell_other _ _ _ _ hb
 have hs4 : (w3.setCell ⟨g, 1, none⟩ v').heap.size = w3.heap.size := by simp [World.setCell]
 have hsz := hk.size
 have hg3 : w3.heap[g]? = some (.cells #[.bool v.dict, sl'] 168 (0, 0)) := hk.obj h4 (fun e => hsg g e rfl)
 have hvg : ∀ b, v'.ownBlock = some b → b ≠ g := fun b hb => by obtain ⟨ds, hc⟩ := owns_type hO hb; exact type_ne hc hg3 (by decide)
 have hpg : p ≠ g := type_ne h.blk h4 (by decide)
 have hps : sl'.ownBlock ≠ some p := fun e => by obtain ⟨ds, hc⟩ := owns_type h5 e; exact type_ne hc h.blk (by decide) rfl
 have hFg : ∀ b, F b → b ≠ g := fun b hb => by obtain ⟨_, _, ds, hc⟩ := h.fb b hb; exact type_ne hc h4 (by decide)
 have hFs : Stays F w (w3.setCell ⟨g, 1, none⟩ v') := ⟨by omega, fun b hb hf => by rw [hk4 b (hFg b hf), hk.block b hb (fun e => (h7 b e).1 hf)]⟩
 have hob : ∀ b, osl.ownBlock = some b → b ≠ g ∧ sl'.ownBlock ≠ some b ∧ b < w.heap.size := fun b hb => by
   obtain ⟨ds, hc⟩ := owns_type h.own hb
   exact ⟨type_ne hc h4 (by decide), fun e => by obtain ⟨es, hd⟩ := owns_type h5 e; exact type_ne hc hd (by decide) rfl, (h.own.lt b hb).2⟩
 refine ⟨⟨g :: t, osl, by rw [hk4 p hpg, hk.block p h.lt hps]; exact h.blk, h.base, h.gp, owns_heap h.own fun b hb => ?_, h.go, ?_, fun b hb => ?_, fun b hb => by have := h.gb b hb; omega, ?_, h.row, h.small, h.deep⟩, ⟨by omega, fun b hb hG => ?_⟩, hFs, fun _ h => h⟩
 · rw [hk4 b (hob b hb).1, hk.block b (hob b hb).2.2 (hob b hb).2.1]
 · refine ⟨g, t, v', cs ++ pvC x sx, rfl, h2, h3, heap_setCell_same w3 g 1 _ _ _ hg3, ?_, ?_, fun b hb => ?_, ?_⟩
   · show World.ownsRow _ _ _ _ _ (v.l ++ [x]).length _
     rw [List.length_append]
     exact owns_heap hO fun b hb => hk4 b (hvg b hb)
   · exact (IsVs.keep hFs (fun _ h => h) _ h6).snoc (IsV.keep hFs (fun _ h => h) _ hx)
   · rcases hN b hb with e | e
     · exact h7 b e
     · exact ⟨fun hf => by have := h.Flt hf; omega, fun hG => by have := (h.gb b hG).2; omega⟩
   · refine h8.keep' hFs (fun _ h => h) (fun b hb hn hl => ?_) (fun b hb => .inl hb) (fun b hb => ?_)
     · rw [hk4 b (fun e => hn (.inr (.inl e))), hk.block b hb (fun e => hn (.inr (.inr e)))]
     · rcases hb with hb | hb | hb
       · exact .inl (.inl hb)
       · exact .inl (.inr (.inl hb))
       · rcases hN b hb with e | e
         · exact .inl (.inr (.inr e))
         · exact .inr e
 · obtain ⟨k1, k2, ds, k3⟩ := h.fb b hb
   exact ⟨k1, k2, ds, by rw [hFs.2 b (h.Flt hb) hb]; exact k3⟩
 · have h9 := h.bel.size
   refine h.bel.trans (Below.setCell (w := w3) (a := w) (p := ⟨g, 1, none⟩) ⟨hk.os, hk.tape, hk.output, hsz, fun b hb => hk.block b (by omega) (fun e => by have := (h5.lt b e).1; omega)⟩ h2 _)
 · rw [hk4 b (fun e => h3 (e ▸ hG)), hk.block b hb (fun e => (h7 b e).2 hG)]
end
theorem ELvp : ElemT Tryz.prog 160 165 (.pointer none) 1 8 := ⟨Tryz.underlying160, by kernel_rfl, rfl, by omega⟩
section
variable {w0 w w' : World} {F F' G : Nat → Prop} {p : Nat} {a : Option Addr} {cap : Nat} {bs : List UInt8} {last : Bool} {st : List Lv} {at_ : Int} {gs : List Nat} {osl : Value}
theorem Nxt.refl (h : IsStk w0 w F G p a cap bs last st at_ gs osl) (hb : Below w.heap.size w w') : Nxt w0 w F G p a cap bs last st at_ F w' :=
 ⟨⟨_, _, h.mono hb⟩, Stays.of_below hb, Stays.of_below hb, fun _ h => h⟩
theorem row_newP (w : World) (x : Value) (e : TypeId) {b : Nat} (h : b = w.heap.size) : Row (w.alloc (.cells #[x] e)) 1 (some ⟨b, 0, none⟩) 1 1 [x] := by subst h; exact row_new1 w x e
theorem owns_some {w : World} {base e sz : Nat} {v : Value} {n : Nat} {xs : List Value} (h : w.ownsRow base e sz v (n + 1) xs) (_ : 0 < sz) : ∃ g cap, v = .slice (some ⟨g, 0, none⟩) (n + 1) cap := by
 rcases h.2 with ⟨-, h0⟩ | ⟨g, cap, cur, rfl, -⟩
 · cases h0
 · exact ⟨g, cap, rfl⟩
theorem IsStk.keepP (h : IsStk w0 w F G p a cap bs last st at_ gs osl) {W1 w2 : World} (hb : Below w.heap.size w W1) (hg : W1.grownBy w2 osl.ownBlock) :
   w2.heap[p]? = some (.cells #[.slice a bs.length cap, .int .i64 at_, .bool last, osl] 162 (0, 0)) :=
 (hg.block p (Nat.lt_of_lt_of_le h.lt hb.size) (fun e => h.ownp e.symm rfl)).trans (block_keep hb h.blk)
theorem begin_any (h : IsStk w0 w F G p a cap bs last st at_ gs osl) (d : Bool) : Calls Tryz.prog 119 #[.pointer (some ⟨p, 0, none⟩), .bool d] w fun e w' =>
   e = .returned (.int .i64 (beginV st d).2) ∧ Nxt w0 w F G p a cap bs last (beginV st d).1 at_ F w' := by
 obtain ⟨R, hR⟩ : ∃ R, R = beginV st d := ⟨_, rfl⟩
 rw [← hR]
 unfold beginV at hR
 have HR := Lib.hid hR
 have HTOP := Lib.hid (top_any h)
 have HTP := Lib.hid (fun q => (h.drewN q).top)
 have HS := Lib.hid h
 have hdp := h.deep
 clear h hR
 go_enter Tryz.func119, Tryz.ntmps119
 go_wp2_with fail
 refine HTOP.out.mono ?_
 rintro e w1 ⟨rfl, q, rfl⟩
 have HS1 := Lib.hid (HS.out.drewN q)
 go_upto_region 2 with fail
 go_cut [13] from 6 (fun v13 wx => v13 = .bool (topW st) ∧ w.drewN q = wx)
 case first =>
   rcases HTP.out q with ⟨rfl, rfl⟩ | ⟨v, st', g, t', sa, sc, rfl, rfl, h1, h2, h3⟩
   · unfold topP
     go_wp2
     go_meet
     exact ⟨rfl, rfl⟩
   · have HWT := Lib.hid (wants_any h3 (by omega))
     have HTW := Lib.hid (show topW (v :: st') = (v.dict && v.l.length % 2 == 0) from rfl)
     unfold topP
     generalize (v.dict && v.l.length % 2 == 0) = tw at *
     clear h1 h2 h3
     go_wp2_with (go_at_call 159; refine HWT.out.mono ?_; rintro e w' ⟨rfl, rfl⟩)
     go_meet
     exact ⟨by rw [HTW.out], rfl⟩
 case rest =>
   obtain ⟨rfl, rfl⟩ := hcut
   obtain ⟨tw, htw⟩ : ∃ tw, tw = topW st := ⟨_, rfl⟩
   rw [← htw]
   have HTW := Lib.hid htw
   clear htw
   cases tw with
   | true =>
     have hr2 := HR.out
     rw [if_pos HTW.out.symm] at hr2
     have HR2 := Lib.hid hr2
     clear hr2 HR
     go_wp2
     go_ret
     rw [HR2.out]
     exact ⟨rfl, Nxt.refl HS.out (below_drewN (Below.refl _ _) q)⟩
   | false =>
     have hr2 := HR.out
     rw [if_neg (by rw [← HTW.out]; decide)] at hr2
     have HRX := Lib.hid hr2
     obtain ⟨ao, oc, rfl, hro1, hro2⟩ := owns_slice HS1.out.own
     obtain ⟨⟨c0, c1, c2, c3⟩, f0, f1, f2, f3⟩ := HS1.out.cells
     clear hr2 HR
     by_cases h64 : 64 ≤ st.length
     · have hd : decide (64 ≤ st.length) = true := decide_eq_true h64
       have hd2 : decide ((64 : Int) ≤ (st.length : Int)) = true := decide_eq_true (by omega)
       have hr2 := HRX.out
       rw [if_pos h64] at hr2
       have HR2 := Lib.hid hr2
       clear hr2 h64
       go_wp2
       go_ret
       rw [HR2.out]
       exact ⟨rfl, Nxt.refl HS.out (below_drewN (Below.refl _ _) q)⟩
     · have hd : decide (64 ≤ st.length) = false := decide_eq_false h64
       have hd2 : decide ((64 : Int) ≤ (st.length : Int)) = false := decide_eq_false (by omega)
       have hr2 := HRX.out
       rw [if_neg h64] at hr2
       have HR2 := Lib.hid hr2
       have hsl : st.length < 64 := by omega
       clear hr2 h64
       go_wp2_with (at_builtin; refine append_at ELvp rfl _ _ rfl w0.heap.size _ st.length (ptrs gs) rfl (ownsRow_keep HS1.out.own (belowA2 _ _ _)) _ 1 1 [.pointer (some ⟨w.heap.size, 0, none⟩)] rfl (row_newP _ _ _ (by rw [sizeA]; rfl)) (one_mem rfl) (by unfold maxLen; omega) (by omega) (by rw [sizeA, sizeA]; have := HS1.out.bel.size; omega) ?_; intro v2 w2 hO hg hN; obtain ⟨g2, oc2, rfl⟩ := owns_some hO (by omega); obtain ⟨⟨k0, k1, k2, k3⟩, l0, l1, l2, l3⟩ := cells4 (HS1.out.keepP (belowA2 _ _ _) hg))
       go_ret
       rw [HR2.out]
       have hN := HS1.out.push d hsl _ hO hg hN
       exact ⟨rfl, hN.stk, hN.sg, hN.sf, hN.ff⟩
end
def cmpS (a b : List UInt8) : Int := if sLt a b = true then -1 else if sLt b a = true then 1 else 0
theorem isNaNS_any (a : ByteArray) (w : World) : Calls Tryz.prog 211 #[.string a] w fun e w' => e = .returned (.bool false) ∧ w = w' := by
 go_enter Tryz.func211, Tryz.ntmps211
 go_wp2
 go_ret
 exact ⟨ret_bool (by simp), rfl⟩
theorem cmpS_any (a b : List UInt8) (w : World) : Calls Tryz.prog 189 #[.string (mkB a), .string (mkB b)] w fun e w' => e = .returned (.int .i64 (cmpS a b)) ∧ w = w' := by
 have hl : Op.bytesLess (mkB a).toList (mkB b).toList = sLt a b := by rw [toList_mkB, toList_mkB, less_mkB]
 have hg : ¬ sLt a b = true → (Op.bytesLess (mkB a).toList (mkB b).toList || (mkB a).toList == (mkB b).toList) = !sLt b a := fun h => by
   rw [toList_mkB, toList_mkB, less_mkB]
   have h' : sLt a b = false := by simpa using h
   rw [h', Bool.false_or]
   by_cases e : a = b
   · subst e; simp [sLt_ir]
   · rw [sLt_tri a b h' e]; simp [e]
 have HN := Lib.hid (fun (a : ByteArray) (w : World) => isNaNS_any a w)
 unfold cmpS
 by_cases h1 : sLt a b = true
 · rw [if_pos h1]
   rw [h1] at hl
   clear hg h1
   generalize mkB a = x at *
   generalize mkB b = y at *
   go_enter Tryz.func189, Tryz.ntmps189
   go_wp2_with (go_at_call 211; refine (HN.out _ _).mono ?_; rintro e w' ⟨rfl, rfl⟩)
   go_ret
   exact ⟨rfl, rfl⟩
 · rw [if_neg h1]
   have hg := hg h1
   rw [show sLt a b = false by simpa using h1] at hl
   by_cases h2 : sLt b a = true
   · rw [if_pos h2]
     rw [h2, hl, Bool.false_or] at hg
     clear h1 h2
     generalize mkB a = x at *
     generalize mkB b = y at *
     simp only [Bool.not_true] at hg
     go_enter Tryz.func189, Tryz.ntmps189
     go_wp2_with (go_at_call 211; refine (HN.out _ _).mono ?_; rintro e w' ⟨rfl, rfl⟩)
     go_ret
     exact ⟨rfl, rfl⟩
   · rw [if_neg h2]
     rw [show sLt b a = false by simpa using h2, hl, Bool.false_or] at hg
     clear h1 h2
     generalize mkB a = x at *
     generalize mkB b = y at *
     simp only [Bool.not_false] at hg
     go_enter Tryz.func189, Tryz.ntmps189
     go_wp2_with (go_at_call 211; refine (HN.out _ _).mono ?_; rintro e w' ⟨rfl, rfl⟩)
     go_ret
     exact ⟨rfl, rfl⟩
theorem cmpPair_any {w : World} {b o1 o2 n1 n2 c1 c2 : Nat} {x y : List UInt8} (h1 : w.cell? ⟨b, o1 + 2, none⟩ = some (.string (mkB x))) (h2 : w.cell? ⟨b, o2 + 2, none⟩ = some (.string (mkB y))) (g1 : 0 < n1) (g2 : 0 < n2) :
   Calls Tryz.prog 188 #[.slice (some ⟨b, o1, none⟩) n1 c1, .slice (some ⟨b, o2, none⟩) n2 c2] w fun e w' => e = .returned (.int .i64 (cmpS x y)) ∧ ∃ q, w' = w.drewN q := by
 have HC := Lib.hid (fun W => cmpS_any x y W)
 generalize cmpS x y = c at *
 generalize mkB x = x' at *
 generalize mkB y = y' at *
 have i1 : (0 : Int) < (n1 : Int) := by omega
 have i2 : (0 : Int) < (n2 : Int) := by omega
 go_enter Tryz.func188, Tryz.ntmps188
 go_wp2
 go_quiet ((go_at_call 189; exact Calls.quiet_of ((HC.out _).mono fun _ _ h => ⟨h.1, 0, h.2.symm⟩)))
 go_wp2
 go_ret
 exact ⟨rfl, _, rfl⟩
end Go.Proofs.YtamkknailbnhnaaGreat
namespace Go.Proofs.YtamkknailbnhnaaGreat
open Go.RowKit Go.Sort
structure SB {α : Type} (enc : α → Value) (w0 : World) (g : Nat) (t : TypeId) (rest : List Value) (d : Array α) (w : World) : Prop where
 grown : w0.grownBy w (some g)
 blk : w.heap[g]? = some (.cells (d.toList.map enc ++ rest).toArray t (0, 0))
section
variable {α : Type} {enc : α → Value} {w0 w : World} {g : Nat} {t : TypeId} {rest : List Value} {d : Array α}
theorem SB.cell [Inhabited α] (h : SB enc w0 g t rest d w) (i : Nat) (hi : i < d.size) : w.cell? ⟨g, i, none⟩ = some (enc d[i]!) := by
 rw [cell_of_row w g i _ t (0, 0) h.blk]
 simp [List.getElem?_append, hi]
theorem SB.free (h : SB enc w0 g t rest d w) (i : Nat) : w.frozen? ⟨g, i, none⟩ = false := frozen_of_row w g i _ t h.blk
theorem SB.drewN (h : SB enc w0 g t rest d w) (n : Nat) : SB enc w0 g t rest d (w.drewN n) := ⟨⟨h.grown.os, h.grown.tape, h.grown.output, h.grown.size, h.grown.block⟩, h.blk⟩
theorem grownBy_setCell {w0 w : World} {g i : Nat} (h : w0.grownBy w (some g)) (v : Value) : w0.grownBy (w.setCell ⟨g, i, none⟩ v) (some g) :=
 ⟨h.os, h.tape, h.output, by simp [World.setCell]; exact h.size, fun k hk hne => by rw [heap_setCell_other w ⟨g, i, none⟩ k v (fun e => hne (by simp [e]))]; exact h.block k hk hne⟩
theorem grownBy_refl (w : World) (row : Option Nat) : w.grownBy w row := ⟨rfl, rfl, rfl, Nat.le_refl _, fun _ _ _ => rfl⟩
theorem grownBy_drewN {w0 w : World} {row : Option Nat} (h : w0.grownBy w row) (n : Nat) : w0.grownBy (w.drewN n) row := ⟨h.os, h.tape, h.output, h.size, h.block⟩
theorem SB.set (h : SB enc w0 g t rest d w) (i : Nat) (hi : i < d.size) (x : α) : SB enc w0 g t rest (d.setIfInBounds i x) (w.setCell ⟨g, i, none⟩ (enc x)) := by
 refine ⟨grownBy_setCell h.grown _, ?_⟩
 rw [heap_setCell_same w g i _ t _ h.blk, List.setIfInBounds_toArray, List.set_append]
 simp [hi, List.map_set]
theorem SB.swp [Inhabited α] (h : SB enc w0 g t rest d w) (i j : Nat) (hi : i < d.size) (hj : j < d.size) (q : Nat) :
   SB enc w0 g t rest (swp d i j) (((w.drewN q).setCell ⟨g, i, none⟩ (enc d[j]!)).setCell ⟨g, j, none⟩ (enc d[i]!)) :=
 ((h.drewN q).set i hi _).set j (by simpa using hj) _
theorem SB.row (h : SB enc w0 g t rest d w) {cap : Nat} (h1 : d.size ≤ cap) (h2 : cap ≤ maxLen) : Row w 1 (some ⟨g, 0, none⟩) d.size cap (d.toList.map enc) := by
 refine ⟨by simp, h1, h2, fun e => (by cases e), fun _ => ⟨g, 0, rfl, (Array.getElem?_eq_some_iff.1 h.blk).1, fun j u hj => ?_⟩⟩
 rw [Nat.zero_add, cell_of_row w g j _ t (0, 0) h.blk]
 have hjl := (List.getElem?_eq_some_iff.1 hj).1
 rw [List.getElem?_toArray, List.getElem?_append_left hjl]; exact hj
theorem SB.start {cs : Array Value} {n : Nat} (hb : w.heap[g]? = some (.cells cs t (0, 0))) (hx : cs.toList.take n = d.toList.map enc) : SB enc w g t (cs.toList.drop n) d w :=
 ⟨⟨rfl, rfl, rfl, Nat.le_refl _, fun _ _ _ => rfl⟩, by rw [← hx, List.take_append_drop]; exact hb⟩
end
structure CmpQ {α : Type} (P : Program) (f : FuncId) (cb : Array Value) (enc : α → Value) (cf : α → α → Int) (D : α → Prop) (w0 : World) (g : Nat) : Prop where
 enters : ∀ args w, (callFunc f args).run P w = .ok (.enter f args) w
 calls : ∀ W, w0.grownBy W (some g) → ∀ x y, D x → D y → Calls P f (#[enc x, enc y] ++ cb) W fun e w' => e = .returned (.int .i64 (cf x y)) ∧ ∃ q, w' = W.drewN q
def ltOf {α : Type} (cf : α → α → Int) (x y : α) : Bool := decide (cf x y < 0)
section
variable {α : Type} [Inhabited α] (lt : α → α → Bool)
theorem inner_go (a j : Nat) (d : Array α) (hj : a < j) (hl : lt d[j]! d[j - 1]! = true) : insInner lt a j d = insInner lt a (j - 1) (swp d j (j - 1)) := by
 rcases j with _ | k
 · omega
 · have h1 : (decide (k + 1 > a) && lt d[k + 1]! d[k]!) = true := by simp only [Nat.add_sub_cancel] at hl; simp [hl, hj]
   rw [insInner, if_pos h1]; rfl
theorem inner_stop (a j : Nat) (d : Array α) (h : j ≤ a ∨ lt d[j]! d[j - 1]! = false) : insInner lt a j d = d := by
 rcases j with _ | k
 · rfl
 · rw [insInner, if_neg]
   simp only [Nat.add_sub_cancel] at h
   rcases h with h | h
   · simp; omega
   · simp [h]
theorem outer_go (a b i : Nat) (d : Array α) (h : i < b) : insOuter lt a b i d = insOuter lt a b (i + 1) (insInner lt a i d) := by rw [insOuter, if_pos h]
theorem outer_stop (a b i : Nat) (d : Array α) (h : ¬ i < b) : insOuter lt a b i d = d := by rw [insOuter, if_neg h]
end
end Go.Proofs.YtamkknailbnhnaaGreat
