/-
  Our texts Wr4 to Inf4, in one.
-/
import Derived.Test.YtkikhmdpcanidaaGreatPkA5
import Derived.BigQuiet
import Derived.Deep.QuietTactic
import Derived.Deep.RegionHeld3
import Derived.Deep.Cut
import Derived.Deep.CutRange
import Derived.Deep.CutBlock
set_option maxRecDepth 8000
set_option maxHeartbeats 8000000
namespace Go.Proofs.YtkikhmdpcanidaaGreat
open Go.RowKit
theorem new_wr (high : Bool) (w : World) : Calls Tryz.prog 28 #[.bool high] w fun e w' => e = .returned (.pointer (some ⟨w.heap.size, 0, none⟩)) ∧ WrQ w' (fun b => b = w.heap.size) w.heap.size high [] ∧ Below w.heap.size w w' ∧ w'.heap.size = w.heap.size + 1 := by
 go_enter Tryz.func28, Tryz.ntmps28
 go_wp2
 go_ret
 refine ⟨rfl, ⟨[], .slice none 0 0, ⟨zah _ rfl, World.ownsRow_nil _ _ _ _, fun b h => (by cases h), rfl, fun b h => (by rw [zaj]; have h2 : b = w.heap.size := h; omega)⟩, wrote_nil high⟩, zal _ _, zaj _ _⟩
theorem bit_test (x t : Nat) (hx : x < 4294967296) : (bits .and .u32 ((x : Int) / 2 ^ t) 1 == 1) = x.testBit t := by
 have e : (x : Int) / 2 ^ t = ((x / 2 ^ t : Nat) : Int) := by simp only [Int.natCast_ediv, Int.natCast_pow, Int.cast_ofNat_Int]
 have hl : x / 2 ^ t < 4294967296 := Nat.lt_of_le_of_lt (Nat.div_le_self _ _) hx
 rw [e, show (1 : Int) = ((1 : Nat) : Int) from rfl, u32_and_nat _ 1 hl (by omega), Nat.and_one_is_mod, Nat.testBit_eq_decide_div_mod_eq, Bool.eq_iff_iff]
 simp
 omega
theorem putL_succ (x : Nat) (high : Bool) (n k : Nat) : putL x high n (k + 1) = putL x high n k ++ [x.testBit (zbb k n high)] := rfl
theorem wput_any (wb n x : Nat) (high : Bool) (B : List Bool) (S : Nat → Prop) (w : World) (h : WrQ w S wb high B) (hlt : B.length < 549755813888) (hn : n ≤ 32) (hx : x < 2 ^ n) :
   Calls Tryz.prog 81 #[.pointer (some ⟨wb, 0, none⟩), .int .u32 x, .int .i64 n] w fun e w' => e = .returned (.int .i64 0) ∧ zab w S wb high (B ++ putL x high n n) w' := by
 have HQ := Lib.hid h
 have hdead : Calls Tryz.prog 56 #[.pointer (some ⟨wb, 0, none⟩)] w fun e w' => e = .returned (.bool false) ∧ w = w' := by
   obtain ⟨bs, v, hw, hq⟩ := h
   exact zcN hw
 have HD := Lib.hid hdead
 have hx32 : x < 4294967296 := Nat.lt_of_lt_of_le hx (pow32 hn)
 have hdiv : x / 2 ^ n = 0 := Nat.div_eq_of_lt hx
 have HX := Lib.hid hx
 have HDV := Lib.hid hdiv
 have hN1 : decide ((n : Int) < 0) = false := by simp
 have hN2 : decide (32 < (n : Int)) = false := by simp; omega
 have hN3 : ((x : Int) / 2 ^ n != 0) = false := by
   have e : (x : Int) / 2 ^ n = ((x / 2 ^ n : Nat) : Int) := by simp only [Int.natCast_ediv, Int.natCast_pow, Int.cast_ofNat_Int]
   rw [e, hdiv]; rfl
 clear h hdead hx hdiv
 go_enter Tryz.func81, Tryz.ntmps81
 go_wp2_with (go_at_call 56; refine HD.out.mono ?_; rintro e w' ⟨rfl, rfl⟩)
 go_loopw [26] (fun i wr => ∃ (k : Nat) (S' : Nat → Prop), k ≤ n ∧ i = .int .i64 k ∧ Hid (WrQ wr S' wb high (B ++ putL x high n k)) ∧ Hid (zaa S w wr) ∧ Hid (∀ b, S' b → S b ∨ w.heap.size ≤ b)) (fun i _ => n - (intOf i).toNat)
 case atStart => exact ⟨0, S, by omega, rfl, Lib.hid (by simpa [putL] using HQ.out), Lib.hid (zaa.refl _ _), Lib.hid (fun b h => .inl h)⟩
 case round =>
   obtain ⟨k, S', hk, rfl, HQk, HK, HS⟩ := hrel
   by_cases hlt2 : k < n
   · have hbt := bit_test x (zbb k n high) hx32
     have hc1 : wr.cell? ⟨wb, 1, none⟩ = some (.bool high) := by
       obtain ⟨bs, v, hw, hq⟩ := HQk.out
       exact (zba hw.blk).2.1
     have hbit := wbit_any wb high (x.testBit (zbb k n high)) (B ++ putL x high n k) S' wr HQk.out (by rw [List.length_append, zag]; omega)
     have ht32 : zbb k n high < 32 := by unfold zbb; split <;> omega
     generalize hone : x.testBit (zbb k n high) = one at hbt hbit
     have HONE := Lib.hid hone
     clear hone
     have HB := Lib.hid hbit
     clear hbit
     go_wp2_with fail
     refine (turn_any wb 0 k n high _ (by simpa using hc1) hlt2 hn).mono ?_
     rintro e w' ⟨rfl, rfl⟩
     go_wp2_with fail
     refine HB.out.mono ?_
     rintro e w2 ⟨rfl, S2, hQ2, hK2, hS2⟩
     have HQ2 := Lib.hid hQ2
     have HK2 := Lib.hid (HK.out.trans hK2 HS.out)
     have HS2 := Lib.hid (show ∀ b, S2 b → S b ∨ w.heap.size ≤ b from fun b hb => (hS2 b hb).elim (HS.out b) (fun h => .inr (Nat.le_trans HK.out.size h)))
     clear hQ2 hK2 hS2
     go_wp2
     go_roundw
     case rel => exact ⟨k + 1, S2, by omega, by go_num, by rw [putL_succ, HONE.out, ← List.append_assoc]; exact HQ2, HK2, HS2⟩
     case measure => simp [intOf]; omega
   · obtain rfl : k = n := by omega
     go_wp2
     go_ret
     exact ⟨rfl, S', HQk.out, HK.out, HS.out⟩
theorem wbytes_any (wb : Nat) (high : Bool) (B : List Bool) (S : Nat → Prop) (w : World) (h : WrQ w S wb high B) (hlt : B.length < 549755813888) :
   Calls Tryz.prog 30 #[.pointer (some ⟨wb, 0, none⟩)] w fun e w' => ∃ bs v, zbg bs high B ∧ e = .returned v ∧ w'.ownsRow w.heap.size 5 1 v bs.length (bs.map fun b => .int .u8 b.toNat) ∧ Below w.heap.size w w' := by
 obtain ⟨bs, v, hw, hq⟩ := h
 have hdead := zcN hw
 have h3 := (zba hw.blk).2.2.1
 obtain ⟨a, c, rfl, hr, _⟩ := Row.of_owns hw.row
 have hl := hq.1
 have hcl := cloneB a bs.length c _ w hr (by intro u hu; simp at hu; obtain ⟨x, _, rfl⟩ := hu; rfl) (by omega)
 have HD := Lib.hid hdead
 have HC := Lib.hid hcl
 have HQ := Lib.hid hq
 clear hdead hcl hw hq hr hl
 go_enter Tryz.func30, Tryz.ntmps30
 go_wp2_with (first
   | (go_at_call 56; refine HD.out.mono ?_; rintro e w' ⟨rfl, rfl⟩)
   | (go_at_call 57; refine HC.out.mono ?_; rintro e w1 ⟨v, rfl, hO, hb, hnn⟩; have HO := Lib.hid hO; have HB := Lib.hid hb; clear hO hb hnn))
 go_ret
 exact ⟨bs, _, HQ.out, rfl, HO.out, HB.out⟩
end Go.Proofs.YtkikhmdpcanidaaGreat
namespace Go.Proofs.YtkikhmdpcanidaaGreat
open Go.RowKit Go.Sort
theorem bit_of (x u : Nat) (high : Bool) : putL (x / 2 ^ u % 2) high 1 1 = [x.testBit u] := by
 have ht : zbb 0 1 high = 0 := by unfold zbb; cases high <;> rfl
 simp only [putL, ht, List.nil_append]
 rw [Nat.testBit_eq_decide_div_mod_eq, Nat.testBit_eq_decide_div_mod_eq]
 simp
theorem and_one (x u : Nat) (hx : x < 4294967296) : bits .and .u32 ((x : Int) / 2 ^ u) 1 = ((x / 2 ^ u % 2 : Nat) : Int) := by
 have e : (x : Int) / 2 ^ u = ((x / 2 ^ u : Nat) : Int) := by simp only [Int.natCast_ediv, Int.natCast_pow, Int.cast_ofNat_Int]
 have hl : x / 2 ^ u < 4294967296 := Nat.lt_of_le_of_lt (Nat.div_le_self _ _) hx
 rw [e, show (1 : Int) = ((1 : Nat) : Int) from rfl, u32_and_nat _ 1 hl (by omega), Nat.and_one_is_mod]
structure PutFacts (W : World) (p : Nat) (bL oL bC oC n cL cC s : Nat) (x : Int) (m : Int) : Prop where
 c0 : W.cell? ⟨p, 0, none⟩ = some (.slice (some ⟨bL, oL, none⟩) n cL)
 c1 : W.cell? ⟨p, 1, none⟩ = some (.slice (some ⟨bC, oC, none⟩) n cC)
 l : W.cell? ⟨bL, oL + s, none⟩ = some (.int .i64 m)
 x : W.cell? ⟨bC, oC + s, none⟩ = some (.int .u32 x)
theorem put_facts {w : World} {Bl : Nat → Prop} {p : Nat} {l : List Int} (h : IsTb w Bl p l) (s : Nat) (hs : s < l.length) :
   ∃ bL oL bC oC cL cC, ∀ W S, zaa S w W → (∀ b, Bl b → ¬ S b) → PutFacts W p bL oL bC oC l.length cL cC s (zar l s) (l.getD s 0) := by
 obtain ⟨⟨aL, cL, aC, cC, aS, cS, srt, hT, hL, hC, hS, hso, b1, b2, b3, hnn⟩, hroom, hp⟩ := h
 obtain ⟨bL, oL, rfl, _, hcL⟩ := hL.at 0 s hs
 obtain ⟨bC, oC, rfl, _, hcC⟩ := Row.at (enc := id) (.bool false) (l := fl l.length (cdV l l.length)) (by simpa using hC) s hs
 refine ⟨bL, oL, bC, oC, cL, cC, fun W S hk hd => ?_⟩
 have k0 := zai hT 0 (by omega)
 have k1 := zai hT 1 (by omega)
 unfold tbV at k0 k1
 simp only [if_true, Nat.one_ne_zero, if_false] at k0 k1
 have k3 := hcC s hs
 rw [id, show (fl l.length (cdV l l.length)).getD s (.bool false) = .int .u32 (zar l s) from by simp [fl, hs, cdV]] at k3
 exact ⟨hk.cell k0 (hd p hp), hk.cell k1 (hd p hp), hk.cell (hcL s hs) (hd _ (b1 _ rfl)), hk.cell k3 (hd _ (b2 _ rfl))⟩
theorem tput_ok (Bl : Nat → Prop) (p wb s : Nat) (l : List Int) (high : Bool) (B : List Bool) (S : Nat → Prop) (w : World) (hT : IsTb w Bl p l) (h : WrQ w S wb high B) (hS : ∀ b, Bl b → ¬ S b) (hlt : B.length < 274877906944) (hs : s < l.length) (hp : 0 < l.getD s 0) :
   Calls Tryz.prog 93 #[.pointer (some ⟨p, 0, none⟩), .pointer (some ⟨wb, 0, none⟩), .int .i64 s] w fun e w' => e = .returned (.int .i64 0) ∧ zab w S wb high (B ++ za2 l s (lenN l s)) w' := by
 have HQ := Lib.hid h
 have hdead := tdead_any Bl p l w hT
 have HD := Lib.hid hdead
 have h15 := zaW (zas hT.room).2.2.1 (l.getD s 0) (by simp [List.getD, hs])
 have hcode := code_lt hT.room hs hp
 have hcb := zbL hT.room s
 obtain ⟨bL, oL, bC, oC, cL, cC, hpf⟩ := put_facts hT s hs
 obtain ⟨m, hm⟩ : ∃ m, m = lenN l s := ⟨_, rfl⟩
 obtain ⟨x, hx⟩ : ∃ x : Nat, x = (zar l s).toNat := ⟨_, rfl⟩
 have hcB : ∀ u j, u + 1 + j = m → codeB l s j = x.testBit u := by
   intro u j hj
   unfold codeB
   rw [← hx, ← hm, show m - 1 - j = u from by omega]
 have HCB := Lib.hid hcB
 rw [show zar l s = (x : Int) from by omega, show l.getD s 0 = (m : Int) from by rw [hm, lenN]; omega] at hpf
 have HPF := Lib.hid fun W hk => hpf W S hk hS
 have hx32 : x < 4294967296 := by omega
 rw [← hm]
 have hm0 : 0 < m := by rw [hm]; unfold lenN; omega
 have hm15 : m ≤ 15 := by rw [hm]; unfold lenN; omega
 have hf0 := hpf w S (zaa.refl _ _) hS
 obtain ⟨f0, f1, f2, f3⟩ := hf0
 have hN1 : decide ((s : Int) < 0) = false := by simp
 have hN2 : decide (l.length ≤ s) = false := by simp; omega
 have hmz : ((m : Int) == 0) = false := by rw [beq_eq_false_iff_ne]; omega
 have hll := (zas hT.room).2.1
 generalize l.length = n at *
 clear h hdead hT hS hpf hcB hm hx hcode hcb hp h15
 go_enter Tryz.func93, Tryz.ntmps93
 go_wp2_with (go_at_call 122; refine HD.out.mono ?_; rintro e w' ⟨rfl, rfl⟩)
 clear f0 f1 f2 f3
 go_loopw [7] (fun kv wr => ∃ (u j : Nat) (S' : Nat → Prop), kv = .int .i64 ((u : Int) - 1) ∧ u ≤ m ∧ Hid (u + j = m) ∧ Hid (WrQ wr S' wb high (B ++ za2 l s j)) ∧ Hid (zaa S w wr) ∧ Hid (∀ b, S' b → S b ∨ w.heap.size ≤ b)) (fun kv _ => (intOf kv + 1).toNat)
 case atStart => exact ⟨m, 0, S, by go_num, Nat.le_refl _, Lib.hid rfl, Lib.hid (by simpa [za2] using HQ.out), Lib.hid (zaa.refl _ _), Lib.hid (fun b h => .inl h)⟩
 case round =>
   obtain ⟨u, j, S', rfl, hu, HU, HQk, HK, HS⟩ := hrel
   rcases u with _ | u
   · go_wp2
     go_ret
     have hj : j = m := by have := HU.out; omega
     subst hj
     exact ⟨rfl, S', HQk.out, HK.out, HS.out⟩
   · rw [show (((u + 1 : Nat) : Int) - 1) = (u : Int) from by omega]
     obtain ⟨f0, f1, f2, f3⟩ := HPF.out wr HK.out
     have hand := and_one x u hx32
     have hy2 : x / 2 ^ u % 2 < 2 := Nat.mod_lt _ (by omega)
     have hput := wput_any wb 1 (x / 2 ^ u % 2) high (B ++ za2 l s j) S' wr HQk.out (by have := HU.out; rw [List.length_append, zau]; omega) (by omega) (by omega)
     rw [bit_of, ← HCB.out u j (by have := HU.out; omega), List.append_assoc, ← codeL_succ] at hput
     generalize x / 2 ^ u % 2 = y at hput hand hy2
     have HP := Lib.hid hput
     clear hput
     go_wp2_with fail
     refine HP.out.mono ?_
     rintro e w2 ⟨rfl, S2, hQ2, hK2, hS2⟩
     have HQ2 := Lib.hid hQ2
     have HK2 := Lib.hid (HK.out.trans hK2 HS.out)
     have HS2 := Lib.hid (show ∀ b, S2 b → S b ∨ w.heap.size ≤ b from fun b hb => (hS2 b hb).elim (HS.out b) (fun h => .inr (Nat.le_trans HK.out.size h)))
     clear hQ2 hK2 hS2 f0 f1 f2 f3
     go_wp2
     go_roundw
     case rel => exact ⟨u, j + 1, S2, by go_num, by omega, Lib.hid (by have := HU.out; omega), HQ2, HK2, HS2⟩
     case measure => simp [intOf]
theorem zdY {l : List Int} (hok1 : hok l = true) (s : Nat) : lenN l s ≤ 15 := by
 unfold lenN
 by_cases h : s < l.length
 · have := zaW hok1 (l.getD s 0) (by simp [List.getD, h]); omega
 · simp [List.getD, h]
theorem WrQ.keeps {w w' : World} {S T : Nat → Prop} {wb : Nat} {high : Bool} {B : List Bool} (h : WrQ w S wb high B) (hk : zaa T w w') (hT : ∀ b, S b → ¬ T b) : WrQ w' S wb high B := by
 obtain ⟨bs, v, hw, hq⟩ := h
 exact ⟨bs, v, ⟨hk.obj hw.blk (hT wb hw.own), zat hw.row hk (fun b hb => hT b (hw.at_ b hb)), hw.at_, hw.own, fun b hb => ⟨(hw.lt b hb).1, Nat.lt_of_lt_of_le (hw.lt b hb).2 hk.size⟩⟩, hq⟩
theorem WrQ.lt {w : World} {S : Nat → Prop} {wb : Nat} {high : Bool} {B : List Bool} (h : WrQ w S wb high B) : ∀ b, S b → wb ≤ b ∧ b < w.heap.size := by
 obtain ⟨bs, v, hw, hq⟩ := h
 exact hw.lt
def symV (ss : List Nat) : List Value := ss.map fun s : Nat => Value.int .i64 (s : Int)
theorem symV_snoc (ss : List Nat) (s : Nat) : symV (ss ++ [s]) = symV ss ++ [.int .i64 (s : Int)] := by simp [symV]
structure BackAt (l : List Int) (high : Bool) (wb : Nat) (w2 : World) (ss : List Nat) (v : Value) (S : Nat → Prop) (wr : World) : Prop where
 wr_ : WrQ wr S wb high (zb3 l ss)
 own : wr.ownsRow (wb + 1) 3 1 v ss.length (symV ss)
 apart : ∀ b, v.ownBlock = some b → ¬ S b
 below : Below wb w2 wr
 may : ∀ s ∈ ss, s < l.length ∧ 0 < l.getD s 0
theorem BackAt.next {l : List Int} {high : Bool} {wb : Nat} {w2 wr w5 w6 : World} {ss : List Nat} {s : Nat} {v v' : Value} {S : Nat → Prop} (h : BackAt l high wb w2 ss v S wr) (hs : s < l.length) (hp : 0 < l.getD s 0) (hwb : wb ≤ w2.heap.size)
   (hn : zab wr S wb high (zb3 l ss ++ za2 l s (lenN l s)) w5) (o : Obj) (hO : w6.ownsRow (wb + 1) 3 1 v' (ss.length + 1) (symV ss ++ [.int .i64 (s : Int)])) (hg : (w5.alloc o).grownBy w6 v.ownBlock) (hN : NewAt (w5.alloc o) v v') :
   ∃ S', BackAt l high wb w2 (ss ++ [s]) v' S' w6 := by
 obtain ⟨S2, hq, hk, hS⟩ := hn
 rw [← bitsOf_snoc] at hq
 have hlt := hq.lt
 have hlt0 := h.wr_.lt
 have hb2 := h.below.size
 have hv2 : ∀ b, v.ownBlock = some b → ¬ S2 b := fun b hb hc => by
   have h1 := h.own.lt b hb
   rcases hS b hc with h2 | h2
   · exact h.apart b hb h2
   · omega
 have hk2 : zaa (fun b => v.ownBlock = some b) w5 w6 := ((zaa.refl _ w5).alloc o).grown hg (fun k hk => .inl hk)
 refine ⟨S2, ⟨hq.keeps hk2 (fun b hb hc => hv2 b hc hb), ?_, fun b hb hc => ?_, ?_, fun x hx => ?_⟩⟩
 · rw [symV_snoc, List.length_append]; exact hO
 · rcases hN b hb with h1 | h1
   · exact hv2 b h1 hc
   · rw [zaj] at h1; have := (hlt b hc).2; omega
 · refine h.below.trans (Below.trans (hk.below (B := wb) (by omega) (fun b hb => (hlt0 b hb).1)) ?_)
   exact hk2.below (by have := hk.size; omega) (fun b hb => by have := (h.own.lt b hb).1; omega)
 · rcases List.mem_append.1 hx with h1 | h1
   · exact h.may x h1
   · simp at h1; subst h1; exact ⟨hs, hp⟩
end Go.Proofs.YtkikhmdpcanidaaGreat
namespace Go.Proofs.YtkikhmdpcanidaaGreat
open Go.RowKit
def wrA (wb : Nat) : Value := .agg #[.pointer (some ⟨wb, 0, none⟩)]
theorem WrQ.alloc {w : World} {S : Nat → Prop} {wb : Nat} {high : Bool} {B : List Bool} (h : WrQ w S wb high B) (o : Obj) : WrQ (w.alloc o) S wb high B :=
 h.keeps (T := fun _ => False) ((zaa.refl _ w).alloc o) (fun _ _ => id)
theorem WrQ.out {w : World} {S : Nat → Prop} {wb : Nat} {high : Bool} {B : List Bool} (h : WrQ w S wb high B) : ¬ S w.heap.size := fun hs => by have := (h.lt _ hs).2; omega
section
variable {w0 w : World} {S : Nat → Prop} {wb : Nat} {B : List Bool}
theorem zab.cell {high : Bool} (h : zab w0 S wb high B w) {b k : Nat} {v : Value} (hc : w0.cell? ⟨b, k, none⟩ = some v) (hn : ¬ S b) : w.cell? ⟨b, k, none⟩ = some v := by
 obtain ⟨S1, -, k1, -⟩ := h
 exact k1.cell hc hn
theorem zab.size {high : Bool} (h : zab w0 S wb high B w) : w0.heap.size ≤ w.heap.size := by
 obtain ⟨S1, -, k1, -⟩ := h
 exact k1.size
theorem zaT (h : zab w0 S wb false B w) (n x : Nat) (hlt : B.length < 549755813888) (hn : n ≤ 32) (hx : x < 2 ^ n) :
   Calls Tryz.prog 81 #[.pointer (some ⟨wb, 0, none⟩), .int .u32 x, .int .i64 n] w fun e w' => e = .returned (.int .i64 0) ∧ zab w0 S wb false (B ++ putL x false n n) w' := by
 obtain ⟨S1, q, k1, s1⟩ := h
 exact (wput_any wb n x false B S1 w q hlt hn hx).mono fun e w' ⟨he, h2⟩ => ⟨he, zab.trans k1 s1 h2⟩
theorem zcn {Bl : Nat → Prop} {p s : Nat} {l : List Int} (h : zab w0 S wb false B w) (hT : IsTb w0 Bl p l) (hS : ∀ b, Bl b → ¬ S b ∧ b < w0.heap.size) (hlt : B.length < 274877906944) (hs : s < l.length) (hp : 0 < l.getD s 0) :
   Calls Tryz.prog 93 #[.pointer (some ⟨p, 0, none⟩), .pointer (some ⟨wb, 0, none⟩), .int .i64 s] w fun e w' => e = .returned (.int .i64 0) ∧ zab w0 S wb false (B ++ za2 l s (lenN l s)) w' := by
 obtain ⟨S1, q, k1, s1⟩ := h
 exact (tput_ok Bl p wb s l false B S1 w (hT.keeps k1 fun b hb => (hS b hb).1) q (fun b hb h1 => by
   rcases s1 b h1 with h2 | h2
   · exact (hS b hb).1 h2
   · have := (hS b hb).2; omega) hlt hs hp).mono fun e w' ⟨he, h2⟩ => ⟨he, zab.trans k1 s1 h2⟩
end
theorem zcS {w : World} {S : Nat → Prop} {wb kind : Nat} {B : List Bool} (last : Bool) (h : WrQ w S wb false B) (hlt : B.length < 274877906944) (hk : kind < 4) :
   Calls Tryz.prog 79 #[wrA wb, .bool last, .int .u32 kind] w fun e w' => e = .returned (.tuple #[]) ∧ zab w S wb false (B ++ zb5 last kind) w' := by
 have hc : (w.alloc (.cells #[.pointer (some ⟨wb, 0, none⟩)] 48)).cell? ⟨w.heap.size, 0, none⟩ = some (.pointer (some ⟨wb, 0, none⟩)) := by
   rw [cell_of_row _ _ 0 _ _ _ (heap_alloc_new w _)]; rfl
 have hno : ¬ S w.heap.size := h.out
 have HN := Lib.hid (zab.refl (h.alloc (.cells #[.pointer (some ⟨wb, 0, none⟩)] 48)))
 have HE := Lib.hid (fun (B' : List Bool) (w' : World) (hn : zab (w.alloc (.cells #[.pointer (some ⟨wb, 0, none⟩)] 48)) S wb false B' w') => zab.trans (S := S) ((zaa.refl S w).alloc (.cells #[.pointer (some ⟨wb, 0, none⟩)] 48)) (fun b hb => .inl hb) hn)
 have HX := Lib.hid hno
 clear h hno
 unfold wrA
 cases last with
 | false =>
   go_enter Tryz.func79, Tryz.ntmps79
   go_wp2_with fail
   generalize w.alloc (.cells #[.pointer (some ⟨wb, 0, none⟩)] 48) = w0 at hc HN HE ⊢
   refine (zaT HN.out 1 0 (by omega) (by omega) (by omega)).mono ?_
   rintro e w1 ⟨rfl, h1⟩
   have H1 := Lib.hid h1
   have hc1 := h1.cell hc HX.out
   clear h1
   go_wp2_with fail
   refine (zaT H1.out 2 kind (by rw [List.length_append, zag]; omega) (by omega) hk).mono ?_
   rintro e w2 ⟨rfl, h2⟩
   have H2 := Lib.hid h2
   clear h2
   go_wp2_with fail
   go_end0
   exact ⟨rfl, by have h := HE.out _ _ H2.out; rw [List.append_assoc] at h; exact h⟩
 | true =>
   go_enter Tryz.func79, Tryz.ntmps79
   go_wp2_with fail
   generalize w.alloc (.cells #[.pointer (some ⟨wb, 0, none⟩)] 48) = w0 at hc HN HE ⊢
   refine (zaT HN.out 1 1 (by omega) (by omega) (by omega)).mono ?_
   rintro e w1 ⟨rfl, h1⟩
   have H1 := Lib.hid h1
   have hc1 := h1.cell hc HX.out
   clear h1
   go_wp2_with fail
   refine (zaT H1.out 2 kind (by rw [List.length_append, zag]; omega) (by omega) hk).mono ?_
   rintro e w2 ⟨rfl, h2⟩
   have H2 := Lib.hid h2
   clear h2
   go_wp2_with fail
   go_end0
   exact ⟨rfl, by have h := HE.out _ _ H2.out; rw [List.append_assoc] at h; exact h⟩
theorem wrote_pad {bs : List UInt8} {B : List Bool} (h : zbg bs false B) : zbg bs false (B ++ List.replicate ((B.length + 7) / 8 * 8 - B.length) false) := by
 refine ⟨by rw [h.1, List.length_append, List.length_replicate]; omega, fun i hi => ?_⟩
 rw [h.2 i hi]
 by_cases hl : i < B.length
 · rw [zcc _ _ _ _ hl]
 · rw [zcd _ _ _ _ (by omega), List.getD_eq_getElem?_getD, List.getElem?_eq_none (by omega), List.getD_eq_getElem?_getD, List.getElem?_replicate]
   split <;> rfl
theorem zdB {w : World} {S : Nat → Prop} {wb : Nat} {B : List Bool} (h : WrQ w S wb false B) (hlt : B.length < 274877906944) :
   Calls Tryz.prog 80 #[.pointer (some ⟨wb, 0, none⟩)] w fun e w' => e = .returned (.tuple #[]) ∧ zab w S wb false (B ++ List.replicate ((B.length + 7) / 8 * 8 - B.length) false) w' := by
 obtain ⟨bs, v, hw, hq⟩ := h
 have HD := Lib.hid (zcN hw)
 have hb := hw.blk
 have c0 := zai hb 0 (by omega)
 have f0 := zaJ hb 0
 unfold wrV at c0
 simp only [if_true] at c0
 have HW := Lib.hid hw
 have HQ := Lib.hid hq
 obtain ⟨m, hm⟩ : ∃ m, m = (B.length + 7) / 8 * 8 := ⟨_, rfl⟩
 have hq7 : bits .andNot .i64 ((B.length : Int) + 7) 7 = (m : Int) := by
   have h := zdc (B.length + 7) (by omega)
   rw [hm, ← h]; rfl
 have HM := Lib.hid hm
 have hml : B.length ≤ m := by omega
 clear hm
 have hand : IntKind.i64.wrap (((B.length : Int) + 7)) = (B.length : Int) + 7 := IntWalk.i64_in _ (by omega)
 clear hw hq hb
 go_enter Tryz.func80, Tryz.ntmps80
 go_wp2_with (go_at_call 56; refine HD.out.mono ?_; rintro e w' ⟨rfl, rfl⟩)
 go_end0
 refine ⟨rfl, S, ⟨bs, v, ⟨?_, zaQ HW.out.row (fun e => by have := (HW.out.row.lt _ e).1; simp at this; omega) _, HW.out.at_, HW.out.own, fun b hb => ⟨(HW.out.lt b hb).1, Nat.lt_of_lt_of_le (HW.out.lt b hb).2 ((zaa.refl S w).setCell (a := ⟨wb, 0, none⟩) (.inl HW.out.own) _).size⟩⟩, ?_⟩, (zaa.refl S w).setCell (a := ⟨wb, 0, none⟩) (.inl HW.out.own) _, fun b hb => .inl hb⟩
 · rw [zaD HW.out.blk]
   exact congrArg (fun x => some (Obj.cells (List.toArray x) _ _)) (zaf fun i _ => by
     unfold wrV
     by_cases h0 : i = 0
     · rw [if_pos h0, if_pos h0, List.length_append, List.length_replicate, ← HM.out, show B.length + (m - B.length) = m from by omega]
     · simp only [h0, if_false])
 · exact wrote_pad HQ.out
end Go.Proofs.YtkikhmdpcanidaaGreat
namespace Go.Proofs.YtkikhmdpcanidaaGreat
open Go.RowKit
theorem adM_snoc : ∀ (l : List UInt8) (x : UInt8) (a b : Nat), adM (l ++ [x]) a b = ((((adM l a b).1 + x.toNat) % 65521), (((adM l a b).2 + ((adM l a b).1 + x.toNat) % 65521) % 65521))
 | [], x, a, b => rfl
 | y :: l, x, a, b => by rw [List.cons_append, adM, adM, adM_snoc l x]
theorem adS_snoc : ∀ (l : List UInt8) (x : UInt8) (a b : Nat), adS (l ++ [x]) a b = (((adS l a b).1 + x.toNat), ((adS l a b).2 + ((adS l a b).1 + x.toNat)))
 | [], x, a, b => rfl
 | y :: l, x, a, b => by rw [List.cons_append, adS, adS, adS_snoc l x]
theorem zdG (b : List UInt8) (i : Nat) (h : i < b.length) : b.take (i + 1) = b.take i ++ [b.getD i 0] := by
 rw [List.take_add_one, List.getD_eq_getElem?_getD, List.getElem?_eq_getElem h]; rfl
theorem rsum_any {w : World} {a : Option Addr} {n cap : Nat} {b : List UInt8} (hr : Row w 1 a n cap (b.map fun x => .int .u8 x.toNat)) : Calls Tryz.prog 50 #[.slice a n cap] w fun e w' => e = .returned (.int .u32 (adV b)) ∧ w' = w := by
 have hl : b.length = n := by have := hr.1; simpa using this
 have hni : (n : Int) ≤ 9223372036854775807 := hr.i64
 have HR := Lib.hid hr
 have HL := Lib.hid hl
 have HV := Lib.hid (show adV b < 4294967296 from adV_lt b)
 clear hr hl
 go_enter Tryz.func50, Tryz.ntmps50
 go_wp2_with fail
 go_loopw [3, 4, 5] (fun va vb vk wr => ∃ k x y : Nat, vk = .int .i64 k ∧ va = .int .i64 x ∧ vb = .int .i64 y ∧ k ≤ n ∧ x < 65521 ∧ y < 65521 ∧ wr = w ∧ Hid (adM (b.take k) 1 0 = (x, y))) (fun _ _ vk _ => n - (intOf vk).toNat)
 case atStart => exact ⟨0, 1, 0, rfl, rfl, rfl, Nat.zero_le _, by decide, by decide, rfl, Lib.hid rfl⟩
 case round =>
   obtain ⟨k, x, y, rfl, rfl, rfl, hk, hx, hy, rfl, HA⟩ := hrel
   by_cases hkn : k < n
   case neg =>
     have hke : k = n := by omega
     subst hke
     have hd : decide ((k : Int) < (k : Int)) = false := decide_eq_false (by omega)
     have HE := Lib.hid (show adV b = 65536 * y + x from by
       have h := HA.out
       rw [List.take_of_length_le (Nat.le_of_eq HL.out)] at h
       unfold adV; rw [h])
     clear HA
     go_wp2_with fail
     go_ret
     refine ⟨?_, rfl⟩
     show Ending.returned (.int .u32 (65536 * (y : Int) + (x : Int))) = _
     rw [HE.out, show ((65536 * y + x : Nat) : Int) = 65536 * (y : Int) + (x : Int) from by omega]
   have hd : decide ((k : Int) < (n : Int)) = true := decide_eq_true (by omega)
   have hdi : (k : Int) < (n : Int) := by omega
   obtain ⟨bb, off, rfl, -, hcc⟩ := HR.out.at 0 0 (by omega)
   have z0 := hcc k hkn
   have HS := Lib.hid (show adM (b.take (k + 1)) 1 0 = ((x + (b.getD k 0).toNat) % 65521, (y + (x + (b.getD k 0).toNat) % 65521) % 65521) from by
     rw [zdG b k (by rw [HL.out]; exact hkn), adM_snoc, HA.out])
   have hz := (b.getD k 0).toNat_lt
   clear hcc HA
   generalize (b.getD k 0).toNat = z at z0 HS hz
   go_wp2_with fail
   exact ⟨⟨k + 1, _, _, by go_num, by rw [show (((x + z) % 65521 : Nat) : Int) = ((x : Int) + (z : Int)) % 65521 from by omega], by rw [show (((y + (x + z) % 65521) % 65521 : Nat) : Int) = ((y : Int) + ((x : Int) + (z : Int)) % 65521) % 65521 from by omega], by omega, by omega, by omega, by trivial, HS⟩, by simp [intOf]; omega⟩
theorem own_four {w : World} {p q r t : Value} : (w.alloc (.cells #[p, q, r, t] 5)).ownsRow w.heap.size 5 1 (.slice (some ⟨w.heap.size, 0, none⟩) 4 4) 4 [p, q, r, t] :=
 ⟨rfl, .inr ⟨w.heap.size, 4, _, rfl, Nat.le_refl _, zah _ rfl, Nat.le_refl _, by unfold maxLen; omega, rfl, rfl⟩⟩
theorem by4_cells {x : Nat} (hx : x < 4294967296) : ((by4 x).map fun b => Value.int .u8 b.toNat) = [.int .u8 ((x : Int) / 16777216), .int .u8 ((x : Int) / 65536 % 256), .int .u8 ((x : Int) / 256 % 256), .int .u8 ((x : Int) % 256)] := by
 have e : ∀ a, a < 256 → (UInt8.ofNat a).toNat = a := fun a ha => by rw [UInt8.toNat_ofNat']; exact Nat.mod_eq_of_lt ha
 unfold by4
 simp only [List.map_cons, List.map_nil]
 rw [e _ (by omega), e _ (by omega), e _ (by omega), e _ (by omega)]
 rfl
theorem zdw {w : World} {x : Nat} (hx : x < 4294967296) : Calls Tryz.prog 47 #[.int .u32 x] w fun e w' => ∃ v, e = .returned v ∧ w'.ownsRow w.heap.size 5 1 v 4 ((by4 x).map fun b => .int .u8 b.toNat) ∧ Below w.heap.size w w' := by
 have HB := Lib.hid (by4_cells hx)
 go_enter Tryz.func47, Tryz.ntmps47
 go_wp2_with fail
 go_ret
 exact ⟨_, rfl, by rw [HB.out]; exact own_four, zal w _⟩
theorem rabytes_any {w : World} {x : Nat} (hx : x < 4294967296) : Calls Tryz.prog 49 #[.int .u32 x] w fun e w' => ∃ v, e = .returned v ∧ w'.ownsRow w.heap.size 5 1 v 4 ((by4 x).map fun b => .int .u8 b.toNat) ∧ Below w.heap.size w w' := by
 have HB := Lib.hid (by4_cells hx)
 go_enter Tryz.func49, Tryz.ntmps49
 go_wp2_with fail
 go_ret
 exact ⟨_, rfl, by rw [HB.out]; exact own_four, zal w _⟩
theorem or_halves {x y : Nat} (hx : x < 65536) (hy : y < 65536) : bits .or .u32 ((y : Int) * 65536) (x : Int) = ((65536 * y + x : Nat) : Int) := by
 rw [show ((y : Int) * 65536) = ((65536 * y : Nat) : Int) from by omega, u32_or_nat _ _ (by omega) (by omega)]
 have h := Nat.two_pow_add_eq_or_of_lt (i := 16) (b := x) (by omega) y
 rw [show (2 : Nat) ^ 16 = 65536 from rfl] at h
 rw [h]
theorem avalue_any {w : World} {hb x y : Nat} (hx : x < 65521) (hy : y < 65521) (c0 : w.cell? ⟨hb, 0, none⟩ = some (.int .u32 x)) (c1 : w.cell? ⟨hb, 1, none⟩ = some (.int .u32 y)) :
   Calls Tryz.prog 77 #[.pointer (some ⟨hb, 0, none⟩)] w fun e w' => e = .returned (.int .u32 (65536 * y + (x + 1) % 65521 : Nat)) ∧ ∃ q, w' = w.drewN q := by
 have HO := Lib.hid (or_halves (x := (x + 1) % 65521) (y := y) (by omega) (by omega))
 go_enter Tryz.func77, Tryz.ntmps77
 go_wp2_with fail
 go_quiet (fail)
 go_wp2_with fail
 go_ret
 refine ⟨?_, _, rfl⟩
 show Ending.returned (.int .u32 (bits .or .u32 ((y : Int) * 65536) (((x : Int) + 1) % 65521))) = _
 rw [← HO.out]
 rfl
def TakeEnd (w : World) (hb x y : Nat) (e : Ending) (w' : World) : Prop := e = .returned (.tuple #[]) ∧ ∃ q, w' = ((w.setCell ⟨hb, 0, none⟩ (.int .u32 ((x + 65520) % 65521 : Nat))).setCell ⟨hb, 1, none⟩ (.int .u32 (y : Nat))).drewN q
theorem atake_any {w : World} {a : Option Addr} {n cap hb : Nat} {b : List UInt8} (hr : Row w 1 a n cap (b.map fun x => .int .u8 x.toNat)) (hn : n ≤ 2000) (c0 : w.cell? ⟨hb, 0, none⟩ = some (.int .u32 0)) (c1 : w.cell? ⟨hb, 1, none⟩ = some (.int .u32 0))
   (f0 : w.frozen? ⟨hb, 0, none⟩ = false) (f1 : w.frozen? ⟨hb, 1, none⟩ = false) (ha : ∀ x, a = some x → x.block ≠ hb) :
   Calls Tryz.prog 76 #[.pointer (some ⟨hb, 0, none⟩), .slice a n cap] w (TakeEnd w hb (adM b 1 0).1 (adM b 1 0).2) := by
 have hl : b.length = n := by have := hr.1; simpa using this
 have hcapn := hr.2.1
 have hcapm := hr.2.2.1
 unfold maxLen at hcapm
 have HR := Lib.hid hr
 have HL := Lib.hid hl
 clear hr hl
 obtain ⟨x, hx⟩ : ∃ x, x = (adM b 1 0).1 := ⟨_, rfl⟩
 obtain ⟨y, hy⟩ : ∃ y, y = (adM b 1 0).2 := ⟨_, rfl⟩
 have hlt := adM_lt b 1 0 (by decide) (by decide)
 rw [← hx, ← hy] at hlt ⊢
 have HX := Lib.hid hx
 have HY := Lib.hid hy
 clear hx hy
 go_enter Tryz.func76, Tryz.ntmps76
 go_wp2_with fail
 go_quiet (fail)
 have z0 : (w.drewN nq).cell? ⟨hb, 0, none⟩ = some (.int .u32 0) := c0
 have z1 : (w.drewN nq).cell? ⟨hb, 1, none⟩ = some (.int .u32 0) := c1
 have g0 : (w.drewN nq).frozen? ⟨hb, 0, none⟩ = false := f0
 have g1 : (w.drewN nq).frozen? ⟨hb, 1, none⟩ = false := f1
 have HQ := Lib.hid (show Row (w.drewN nq) 1 a n cap (b.map fun x => .int .u8 x.toNat) from HR.out.mono (zad (Below.refl _ _) nq))
 obtain ⟨W0, hW0⟩ : ∃ W0, W0 = w.drewN nq := ⟨_, rfl⟩
 rw [← hW0] at z0 z1 g0 g1 HQ ⊢
 have HW0 := Lib.hid hW0
 clear hW0 c0 c1 f0 f1 HR
 go_wp2_with fail
 go_loopw [1, 4, 5] (fun vp va vb wr => wr = W0 ∧ ((0 < n ∧ vp = .slice a n cap ∧ va = .int .u32 1 ∧ vb = .int .u32 0) ∨ ∃ (a2 : Option Addr) (c2 : Nat), vp = .slice a2 0 c2 ∧ va = .int .u32 x ∧ vb = .int .u32 y)) (fun vp _ _ _ => match vp with | .slice _ m _ => m | _ => 0)
 case atStart =>
   refine ⟨rfl, ?_⟩
   by_cases h0 : 0 < n
   · exact .inl ⟨h0, rfl, rfl, rfl⟩
   · obtain rfl : n = 0 := by omega
     have hb0 : b = [] := List.eq_nil_of_length_eq_zero HL.out
     exact .inr ⟨a, cap, rfl, by rw [HX.out, hb0]; rfl, by rw [HY.out, hb0]; rfl⟩
 case round =>
   obtain ⟨rfl, ⟨h0, rfl, rfl, rfl⟩ | ⟨a2, c2, rfl, rfl, rfl⟩⟩ := hrel
   case inr =>
     go_wp2_with fail
     go_end0
     have e := HW0.out
     subst e
     refine ⟨rfl, nq, ?_⟩
     rw [show (((x : Int) + 65521 - 1) % 65521) = (((x + 65520) % 65521 : Nat) : Int) from by omega]
     rfl
   have hd : decide ((n : Int) > 0) = true := decide_eq_true (by omega)
   have hmin : ¬ ((5552 : Int) < (n : Int)) := by omega
   obtain ⟨bb, off, rfl, -, hcc⟩ := HQ.out.at 0 0 (by omega)
   have HC := Lib.hid hcc
   clear hcc
   go_wp2_with fail
   go_loopw [4, 5, 8, 28] (fun va vb vx vk wk => ∃ k p q : Nat, vk = .int .i64 k ∧ va = .int .u32 p ∧ vb = .int .u32 q ∧ k ≤ n ∧ wk = wr ∧ Hid (adS (b.take k) 1 0 = (p, q))) (fun _ _ _ vk _ => n - (intOf vk).toNat)
   case atStart => exact ⟨0, 1, 0, rfl, rfl, rfl, Nat.zero_le _, rfl, Lib.hid rfl⟩
   case round =>
     obtain ⟨k, p, q, rfl, rfl, rfl, hk, rfl, HA⟩ := hrel
     by_cases hkn : k < n
     case neg =>
       have hke : k = n := by omega
       have hd2 : decide ((k : Int) < (n : Int)) = false := decide_eq_false (by omega)
       have hpq : p % 65521 = x ∧ q % 65521 = y := by
         have h := HA.out
         rw [hke, List.take_of_length_le (Nat.le_of_eq HL.out)] at h
         have h2 := adM_is b 1 0 (by decide) (by decide)
         rw [h] at h2
         exact ⟨by rw [HX.out, h2], by rw [HY.out, h2]⟩
       have hp : (p : Int) % 65521 = (x : Int) := by omega
       have hq : (q : Int) % 65521 = (y : Int) := by omega
       clear HA hpq hke
       go_wp2_with fail
       exact ⟨⟨by trivial, .inr ⟨_, _, rfl, by rw [hp], by rw [hq]⟩⟩, by show (0 : Nat) < n; exact h0⟩
     have hd2 : decide ((k : Int) < (n : Int)) = true := decide_eq_true (by omega)
     have hdi : (k : Int) < (n : Int) := by omega
     have z2 := HC.out k hkn
     have HS := Lib.hid (show adS (b.take (k + 1)) 1 0 = (p + (b.getD k 0).toNat, q + (p + (b.getD k 0).toNat)) from by
       rw [zdG b k (by rw [HL.out]; exact hkn), adS_snoc, HA.out])
     have hfit := adS_fits (b.take (k + 1)) 1 0 (by rw [List.length_take]; omega) (by omega) (by omega)
     rw [HS.out] at hfit
     obtain ⟨hf1, hf2⟩ := hfit
     dsimp only at hf1 hf2
     have hz := (b.getD k 0).toNat_lt
     clear HA
     generalize (b.getD k 0).toNat = z at z2 HS hz hf1 hf2
     go_wp2_with fail
     exact ⟨⟨k + 1, p + z, q + (p + z), by go_num, by rw [Int.natCast_add], by rw [Int.natCast_add, Int.natCast_add], by omega, by trivial, HS⟩, by simp [intOf]; omega⟩
theorem asum_any {w : World} {a : Option Addr} {n cap : Nat} {b : List UInt8} (hr : Row w 1 a n cap (b.map fun x => .int .u8 x.toNat)) (hn : n ≤ 2000) (ha : ∀ x, a = some x → x.block < w.heap.size) :
   Calls Tryz.prog 48 #[.slice a n cap] w fun e w' => e = .returned (.int .u32 (adV b)) ∧ Below w.heap.size w w' := by
 have hbA := zal w (.cells #[.int .u32 0, .int .u32 0] 109)
 have hnew := heap_alloc_new w (.cells #[.int .u32 0, .int .u32 0] 109)
 have hbk := hnew
 have c0 : (w.alloc (.cells #[.int .u32 0, .int .u32 0] 109)).cell? ⟨w.heap.size, 0, none⟩ = some (.int .u32 0) := by rw [cell_of_row _ _ 0 _ _ _ hnew]; rfl
 have c1 : (w.alloc (.cells #[.int .u32 0, .int .u32 0] 109)).cell? ⟨w.heap.size, 1, none⟩ = some (.int .u32 0) := by rw [cell_of_row _ _ 1 _ _ _ hnew]; rfl
 have HT := Lib.hid (atake_any (hr.mono hbA) hn c0 c1 (frozen_of_row _ _ _ _ _ hnew) (frozen_of_row _ _ _ _ _ hnew) (fun x hx e => by have := ha x hx; omega))
 have HB := Lib.hid hbA
 have hlt := adM_lt b 1 0 (by decide) (by decide)
 have HV := Lib.hid (show adV b = 65536 * (adM b 1 0).2 + ((adM b 1 0).1 + 65520) % 65521 + 0 ∨ True from .inr trivial)
 have HVV := Lib.hid (show 65536 * (adM b 1 0).2 + (((adM b 1 0).1 + 65520) % 65521 + 1) % 65521 = adV b from by unfold adV; omega)
 have HC := Lib.hid (And.intro c0 c1)
 clear hr ha hbA hnew hbk c0 c1 HV
 generalize (adM b 1 0).1 = x at HT hlt HVV
 generalize (adM b 1 0).2 = y at HT hlt HVV
 go_enter Tryz.func48, Tryz.ntmps48
 go_wp2_with fail
 generalize w.alloc (.cells #[.int .u32 0, .int .u32 0] 109) = w0 at HT HB HC ⊢
 obtain ⟨hb, hhb⟩ : ∃ hb, hb = w.heap.size := ⟨_, rfl⟩
 rw [← hhb] at HT HC HB ⊢
 have HH := Lib.hid hhb
 clear hhb
 refine HT.out.mono ?_
 rintro e w1 ⟨rfl, q, hq⟩
 have d0 : w1.cell? ⟨hb, 0, none⟩ = some (.int .u32 ((x + 65520) % 65521 : Nat)) := by
   rw [hq]
   show ((w0.setCell _ _).setCell _ _).cell? _ = _
   rw [World.cell?_setCell_other _ _ _ _ (by simp)]
   exact World.cell?_setCell_same _ _ _ HC.out.1
 have d1 : w1.cell? ⟨hb, 1, none⟩ = some (.int .u32 (y : Nat)) := by
   rw [hq]
   show ((w0.setCell _ _).setCell _ _).cell? _ = _
   exact World.cell?_setCell_same _ _ _ (u := .int .u32 0) (by rw [World.cell?_setCell_other _ _ _ _ (by simp)]; exact HC.out.2)
 have hb1 : Below hb w w1 := by
   rw [hq]
   exact zad ((((zaa.of_below (S := fun z => hb ≤ z) HB.out fun z hz => hz).setCell (a := ⟨hb, 0, none⟩) (.inl (Nat.le_refl _)) _).setCell (a := ⟨hb, 1, none⟩) (.inl (Nat.le_refl _)) _).below (by have := HH.out; omega) fun z hz => hz) q
 have HVL := Lib.hid (avalue_any (w := w1) (hb := hb) (x := (x + 65520) % 65521) (y := y) (by omega) hlt.2 d0 d1)
 have HB1 := Lib.hid hb1
 clear d0 d1 hb1 hq HT HC HB
 go_wp2_with fail
 refine HVL.out.mono ?_
 rintro e w2 ⟨rfl, q2, hq2⟩
 have HB2 := Lib.hid (show Below hb w w2 from by rw [hq2]; exact zad HB1.out q2)
 clear hq2 HVL
 go_wp2_with fail
 go_ret
 refine ⟨?_, by have := HB2.out; rw [HH.out] at this; exact this⟩
 rw [← HVV.out]
 show Ending.returned (.int .u32 (65536 * (y : Int) + ((x : Int) + 65520 + 1) % 65521)) = _
 exact congrArg (fun z => Ending.returned (.int .u32 z)) (by omega)
structure BelowW (W : World) where
 w : World
 h : Below W.heap.size W w
instance BelowW.there (W : World) : Nonempty (BelowW W) := ⟨⟨W, Below.refl _ _⟩⟩
theorem BelowW.cell {W : World} {b o : Nat} {v : Value} (hc : W.cell? ⟨b, o, none⟩ = some v) (p : BelowW W) : p.w.cell? ⟨b, o, none⟩ = some v := cell?_keep p.h hc
theorem and15 (x : Nat) (h : x < 256) : bits .and .u8 (x : Int) 15 = ((x % 16 : Nat) : Int) := by
 rw [show (15 : Int) = ((15 : Nat) : Int) from rfl, u8_and_nat x 15 h (by omega)]
 have : ∀ k : Fin 256, k.1 &&& 15 = k.1 % 16 := by decide +kernel
 rw [this ⟨x, h⟩]
theorem and32 (x : Nat) (h : x < 256) : bits .and .u8 (x : Int) 32 = ((x / 32 % 2 * 32 : Nat) : Int) := by
 rw [show (32 : Int) = ((32 : Nat) : Int) from rfl, u8_and_nat x 32 h (by omega)]
 have : ∀ k : Fin 256, k.1 &&& 32 = k.1 / 32 % 2 * 32 := by decide +kernel
 rw [this ⟨x, h⟩]
theorem or256 (x y : Nat) (hx : x < 256) (hy : y < 256) : bits .or .i64 ((x : Int) * 256) (y : Int) = ((256 * x + y : Nat) : Int) := by
 rw [show ((x : Int) * 256) = ((256 * x : Nat) : Int) from by omega, zdD _ _ (by omega) (by omega)]
 have h := Nat.two_pow_add_eq_or_of_lt (i := 8) (b := y) (by omega) x
 rw [show (2 : Nat) ^ 8 = 256 from rfl] at h
 rw [h]
def chk2 (x y : Nat) : Int := if x % 16 ≠ 8 ∨ 7 < x / 16 ∨ y / 32 % 2 ≠ 0 ∨ (256 * x + y) % 31 ≠ 0 then 11 else 0
def ChkEnd (w : World) (v : Int) (e : Ending) (w' : World) : Prop := e = .returned (.int .i64 v) ∧ ∃ q, w' = w.drewN q
theorem check_two {w : World} {b off n cap x y : Nat} (hn : 2 ≤ n) (_hc : n ≤ cap) (_hcm : cap ≤ 9223372036854775807) (z0 : w.cell? ⟨b, off, none⟩ = some (.int .u8 x)) (z1 : w.cell? ⟨b, off + 1, none⟩ = some (.int .u8 y)) (hx : x < 256) (hy : y < 256) :
   Calls Tryz.prog 21 #[.slice (some ⟨b, off, none⟩) n cap] w (ChkEnd w (chk2 x y)) := by
 have d0 : decide ((n : Int) < 2) = false := decide_eq_false (by omega)
 have h0 : (0 : Int) < (n : Int) := by omega
 have h1 : (1 : Int) < (n : Int) := by omega
 have hA := and15 x hx
 have hB := and32 y hy
 have hC := or256 x y hx hy
 by_cases c1 : x % 16 = 8
 case neg =>
   have HV := Lib.hid (show chk2 x y = 11 from by unfold chk2; rw [if_pos (.inl c1)])
   have e1 : ((x : Int) % 16 != 8) = true := by rw [bne_iff_ne]; omega
   clear hA hB hC
   go_enter Tryz.func21, Tryz.ntmps21
   go_wp2_with fail
   go_quiet (fail)
   go_wp2_with fail
   go_ret
   exact ⟨zaq HV.out.symm, _, rfl⟩
 have e1 : ((x : Int) % 16 != 8) = false := by rw [bne_eq_false_iff_eq]; omega
 by_cases c2 : 7 < x / 16
 · have HV := Lib.hid (show chk2 x y = 11 from by unfold chk2; rw [if_pos (.inr (.inl c2))])
   have e2 : decide ((x : Int) / 16 > 7) = true := decide_eq_true (by omega)
   clear hA hB hC
   go_enter Tryz.func21, Tryz.ntmps21
   go_wp2_with fail
   go_quiet (fail)
   go_wp2_with fail
   go_ret
   exact ⟨zaq HV.out.symm, _, rfl⟩
 have e2 : decide ((x : Int) / 16 > 7) = false := decide_eq_false (by omega)
 by_cases c3 : y / 32 % 2 = 0
 case neg =>
   have HV := Lib.hid (show chk2 x y = 11 from by unfold chk2; rw [if_pos (.inr (.inr (.inl c3)))])
   have e3 : (bits .and .u8 (y : Int) 32 != 0) = true := by rw [hB, bne_iff_ne]; omega
   clear hA hB hC
   go_enter Tryz.func21, Tryz.ntmps21
   go_wp2_with fail
   go_quiet (fail)
   go_wp2_with fail
   go_ret
   exact ⟨zaq HV.out.symm, _, rfl⟩
 have e3 : (bits .and .u8 (y : Int) 32 != 0) = false := by rw [hB, bne_eq_false_iff_eq]; omega
 by_cases c4 : (256 * x + y) % 31 = 0
 · have HV := Lib.hid (show chk2 x y = 0 from by unfold chk2; rw [if_neg (by omega)])
   have e4 : ((bits .or .i64 ((x : Int) * 256) (y : Int)).tmod 31 != 0) = false := by rw [hC, Int.tmod_eq_emod_of_nonneg (by omega), bne_eq_false_iff_eq]; omega
   clear hA hB hC
   go_enter Tryz.func21, Tryz.ntmps21
   go_wp2_with fail
   go_quiet (fail)
   go_wp2_with fail
   go_ret
   exact ⟨zaq HV.out.symm, _, rfl⟩
 · have HV := Lib.hid (show chk2 x y = 11 from by unfold chk2; rw [if_pos (.inr (.inr (.inr c4)))])
   have e4 : ((bits .or .i64 ((x : Int) * 256) (y : Int)).tmod 31 != 0) = true := by rw [hC, Int.tmod_eq_emod_of_nonneg (by omega), bne_iff_ne]; omega
   clear hA hB hC
   go_enter Tryz.func21, Tryz.ntmps21
   go_wp2_with fail
   go_quiet (fail)
   go_wp2_with fail
   go_ret
   exact ⟨zaq HV.out.symm, _, rfl⟩
theorem zbY {w : World} {b off n cap x y : Nat} (hn : 2 ≤ n) (_hc : n ≤ cap) (_hcm : cap ≤ 9223372036854775807) (z0 : w.cell? ⟨b, off, none⟩ = some (.int .u8 x)) (z1 : w.cell? ⟨b, off + 1, none⟩ = some (.int .u8 y)) (hx : x < 256) (hy : y < 256) :
   Calls Tryz.prog 22 #[.slice (some ⟨b, off, none⟩) n cap] w (ChkEnd w (chk2 x y)) := by
 have d0 : decide ((n : Int) < 2) = false := decide_eq_false (by omega)
 have h0 : (0 : Int) < (n : Int) := by omega
 have h1 : (1 : Int) < (n : Int) := by omega
 by_cases c1 : x % 16 = 8
 case neg =>
   have HV := Lib.hid (show chk2 x y = 11 from by unfold chk2; rw [if_pos (.inl c1)])
   have e1 : ((x : Int) % 16 != 8) = true := by rw [bne_iff_ne]; omega
   go_enter Tryz.func22, Tryz.ntmps22
   go_wp2_with fail
   go_quiet (fail)
   go_wp2_with fail
   go_ret
   exact ⟨zaq HV.out.symm, _, rfl⟩
 have e1 : ((x : Int) % 16 != 8) = false := by rw [bne_eq_false_iff_eq]; omega
 by_cases c2 : 7 < x / 16
 · have HV := Lib.hid (show chk2 x y = 11 from by unfold chk2; rw [if_pos (.inr (.inl c2))])
   have e2 : decide ((x : Int) / 16 > 7) = true := decide_eq_true (by omega)
   go_enter Tryz.func22, Tryz.ntmps22
   go_wp2_with fail
   go_quiet (fail)
   go_wp2_with fail
   go_ret
   exact ⟨zaq HV.out.symm, _, rfl⟩
 have e2 : decide ((x : Int) / 16 > 7) = false := decide_eq_false (by omega)
 by_cases c3 : y / 32 % 2 = 0
 case neg =>
   have HV := Lib.hid (show chk2 x y = 11 from by unfold chk2; rw [if_pos (.inr (.inr (.inl c3)))])
   have e3 : ((y : Int) / 32 % 2 != 0) = true := by rw [bne_iff_ne]; omega
   go_enter Tryz.func22, Tryz.ntmps22
   go_wp2_with fail
   go_quiet (fail)
   go_wp2_with fail
   go_ret
   exact ⟨zaq HV.out.symm, _, rfl⟩
 have e3 : ((y : Int) / 32 % 2 != 0) = false := by rw [bne_eq_false_iff_eq]; omega
 by_cases c4 : (256 * x + y) % 31 = 0
 · have HV := Lib.hid (show chk2 x y = 0 from by unfold chk2; rw [if_neg (by omega)])
   have e4 : ((256 * (x : Int) + (y : Int)) % 31 != 0) = false := by rw [bne_eq_false_iff_eq]; omega
   go_enter Tryz.func22, Tryz.ntmps22
   go_wp2_with fail
   go_quiet (fail)
   go_wp2_with fail
   go_ret
   exact ⟨zaq HV.out.symm, _, rfl⟩
 · have HV := Lib.hid (show chk2 x y = 11 from by unfold chk2; rw [if_pos (.inr (.inr (.inr c4)))])
   have e4 : ((256 * (x : Int) + (y : Int)) % 31 != 0) = true := by rw [bne_iff_ne]; omega
   go_enter Tryz.func22, Tryz.ntmps22
   go_wp2_with fail
   go_quiet (fail)
   go_wp2_with fail
   go_ret
   exact ⟨zaq HV.out.symm, _, rfl⟩
theorem chkV_two {b : List UInt8} (h : 2 ≤ b.length) : chkV b = chk2 (b.getD 0 0).toNat (b.getD 1 0).toNat := by
 unfold chkV chk2
 rw [if_neg (by omega)]
theorem zda {w : World} {a : Option Addr} {n cap : Nat} {b : List UInt8} (hr : Row w 1 a n cap (b.map fun x => .int .u8 x.toNat)) : Calls Tryz.prog 21 #[.slice a n cap] w (ChkEnd w (chkV b)) := by
 have hl : b.length = n := by have := hr.1; simpa using this
 have hcapm := hr.2.2.1
 have hcapn := hr.2.1
 unfold maxLen at hcapm
 by_cases h2 : n < 2
 · have HV := Lib.hid (show chkV b = 10 from by unfold chkV; rw [if_pos (by omega)])
   have d0 : decide ((n : Int) < 2) = true := decide_eq_true (by omega)
   clear hr
   go_enter Tryz.func21, Tryz.ntmps21
   go_wp2
   go_ret
   exact ⟨zaq HV.out.symm, 0, rfl⟩
 · obtain ⟨bb, off, rfl, -, hcc⟩ := hr.at 0 0 (by omega)
   rw [chkV_two (by omega)]
   exact check_two (by omega) hcapn (by omega) (hcc 0 (by omega)) (hcc 1 (by omega)) (UInt8.toNat_lt _) (UInt8.toNat_lt _)
theorem zdA {w : World} {a : Option Addr} {n cap : Nat} {b : List UInt8} (hr : Row w 1 a n cap (b.map fun x => .int .u8 x.toNat)) : Calls Tryz.prog 22 #[.slice a n cap] w (ChkEnd w (chkV b)) := by
 have hl : b.length = n := by have := hr.1; simpa using this
 have hcapm := hr.2.2.1
 have hcapn := hr.2.1
 unfold maxLen at hcapm
 by_cases h2 : n < 2
 · have HV := Lib.hid (show chkV b = 10 from by unfold chkV; rw [if_pos (by omega)])
   have d0 : decide ((n : Int) < 2) = true := decide_eq_true (by omega)
   clear hr
   go_enter Tryz.func22, Tryz.ntmps22
   go_wp2
   go_ret
   exact ⟨zaq HV.out.symm, 0, rfl⟩
 · obtain ⟨bb, off, rfl, -, hcc⟩ := hr.at 0 0 (by omega)
   rw [chkV_two (by omega)]
   exact zbY (by omega) hcapn (by omega) (hcc 0 (by omega)) (hcc 1 (by omega)) (UInt8.toNat_lt _) (UInt8.toNat_lt _)
end Go.Proofs.YtkikhmdpcanidaaGreat
namespace Go.Proofs.YtkikhmdpcanidaaGreat
open Go.RowKit Go.Sort
def rC (a : Option Addr) (L c at_ : Nat) (e : Int) (v : Value) (most : Nat) : Array Value := #[.slice a L c, .int .i64 at_, .int .i64 e, v, .int .i64 most]
def rE (a : Option Addr) (L c at_ : Nat) (e : Int) (v : Value) (most : Nat) (i : Nat) : Value := if i = 0 then .slice a L c else if i = 1 then .int .i64 at_ else if i = 2 then .int .i64 e else if i = 3 then v else .int .i64 most
def bitR (bs : List UInt8) : List Value := (bl bs false 0 (8 * bs.length)).map Value.bool
structure IsR (w : World) (U : Nat → Prop) (rb : Nat) (a : Option Addr) (c : Nat) (bs : List UInt8) (most : Nat) (s : IS) : Prop where
 ex : ∃ v, w.heap[rb]? = some (.cells (rC a (8 * bs.length) c s.at_ s.e v most) 66 (0, 0)) ∧ w.ownsRow (rb + 1) 5 1 v s.out.length (s.out.map u8C) ∧ ∀ b, v.ownBlock = some b → U b
 row : Row w 1 a (8 * bs.length) c (bitR bs)
 lt : ∀ x, a = some x → x.block < rb
 le : s.at_ ≤ 8 * bs.length
 own : U rb
 ult : ∀ b, U b → rb ≤ b ∧ b < w.heap.size
def za3 (w : World) (U : Nat → Prop) (rb : Nat) (a : Option Addr) (c : Nat) (bs : List UInt8) (most : Nat) (s : IS) (w' : World) : Prop := ∃ U', IsR w' U' rb a c bs most s ∧ zaa U w w' ∧ ∀ b, U' b → U b ∨ w.heap.size ≤ b
section
variable {w w' : World} {U : Nat → Prop} {rb : Nat} {a : Option Addr} {c : Nat} {bs : List UInt8} {most : Nat} {s : IS}
theorem IsR.blt (h : IsR w U rb a c bs most s) {b : Nat} (hb : U b) : b < w.heap.size := (h.ult b hb).2
theorem IsR.keeps {V : Nat → Prop} (h : IsR w U rb a c bs most s) (hk : zaa V w w') (hV : ∀ b, b < rb ∨ U b → ¬ V b) : IsR w' U rb a c bs most s := by
 obtain ⟨⟨v, h1, h2, h3⟩, h4, h5, h6, h7, h8⟩ := h
 exact ⟨⟨v, hk.obj h1 (hV rb (.inr h7)), zat h2 hk (fun b hb => hV b (.inr (h3 b hb))), h3⟩, h4.keeps hk (fun x hx => hV _ (.inl (h5 x hx))), h5, h6, h7, fun b hb => ⟨(h8 b hb).1, Nat.lt_of_lt_of_le (h8 b hb).2 hk.size⟩⟩
theorem IsR.mono (h : IsR w U rb a c bs most s) (hb : Below w.heap.size w w') : IsR w' U rb a c bs most s :=
 h.keeps (zaa.of_below (S := fun b => w.heap.size ≤ b) hb (fun _ h => h)) (fun b hb2 hn => by
   have := h.blt h.own
   rcases hb2 with h1 | h1
   · omega
   · have := h.blt h1; omega)
theorem IsR.cells (h : IsR w U rb a c bs most s) :
   w.cell? ⟨rb, 0, none⟩ = some (.slice a (8 * bs.length) c) ∧ w.cell? ⟨rb, 1, none⟩ = some (.int .i64 s.at_) ∧ w.cell? ⟨rb, 2, none⟩ = some (.int .i64 s.e) ∧ w.cell? ⟨rb, 4, none⟩ = some (.int .i64 most) ∧ w.frozen? ⟨rb, 1, none⟩ = false ∧ w.frozen? ⟨rb, 2, none⟩ = false ∧ w.frozen? ⟨rb, 3, none⟩ = false := by
 obtain ⟨⟨v, h1, -⟩, -⟩ := h
 refine ⟨?_, ?_, ?_, ?_, frozen_of_row w rb 1 _ _ h1, frozen_of_row w rb 2 _ _ h1, frozen_of_row w rb 3 _ _ h1⟩ <;> (rw [cell_of_row w rb _ _ _ _ h1]; rfl)
theorem IsR.drewN (h : IsR w U rb a c bs most s) (q : Nat) : IsR (w.drewN q) U rb a c bs most s ∧ zaa U w (w.drewN q) :=
 ⟨h.keeps ((zaa.refl (fun _ => False) w).drewN q) (fun _ _ h => h), (zaa.refl U w).drewN q⟩
theorem IsR.setE (h : IsR w U rb a c bs most s) (e : Int) : IsR (w.setCell ⟨rb, 2, none⟩ (.int .i64 e)) U rb a c bs most { s with e := e } ∧ zaa U w (w.setCell ⟨rb, 2, none⟩ (.int .i64 e)) := by
 have hk : zaa (fun b => b = rb) w (w.setCell ⟨rb, 2, none⟩ (.int .i64 e)) := zaa.setCell (S := fun b => b = rb) (zaa.refl _ w) (a := ⟨rb, 2, none⟩) (.inl rfl) _
 obtain ⟨⟨v, h1, h2, h3⟩, h4, h5, h6, h7, h8⟩ := h
 refine ⟨⟨⟨v, ?_, zat h2 hk (fun b hb e => by have := (h2.lt b hb).1; omega), h3⟩, h4.keeps hk (fun x hx e => by have := h5 x hx; omega), h5, h6, h7, fun b hb => ⟨(h8 b hb).1, Nat.lt_of_lt_of_le (h8 b hb).2 hk.size⟩⟩, hk.weaken (fun b hb => hb ▸ h7)⟩
 have := zaD (w := w) (b := rb) (n := 5) (enc := rE a (8 * bs.length) c s.at_ s.e v most) (t := 66) h1 2 (.int .i64 e)
 exact this
theorem IsR.setA (h : IsR w U rb a c bs most s) (k : Nat) (hk2 : k ≤ 8 * bs.length) : IsR (w.setCell ⟨rb, 1, none⟩ (.int .i64 k)) U rb a c bs most { s with at_ := k } ∧ zaa U w (w.setCell ⟨rb, 1, none⟩ (.int .i64 k)) := by
 have hk : zaa (fun b => b = rb) w (w.setCell ⟨rb, 1, none⟩ (.int .i64 k)) := zaa.setCell (S := fun b => b = rb) (zaa.refl _ w) (a := ⟨rb, 1, none⟩) (.inl rfl) _
 obtain ⟨⟨v, h1, h2, h3⟩, h4, h5, h6, h7, h8⟩ := h
 refine ⟨⟨⟨v, ?_, zat h2 hk (fun b hb e => by have := (h2.lt b hb).1; omega), h3⟩, h4.keeps hk (fun x hx e => by have := h5 x hx; omega), h5, hk2, h7, fun b hb => ⟨(h8 b hb).1, Nat.lt_of_lt_of_le (h8 b hb).2 hk.size⟩⟩, hk.weaken (fun b hb => hb ▸ h7)⟩
 have := zaD (w := w) (b := rb) (n := 5) (enc := rE a (8 * bs.length) c s.at_ s.e v most) (t := 66) h1 1 (.int .i64 k)
 exact this
theorem za3.trans {w1 w2 : World} {U1 : Nat → Prop} (hk : zaa U w w1) (hs : ∀ b, U1 b → U b ∨ w.heap.size ≤ b) (h2 : za3 w1 U1 rb a c bs most s w2) : za3 w U rb a c bs most s w2 := by
 obtain ⟨U2, h3, h4, h5⟩ := h2
 have := hk.size
 exact ⟨U2, h3, hk.trans h4 hs, fun b hb => (h5 b hb).elim (hs b) (fun h => .inr (by omega))⟩
end
theorem zaA {w : World} {U : Nat → Prop} {rb : Nat} {a : Option Addr} {c : Nat} {bs : List UInt8} {most : Nat} {s : IS} (h : IsR w U rb a c bs most s) (e : Int) :
   Calls Tryz.prog 42 #[.pointer (some ⟨rb, 0, none⟩), .int .i64 e] w fun x w' => x = .returned (.tuple #[]) ∧ IsR w' U rb a c bs most (zac e s) ∧ zaa U w w' := by
 obtain ⟨-, -, c2, -, -, f2, -⟩ := h.cells
 have HS := Lib.hid h
 have HE := Lib.hid (h.setE e)
 clear h
 by_cases he : s.e = 0
 · have HF : Hid (zac e s = { s with e := e }) := Lib.hid (by unfold zac; rw [if_pos he])
   rw [he] at c2
   go_enter Tryz.func42, Tryz.ntmps42
   go_wp2
   go_end0
   exact ⟨rfl, by rw [HF.out]; exact HE.out⟩
 · have HF : Hid (zac e s = s) := Lib.hid (by unfold zac; rw [if_neg he])
   go_enter Tryz.func42, Tryz.ntmps42
   go_wp2
   go_end0
   exact ⟨rfl, by rw [HF.out]; exact ⟨HS.out, zaa.refl _ _⟩⟩
def topV (f : Nat → Bool) (n : Nat) : Nat → Nat
 | 0 => 0
 | k + 1 => 2 * topV f n k + if f (n - 1 - k) then 1 else 0
theorem topV_lt (f : Nat → Bool) (n : Nat) : ∀ k, topV f n k < 2 ^ k
 | 0 => by simp [topV]
 | k + 1 => by have := topV_lt f n k; simp only [topV, Nat.pow_succ]; split <;> omega
theorem topV_get (f : Nat → Bool) (n : Nat) : ∀ k, k ≤ n → topV f n k * 2 ^ (n - k) + getV f false n (n - k) = getV f false n n
 | 0, _ => by simp [topV]
 | k + 1, h => by
   rw [← topV_get f n k (by omega)]
   obtain ⟨m, hm⟩ : ∃ m, n = k + 1 + m := ⟨n - (k + 1), by omega⟩
   have e1 : n - (k + 1) = m := by omega
   have e2 : n - k = m + 1 := by omega
   have e3 : n - 1 - k = m := by omega
   rw [e1, e2]
   simp only [topV, getV, e3]
   have e4 : zbb m n false = m := rfl
   rw [e4, Nat.pow_succ, Nat.add_mul]
   split
   · rw [Nat.one_mul, Nat.mul_assoc 2, Nat.mul_comm 2 (topV f n k * 2 ^ m), Nat.mul_assoc, Nat.mul_comm (topV f n k)]
     omega
   · rw [Nat.zero_mul, Nat.mul_assoc 2, Nat.mul_comm 2 (topV f n k * 2 ^ m), Nat.mul_assoc]
     omega
theorem topV_all (f : Nat → Bool) (n : Nat) : topV f n n = getV f false n n := by
 have := topV_get f n n (Nat.le_refl _)
 rw [Nat.sub_self] at this
 simpa [getV] using this
theorem topV_bd (f : Nat → Bool) (n k : Nat) (h : k ≤ 20) : topV f n k < 1048576 := Nat.lt_of_lt_of_le (topV_lt f n k) (Nat.pow_le_pow_right (by decide) h)
theorem of_any (a : Option Addr) (n cap : Nat) (l : List Bool) (w : World) (hr : Row w 1 a n cap (l.map Value.bool)) (hn : n ≤ 20) :
   Calls Tryz.prog 67 #[.slice a n cap, .bool false] w fun e w' => e = .returned (.int .u32 (getV (fun i => l.getD i false) false n n : Nat)) ∧ w = w' := by
 have HR := Lib.hid hr
 have HT := Lib.hid (topV_all (fun i => l.getD i false) n)
 have HBD := Lib.hid (topV_bd (fun i => l.getD i false) n)
 obtain ⟨f, hf⟩ : ∃ f, f = (fun i => l.getD i false) := ⟨_, rfl⟩
 rw [← hf] at HT HBD
 have HF := Lib.hid hf
 rw [← hf]
 clear hr hf
 go_enter Tryz.func67, Tryz.ntmps67
 go_wp2
 go_loop [5, 6] (fun x i => ∃ k : Nat, k ≤ n ∧ i = .int .i64 k ∧ x = .int .u32 (topV f n k : Nat)) (fun _ i => n - (intOf i).toNat)
 case atStart => exact ⟨0, Nat.zero_le _, rfl, rfl⟩
 case round =>
   obtain ⟨k, hk, rfl, rfl⟩ := hrel
   by_cases hlt : k < n
   · obtain ⟨b, off, rfl, hblt, hc⟩ := Row.at (enc := Value.bool) false HR.out (n - 1 - k) (by omega)
     have hcx := hc (n - 1 - k) (by omega)
     have HST := Lib.hid (show topV f n (k + 1) = 2 * topV f n k + if f (n - 1 - k) then 1 else 0 from rfl)
     have hb1 := HBD.out k (by omega)
     have hfx : f (n - 1 - k) = l.getD (n - 1 - k) false := by rw [HF.out]
     obtain ⟨p, hp⟩ : ∃ p, p = n - 1 - k := ⟨_, rfl⟩
     rw [← hp] at hcx HST hfx
     rw [← hfx] at hcx
     have hp1 : (n : Int) - 1 - (k : Int) = (p : Int) := by omega
     have hp2 : IntKind.i64.wrap (p : Int) = (p : Int) := IntWalk.i64_in _ (by omega)
     have hp3 : IntKind.i64.wrap ((n : Int) - 1) = (n : Int) - 1 := IntWalk.i64_in _ (by omega)
     have hp4 : p < n := by omega
     obtain ⟨t, ht⟩ : ∃ t, t = topV f n k := ⟨_, rfl⟩
     rw [← ht] at hb1 HST ⊢
     obtain ⟨g, hg⟩ : ∃ g, g = f p := ⟨_, rfl⟩
     rw [← hg] at hcx HST
     clear hc hp hfx ht hg
     cases g with
     | true =>
       go_wp2
       go_round
       case rel => exact ⟨k + 1, by omega, by go_num, by rw [HST.out]; go_num⟩
       case measure => simp [intOf]; omega
     | false =>
       go_wp2
       go_round
       case rel => exact ⟨k + 1, by omega, by go_num, by rw [HST.out]; go_num⟩
       case measure => simp [intOf]; omega
   · obtain rfl : k = n := by omega
     have HT2 := HT
     go_wp2
     go_ret
     exact ⟨by first | rfl | (rw [HT2.out]; rfl), rfl⟩
theorem bl_take (bs : List UInt8) (high : Bool) (at_ m q : Nat) (h : q ≤ m) : (bl bs high at_ m).take q = bl bs high at_ q := by
 unfold bl
 rw [← List.map_take, List.take_range, Nat.min_eq_left h]
theorem bit_row {w : World} {a : Option Addr} {c : Nat} {bs : List UInt8} (h : Row w 1 a (8 * bs.length) c (bitR bs)) (at_ m : Nat) (hm : at_ + m ≤ 8 * bs.length) : Row w 1 (a.map fun x => x.add at_) m (c - at_) ((bl bs false at_ m).map Value.bool) := by
 have h1 := Row.takeN (Row.dropN h at_ (by omega)) m (by omega)
 unfold bitR at h1
 rw [← List.map_drop, ← List.map_take, bl_drop, bl_take _ _ _ _ _ (by omega), Nat.zero_add] at h1
 exact h1
theorem getV_bit (bs : List UInt8) (at_ n : Nat) : getV (fun i => (bl bs false at_ n).getD i false) false n n = getV (bitF bs at_) false n n :=
 zdm n fun _ hi => bl_get bs false at_ n hi
set_option maxRecDepth 20000 in
theorem zaM {w : World} {U : Nat → Prop} {rb : Nat} {a : Option Addr} {c : Nat} {bs : List UInt8} {most : Nat} {s : IS} (h : IsR w U rb a c bs most s) (n : Nat) (hn : n ≤ 20) (hsm : bs.length ≤ 1000000) :
   Calls Tryz.prog 37 #[.pointer (some ⟨rb, 0, none⟩), .int .i64 n] w fun x w' => x = .returned (.int .i64 (numV bs n s).1) ∧ IsR w' U rb a c bs most (numV bs n s).2 ∧ zaa U w w' := by
 obtain ⟨c0, c1, c2, -, f1, f2, -⟩ := h.cells
 have HS := Lib.hid h
 by_cases he : s.e = 0
 · rw [he] at c2
   by_cases hl : 8 * bs.length < s.at_ + n
   · have HV : Hid (numV bs n s = (0, zac 10 s)) := Lib.hid (by unfold numV zac; rw [if_neg (by simp [he]), if_pos hl, if_pos he])
     have HF := Lib.hid (fun (q : Nat) => zaA (h.drewN q).1 10)
     have hle := h.le
     obtain ⟨L, hL⟩ : ∃ L, L = 8 * bs.length := ⟨_, rfl⟩
     rw [← hL] at c0 hl hle
     have i1 : IntKind.i64.wrap ((L : Int) - (s.at_ : Int)) = (L : Int) - (s.at_ : Int) := IntWalk.i64_in _ (by omega)
     have hd : decide ((L : Int) - (s.at_ : Int) < (n : Int)) = true := decide_eq_true (by omega)
     clear h hL hl
     go_enter Tryz.func37, Tryz.ntmps37
     go_wp2_with fail
     go_quiet (fail)
     go_wp2_with fail
     refine (HF.out _).mono ?_
     rintro e w2 ⟨rfl, h2, k2⟩
     have H2 := Lib.hid h2
     have K2 := Lib.hid ((HS.out.drewN _).2.trans k2 (fun _ hb => .inl hb))
     clear h2 k2
     go_wp2
     go_ret
     exact ⟨by rw [HV.out]; rfl, by rw [HV.out]; exact ⟨H2.out, K2.out⟩⟩
   · have HV : Hid (numV bs n s = (getV (bitF bs s.at_) false n n, { s with at_ := s.at_ + n })) := Lib.hid (by unfold numV; rw [if_neg (by simp [he]), if_neg hl])
     have hle := h.le
     have hrow := bit_row h.row s.at_ n (by omega)
     have hcap := h.row.2.1
     have hLc : 8 * bs.length ≤ c := h.row.2.1
     have hnil : a = none → c = 0 := h.row.2.2.2.1
     have hmx : c ≤ maxLen := h.row.2.2.1
     obtain ⟨L, hL⟩ : ∃ L, L = 8 * bs.length := ⟨_, rfl⟩
     rw [← hL] at c0 hl hle hLc
     obtain ⟨M, hM⟩ : ∃ M, M = s.at_ + n := ⟨_, rfl⟩
     obtain ⟨at_, hat⟩ : ∃ at_, at_ = s.at_ := ⟨_, rfl⟩
     rw [← hat] at c1 hl hle hM hrow HV
     rw [← hM] at HV
     have HAT := Lib.hid hat
     have i1 : IntKind.i64.wrap ((L : Int) - (at_ : Int)) = (L : Int) - (at_ : Int) := IntWalk.i64_in _ (by omega)
     have i2 : (at_ : Int) + (n : Int) = (M : Int) := by omega
     have i3 : IntKind.i64.wrap (M : Int) = (M : Int) := IntWalk.i64_in _ (by omega)
     have hd : decide ((L : Int) - (at_ : Int) < (n : Int)) = false := decide_eq_false (by omega)
     have q1 : (at_ : Int) ≤ (M : Int) := by omega
     have q2 : (M : Int) ≤ (c : Int) := by omega
     have q3 : (0 : Int) ≤ (at_ : Int) := by omega
     have q4 : at_ ≤ M := by omega
     have q5 : M ≤ c := by omega
     have hMn : M - at_ = n := by omega
     have hrow2 : Row w 1 (if c = at_ then a else a.map fun x => x.add at_) n (c - at_) ((bl bs false at_ n).map Value.bool) := by
       by_cases hq : c = at_
       · rw [if_pos hq]
         have hn0 : n = 0 := by omega
         subst hn0
         exact ⟨rfl, Nat.zero_le _, by omega, fun e => by have := hnil e; omega, fun h => by omega⟩
       · rw [if_neg hq]; exact hrow
     have HOF := Lib.hid (fun (q : Nat) => of_any _ n (c - at_) (bl bs false at_ n) (w.drewN q) (hrow2.mono (zaz (Below.refl _ _) q)) hn)
     have HGV := Lib.hid (getV_bit bs at_ n)
     have hgl := zcY (bitF bs at_) false n n (Nat.le_refl _)
     have hgb : getV (bitF bs at_) false n n < 1048576 := Nat.lt_of_lt_of_le hgl (Nat.pow_le_pow_right (by decide) hn)
     rw [HGV.out] at HOF
     obtain ⟨G, hG⟩ : ∃ G, G = getV (bitF bs at_) false n n := ⟨_, rfl⟩
     rw [← hG] at HOF HV hgb
     have i4 : IntKind.i64.wrap (G : Int) = (G : Int) := IntWalk.i64_in _ (by omega)
     have HSA := Lib.hid (fun (q : Nat) => ((HS.out.drewN q).1.setA M (by omega)))
     clear h hL hl hM hat hrow hrow2 hG hgl HGV
     go_enter Tryz.func37, Tryz.ntmps37
     go_wp2_with fail
     go_quiet (fail)
     go_wp2_with fail
     go_quiet ((go_at_call 67; refine (HOF.out _).mono ?_; rintro e w' ⟨rfl, rfl⟩; exact ⟨rfl, _, rfl⟩))
     all_goals go_wp2
     all_goals go_ret
     all_goals refine ⟨by rw [HV.out]; rfl, ?_⟩
     all_goals rw [HV.out]
     all_goals refine ⟨?_, (HS.out.drewN _).2.trans (HSA.out _).2 (fun _ hb => .inl hb)⟩
     all_goals first
       | exact (HSA.out _).1
       | (have hce : c = at_ := by assumption
          rw [← hce]; exact (HSA.out _).1)
 · have HV : Hid (numV bs n s = (0, s)) := Lib.hid (by unfold numV; rw [if_pos he])
   clear h
   go_enter Tryz.func37, Tryz.ntmps37
   go_wp2
   go_ret
   exact ⟨by rw [HV.out]; rfl, by rw [HV.out]; exact ⟨HS.out, zaa.refl _ _⟩⟩
end Go.Proofs.YtkikhmdpcanidaaGreat
namespace Go.Proofs.YtkikhmdpcanidaaGreat
open Go.RowKit Go.Sort
theorem IsR.putOut {w w1 : World} {U : Nat → Prop} {rb : Nat} {a : Option Addr} {c : Nat} {bs : List UInt8} {most : Nat} {s : IS} {v v' : Value} {o : Obj} {x : UInt8} (h : IsR w U rb a c bs most s) (hv : w.heap[rb]? = some (.cells (rC a (8 * bs.length) c s.at_ s.e v most) 66 (0, 0))) (hO : w.ownsRow (rb + 1) 5 1 v s.out.length (s.out.map u8C)) (hU : ∀ b, v.ownBlock = some b → U b)
   (hO' : w1.ownsRow (rb + 1) 5 1 v' (s.out.length + 1) (s.out.map u8C ++ [u8C x])) (hg : (w.alloc o).grownBy w1 v.ownBlock) (hN : NewAt (w.alloc o) v v') :
   za3 w U rb a c bs most { s with out := s.out ++ [x] } (w1.setCell ⟨rb, 3, none⟩ v') := by
 have hk : zaa (fun b => v.ownBlock = some b) w w1 := ((zaa.refl _ w).alloc o).grown hg (fun k hk => .inl hk)
 have hk2 : zaa (fun b => b = rb) w1 (w1.setCell ⟨rb, 3, none⟩ v') := zaa.setCell (S := fun b => b = rb) (zaa.refl _ w1) (a := ⟨rb, 3, none⟩) (.inl rfl) _
 have hsz := hk.size
 have hult := h.ult
 have hrb := h.blt h.own
 have hrb1 : w1.heap[rb]? = some (.cells (rC a (8 * bs.length) c s.at_ s.e v most) 66 (0, 0)) := hk.obj hv (fun e => by have := (hO.lt rb e).1; omega)
 have hkU : zaa U w w1 := hk.weaken hU
 refine ⟨fun b => U b ∨ v'.ownBlock = some b, ⟨⟨v', ?_, ?_, fun b hb => .inr hb⟩, (h.row.keeps hk (fun y hy e => by have := (hO.lt _ e).1; have := h.lt y hy; omega)).keeps hk2 (fun y hy e => by have := h.lt y hy; omega), h.lt, h.le, .inl h.own, fun b hb => ?_⟩, hkU.trans hk2 (fun b hb => .inl (hb ▸ h.own)), fun b hb => ?_⟩
 · have := zaD (w := w1) (b := rb) (n := 5) (enc := rE a (8 * bs.length) c s.at_ s.e v most) (t := 66) hrb1 3 v'
   exact this
 · have h3 := zat hO' hk2 (fun b hb e => by have := (hO'.lt b hb).1; omega)
   show World.ownsRow _ _ _ _ v' (s.out ++ [x]).length ((s.out ++ [x]).map u8C)
   rw [List.length_append, List.map_append]
   exact h3
 · have hs2 := hk2.size
   rcases hb with hb | hb
   · have := hult b hb
     exact ⟨this.1, by omega⟩
   · have := hO'.lt b hb
     exact ⟨by omega, by omega⟩
 · rcases hb with hb | hb
   · exact .inl hb
   · rcases hN b hb with e | e
     · exact .inl (hU b e)
     · rw [zaj] at e; exact .inr (by omega)
theorem IsR.next {w w' : World} {U : Nat → Prop} {rb : Nat} {a : Option Addr} {c : Nat} {bs : List UInt8} {most : Nat} {s : IS} (h : IsR w' U rb a c bs most s ∧ zaa U w w') : za3 w U rb a c bs most s w' := ⟨U, h.1, h.2, fun _ h => .inl h⟩
def putR (most : Nat) (c : UInt8) (s : IS) : IS := if s.e ≠ 0 then s else zbp most c s
theorem rput_any {w : World} {U : Nat → Prop} {rb : Nat} {a : Option Addr} {c : Nat} {bs : List UInt8} {most : Nat} {s : IS} (h : IsR w U rb a c bs most s) (x : Nat) (hx : x < 256) (hb : s.out.length ≤ 100000000) :
   Calls Tryz.prog 68 #[.pointer (some ⟨rb, 0, none⟩), .int .i64 x] w fun e w' => e = .returned (.tuple #[]) ∧ za3 w U rb a c bs most (putR most (UInt8.ofNat x) s) w' := by
 obtain ⟨c0, c1, c2, c4, f1, f2, f3⟩ := h.cells
 have HS := Lib.hid h
 obtain ⟨v, hv, hO, hU⟩ := h.ex
 obtain ⟨a0, cap0, hva, -, -⟩ := Row.of_owns hO
 subst hva
 have c3 : w.cell? ⟨rb, 3, none⟩ = some (.slice a0 s.out.length cap0) := by rw [cell_of_row w rb _ _ _ _ hv]; rfl
 have HV := Lib.hid hv
 have HO := Lib.hid hO
 have HU := Lib.hid hU
 have hsb := h.blt h.own
 clear h hv hO hU
 by_cases he : s.e = 0
 · rw [he] at c2
   by_cases hl : most ≤ s.out.length
   · have hd : decide (most ≤ s.out.length) = true := decide_eq_true hl
     have HP : Hid (putR most (UInt8.ofNat x) s = zac 3 s) := Lib.hid (by unfold putR zbp; rw [if_neg (by simp [he]), if_pos hl])
     go_enter Tryz.func68, Tryz.ntmps68
     go_wp2_with fail
     go_quiet (fail)
     have HF := Lib.hid (zaA (HS.out.drewN nq).1 3)
     go_wp2_with fail
     refine HF.out.mono ?_
     rintro e w2 ⟨rfl, h2, k2⟩
     have H2 := Lib.hid (And.intro h2 ((HS.out.drewN nq).2.trans k2 (fun _ hb => .inl hb)))
     clear h2 k2
     go_wp2
     refine bodyPost_ret (results_none rfl _ _ _) rfl ?_
     exact ⟨rfl, by rw [HP.out]; exact IsR.next H2.out⟩
   · have hd : decide (most ≤ s.out.length) = false := decide_eq_false hl
     have HP : Hid (putR most (UInt8.ofNat x) s = { s with out := s.out ++ [UInt8.ofNat x] }) := Lib.hid (by unfold putR zbp; rw [if_neg (by simp [he]), if_neg hl])
     have hxw : IntKind.u8.wrap (x : Int) = (x : Int) := by rw [show IntKind.u8.wrap (x : Int) = (x : Int) % 256 from rfl]; omega
     have HX : Hid (u8C (UInt8.ofNat x) = .int .u8 (x : Int)) := Lib.hid (by unfold u8C; rw [UInt8.toNat_ofNat', Nat.mod_eq_of_lt hx])
     go_enter Tryz.func68, Tryz.ntmps68
     go_wp2_with fail
     go_quiet (fail)
     have HSD := Lib.hid (HS.out.drewN nq)
     have HOD := Lib.hid (show (w.drewN nq).ownsRow (rb + 1) 5 1 (.slice a0 s.out.length cap0) s.out.length (s.out.map u8C) from HO.out)
     have HVD := Lib.hid (show (w.drewN nq).heap[rb]? = some (.cells (rC a (8 * bs.length) c s.at_ s.e (.slice a0 s.out.length cap0) most) 66 (0, 0)) from HV.out)
     have d3 : (w.drewN nq).cell? ⟨rb, 3, none⟩ = some (.slice a0 s.out.length cap0) := c3
     have hsbd : rb < (w.drewN nq).heap.size := hsb
     generalize w.drewN nq = W at *
     clear c0 c1 c2 c3 c4 f1 f2 f3
     go_wp2_with (at_builtin; refine zcm EByte rfl (.tmp 25) (.tmp 28) rfl (rb + 1) _ s.out.length _ rfl (HOD.out.alloc _) _ 1 _ _ rfl (za1 _ _ _) (zb6 rfl) (by unfold maxLen; omega) (by omega) (by rw [zaj]; omega) ?_; intro v' w5 hO5 hg5 hN5; obtain ⟨a5, c5, hv5, -, -⟩ := Row.of_owns hO5; subst hv5; have HN := Lib.hid (HSD.out.1.putOut (x := UInt8.ofNat x) HVD.out HOD.out HU.out (by rw [HX.out]; exact hO5) hg5 hN5); have hf5 : w5.frozen? ⟨rb, 3, none⟩ = false := frozen_of_row w5 rb 3 _ _ ((((zaa.refl _ W).alloc _).grown hg5 (fun k hk => .inl hk)).obj HVD.out (fun e => by have := (HOD.out.lt rb e).1; omega)); have hc5 : w5.cell? ⟨rb, 3, none⟩ = some (.slice a0 s.out.length cap0) := (((zaa.refl _ W).alloc _).grown hg5 (fun k hk => .inl hk)).cell d3 (fun e => by have := (HOD.out.lt rb e).1; omega); clear hO5 hg5 hN5)
     go_end0
     refine ⟨rfl, ?_⟩
     rw [HP.out]
     exact za3.trans HSD.out.2 (fun _ h => .inl h) HN.out
 · have HP : Hid (putR most (UInt8.ofNat x) s = s) := Lib.hid (by unfold putR; rw [if_pos he])
   go_enter Tryz.func68, Tryz.ntmps68
   go_wp2_with fail
   refine bodyPost_ret (results_none rfl _ _ _) rfl ?_
   exact ⟨rfl, by rw [HP.out]; exact IsR.next ⟨HS.out, zaa.refl _ _⟩⟩
theorem zdO {w : World} {U : Nat → Prop} {rb : Nat} {a : Option Addr} {c : Nat} {bs : List UInt8} {most : Nat} {s : IS} (h : IsR w U rb a c bs most s) {al : Option Addr} {n cap : Nat} {l : List Int} (hr : Row w 1 al n cap (l.map (Value.int .i64))) :
   Calls Tryz.prog 69 #[.pointer (some ⟨rb, 0, none⟩), .slice al n cap] w fun x w' => ∃ v, x = .returned v ∧ IsR w' U rb a c bs most (tabV l s) ∧ zaa U w w' ∧ ((tabV l s).e = 0 → 0 ≤ zap l ∧ w'.ownsRow w.heap.size 79 1 v n (fl n (cdV l n))) := by
 obtain ⟨-, -, c2, -, -, f2, -⟩ := h.cells
 have HS := Lib.hid h
 by_cases he : s.e = 0
 · rw [he] at c2
   by_cases hroom : zap l < 0
   · have HN := Lib.hid (rcodes_bad al n cap l w hr hroom)
     have HV : Hid (tabV l s = zac 13 s) := Lib.hid (by unfold tabV zac; rw [if_neg (by simp [he]), if_pos hroom, if_pos he])
     have HNE := Lib.hid (zbf (s := s) (e := 13) (by decide))
     have HF := Lib.hid (zaA HS.out 13)
     clear h hr hroom
     go_enter Tryz.func69, Tryz.ntmps69
     go_wp2_with fail
     refine HN.out.mono ?_
     rintro e w1 ⟨rfl, rfl⟩
     clear c2 f2
     go_wp2_with fail
     refine HF.out.mono ?_
     rintro e w2 ⟨rfl, h2, k2⟩
     have H2 := Lib.hid h2
     have K2 := Lib.hid k2
     clear h2 k2
     go_wp2
     go_ret
     exact ⟨_, rfl, by rw [HV.out]; exact H2.out, K2.out, fun h0 => absurd (by rw [HV.out] at h0; exact h0) HNE.out⟩
   · have HN := Lib.hid (rcodes_ok al n cap l w hr (by omega))
     have HV : Hid (tabV l s = s) := Lib.hid (by unfold tabV; rw [if_neg (by simp [he]), if_neg hroom])
     have HR := Lib.hid (show 0 ≤ zap l by omega)
     clear h hr hroom
     go_enter Tryz.func69, Tryz.ntmps69
     go_wp2_with fail
     refine HN.out.mono ?_
     rintro e w1 ⟨v, rfl, hO, hb⟩
     obtain ⟨aC, cC, hv, -, -⟩ := Row.of_owns hO
     subst hv
     have HO := Lib.hid hO
     have HB := Lib.hid hb
     have HF := Lib.hid (zaA (HS.out.mono hb) 0)
     clear c2 f2 hO hb
     go_wp2_with fail
     refine HF.out.mono ?_
     rintro e w2 ⟨rfl, h2, k2⟩
     rw [zcs] at h2
     have H2 := Lib.hid h2
     have K2 := Lib.hid k2
     clear h2 k2
     go_wp2
     go_ret
     exact ⟨_, rfl, by rw [HV.out]; exact H2.out, (zaa.any HB.out).trans K2.out (fun _ hb => .inl hb), fun _ => ⟨HR.out, zat HO.out K2.out (fun b hb hu => by have := (HO.out.lt b hb).1; have := HS.out.blt hu; omega)⟩⟩
 · have HV : Hid (tabV l s = s) := Lib.hid (by unfold tabV; rw [if_pos he])
   have HE := Lib.hid he
   clear h hr
   go_enter Tryz.func69, Tryz.ntmps69
   go_wp2
   go_ret
   exact ⟨_, rfl, by rw [HV.out]; exact HS.out, zaa.refl _ _, fun h0 => absurd (by rw [HV.out] at h0; exact h0) HE.out⟩
structure CdR (w : World) (U : Nat → Prop) (al : Option Addr) (n cap : Nat) (vc : Value) (l : List Int) : Prop where
 room : 0 ≤ zap l
 row : Row w 1 al n cap (l.map (Value.int .i64))
 cds : ∃ aC cC, vc = .slice aC n cC ∧ Row w 1 aC n cC (fl n (cdV l n)) ∧ ∀ x, aC = some x → x.block < w.heap.size ∧ ¬ U x.block
 at_ : ∀ x, al = some x → x.block < w.heap.size ∧ ¬ U x.block
theorem CdR.keeps {w w' : World} {U U' : Nat → Prop} {al : Option Addr} {n cap : Nat} {vc : Value} {l : List Int} (h : CdR w U al n cap vc l) (hk : zaa U w w') (hU : ∀ b, U' b → U b ∨ w.heap.size ≤ b) : CdR w' U' al n cap vc l := by
 obtain ⟨h1, h2, ⟨aC, cC, h3, h4, h5⟩, h6⟩ := h
 have hs := hk.size
 have hh : ∀ b, b < w.heap.size ∧ ¬ U b → b < w'.heap.size ∧ ¬ U' b := fun b hb => ⟨by omega, fun hu => (hU b hu).elim hb.2 (fun h => by omega)⟩
 exact ⟨h1, h2.keeps hk (fun x hx => (h6 x hx).2), ⟨aC, cC, h3, h4.keeps hk (fun x hx => (h5 x hx).2), fun x hx => hh _ (h5 x hx)⟩, fun x hx => hh _ (h6 x hx)⟩
set_option maxRecDepth 20000 in
theorem zd0 {w : World} {U : Nat → Prop} {rb : Nat} {a : Option Addr} {c : Nat} {bs : List UInt8} {most : Nat} {s : IS} (h : IsR w U rb a c bs most s) {al : Option Addr} {n cap : Nat} {l : List Int} (vc : Value) (hT : s.e = 0 → CdR w U al n cap vc l) (hsm : bs.length ≤ 1000000) :
   Calls Tryz.prog 70 #[.pointer (some ⟨rb, 0, none⟩), .slice al n cap, vc] w fun x w' => x = .returned (.int .i64 (zam bs l s).1) ∧ IsR w' U rb a c bs most (zam bs l s).2 ∧ zaa U w w' := by
 obtain ⟨c0, c1, c2, -, f1, f2, -⟩ := h.cells
 have HS := Lib.hid h
 by_cases he : s.e = 0
 · rw [he] at c2
   obtain ⟨t1, t2, ⟨aC, cC, rfl, t4, t5⟩, t6⟩ := hT he
   have hle := h.le
   have hrow := bit_row h.row s.at_ (8 * bs.length - s.at_) (by omega)
   have hLc : 8 * bs.length ≤ c := h.row.2.1
   have hnil : a = none → c = 0 := h.row.2.2.2.1
   have hmx : c ≤ maxLen := h.row.2.2.1
   obtain ⟨L, hL⟩ : ∃ L, L = 8 * bs.length := ⟨_, rfl⟩
   have hV := zea l (bitF bs s.at_) (8 * bs.length - s.at_)
   have HV0 := Lib.hid (show zam bs l s = ((zbk l (bitF bs s.at_) (8 * bs.length - s.at_)).1, { s with at_ := s.at_ + (zbk l (bitF bs s.at_) (8 * bs.length - s.at_)).2.1, e := (zbk l (bitF bs s.at_) (8 * bs.length - s.at_)).2.2 }) from by unfold zam; rw [if_neg (by simp [he])])
   have htb := takeV_bl l bs false s.at_ (8 * bs.length - s.at_)
   rw [show (fun k => zaB bs false (s.at_ + k)) = bitF bs s.at_ from rfl] at htb
   obtain ⟨at_, hat⟩ : ∃ at_, at_ = s.at_ := ⟨_, rfl⟩
   rw [← hat] at c1 hle hrow hV HV0 htb
   rw [← hL] at c0 hle hrow hLc hV HV0 htb
   have hrow2 : Row w 1 (if c = at_ then a else a.map fun x => x.add at_) (L - at_) (c - at_) ((bl bs false at_ (L - at_)).map Value.bool) := by
     by_cases hq : c = at_
     · rw [if_pos hq]
       have hn0 : L - at_ = 0 := by omega
       rw [hn0]
       exact ⟨rfl, Nat.zero_le _, by omega, fun e => by have := hnil e; omega, fun h => by omega⟩
     · rw [if_neg hq]; exact hrow
   have htk := fun (q : Nat) => take_any al aC _ n cap cC (L - at_) (c - at_) l (bl bs false at_ (L - at_)) (w.drewN q) (t2.mono (zaz (Below.refl _ _) q)) (t4.mono (zaz (Below.refl _ _) q)) (hrow2.mono (zaz (Below.refl _ _) q)) t1
   rw [htb] at htk
   obtain ⟨V, hVV⟩ : ∃ V, V = zbk l (bitF bs at_) (L - at_) := ⟨_, rfl⟩
   rw [← hVV] at hV HV0 htk
   obtain ⟨x, m, e⟩ := V
   dsimp only at hV HV0 htk
   have HTK := Lib.hid htk
   have HV := HV0
   obtain ⟨M, hM⟩ : ∃ M, M = at_ + m := ⟨_, rfl⟩
   rw [← hM] at HV
   have i2 : (at_ : Int) + (m : Int) = (M : Int) := by omega
   have i3 : IntKind.i64.wrap (M : Int) = (M : Int) := IntWalk.i64_in _ (by omega)
   have q2 : (at_ : Int) ≤ (L : Int) := by omega
   have q3 : (0 : Int) ≤ (at_ : Int) := by omega
   have q5 : at_ ≤ c := by omega
   have HSA := Lib.hid (fun (q : Nat) => ((HS.out.drewN q).1.setA M (by omega)))
   have HF := Lib.hid (fun (q : Nat) => zaA (HSA.out q).1 e)
   have HFV := Lib.hid (show zac e { s with at_ := M } = { s with at_ := M, e := e } from failV_set e _ he)
   clear h hT hL hat hrow hrow2 hVV hM HV0 htk htb t1 t2 t4 t5 t6 hV
   go_enter Tryz.func70, Tryz.ntmps70
   go_wp2_with fail
   go_quiet ((go_at_call 104; refine (HTK.out _).mono ?_; rintro e w' ⟨rfl, rfl⟩; exact ⟨rfl, _, rfl⟩))
   all_goals go_wp2_with fail
   all_goals
     refine (HF.out _).mono ?_
     rintro e2 w2 ⟨rfl, h2, k2⟩
     rw [HFV.out] at h2
     have H2 := Lib.hid h2
     have K2 := Lib.hid (((HS.out.drewN _).2.trans (HSA.out _).2 (fun _ hb => .inl hb)).trans k2 (fun _ hb => .inl hb))
     clear h2 k2
     go_wp2
     go_ret
     refine ⟨by rw [HV.out]; rfl, ?_⟩
     rw [HV.out]
     refine ⟨?_, K2.out⟩
     first
       | exact H2.out
       | (have hce : c = at_ := by assumption
          rw [← hce]; exact H2.out)
 · have HV : Hid (zam bs l s = (0, s)) := Lib.hid (by unfold zam; rw [if_pos he])
   clear h hT
   go_enter Tryz.func70, Tryz.ntmps70
   go_wp2
   go_ret
   exact ⟨by rw [HV.out]; rfl, by rw [HV.out]; exact ⟨HS.out, zaa.refl _ _⟩⟩
theorem sto_step {bs : List UInt8} {most n k : Nat} {s : IS} (he : s.e = 0) (hk : k < n) : stoL bs most (n - k) s = stoL bs most (n - (k + 1)) (putR most (UInt8.ofNat (numV bs 8 s).1) (numV bs 8 s).2) := by
 obtain ⟨m, hm⟩ : ∃ m, n - k = m + 1 := ⟨n - k - 1, by omega⟩
 rw [hm, show n - (k + 1) = m by omega, stoL, if_neg (by simp [he])]
 congr 1
 unfold putR
 by_cases h : (numV bs 8 s).2.e = 0
 · rw [if_pos h, if_neg (by simp [h])]
 · rw [if_neg h, if_pos h]
theorem putR_le {most : Nat} {c : UInt8} {s : IS} (h : s.out.length ≤ most) : (putR most c s).out.length ≤ most := by
 unfold putR
 split
 · exact h
 · exact zbZ h
set_option maxRecDepth 20000 in
theorem rsto_any {w : World} {U : Nat → Prop} {rb : Nat} {a : Option Addr} {c : Nat} {bs : List UInt8} {most : Nat} {s : IS} (h : IsR w U rb a c bs most s) (hsm : bs.length ≤ 1000000) (hm : most ≤ 20000000) (ho : s.out.length ≤ most) :
   Calls Tryz.prog 38 #[.pointer (some ⟨rb, 0, none⟩)] w fun x w' => x = .returned (.tuple #[]) ∧ za3 w U rb a c bs most (zaV bs most s) w' := by
 obtain ⟨c0, c1, c2, c4, f1, f2, f3⟩ := h.cells
 have hle := h.le
 obtain ⟨q, hq⟩ : ∃ q, q = (s.at_ + 7) / 8 := ⟨_, rfl⟩
 obtain ⟨Q, hQ⟩ : ∃ Q, Q = q * 8 := ⟨_, rfl⟩
 have HA := Lib.hid (h.setA Q (by omega))
 have hal : ({ s with at_ := Q } : IS) = alV s := by rw [hQ, hq]; rfl
 rw [hal] at HA
 have HN1 := Lib.hid (zaM HA.out.1 16 (by omega) hsm)
 have HN2 := Lib.hid (fun (W : World) (hW : IsR W U rb a c bs most (numV bs 16 (alV s)).2) => zaM hW 16 (by omega) hsm)
 have l1 := zao bs 16 (alV s)
 have l2 := zao bs 16 (numV bs 16 (alV s)).2
 have ho2 : (numV bs 16 (numV bs 16 (alV s)).2).2.out.length ≤ most := by rw [zax, zax]; exact ho
 obtain ⟨SF, hSF⟩ : ∃ SF, SF = zaV bs most s := ⟨_, rfl⟩
 rw [← hSF]
 unfold zaV at hSF
 change Hid (Calls _ _ #[_, .int .i64 16] _ fun x w' => x = .returned (.int .i64 ((numV bs 16 (alV s)).1 : Nat)) ∧ IsR w' U rb a c bs most (numV bs 16 (alV s)).2 ∧ zaa U _ w') at HN1
 change Hid (∀ W, _ → Calls _ _ #[_, .int .i64 16] W fun x w' => x = .returned (.int .i64 ((numV bs 16 (numV bs 16 (alV s)).2).1 : Nat)) ∧ IsR w' U rb a c bs most (numV bs 16 (numV bs 16 (alV s)).2).2 ∧ zaa U W w') at HN2
 generalize numV bs 16 (numV bs 16 (alV s)).2 = x2 at *
 generalize numV bs 16 (alV s) = x1 at *
 obtain ⟨n1, s1⟩ := x1
 obtain ⟨m1, s2⟩ := x2
 dsimp only at *
 have i1 : IntKind.i64.wrap ((s.at_ : Int) + 7) = (s.at_ : Int) + 7 := IntWalk.i64_in _ (by omega)
 have hq1 : ((s.at_ : Int) + 7) / 8 = (q : Int) := by omega
 have hq2 : ((s.at_ : Int) + 7).tdiv 8 = (q : Int) := by rw [Int.tdiv_eq_ediv_of_nonneg (by omega)]; exact hq1
 have i2 : IntKind.i64.wrap (q : Int) = (q : Int) := IntWalk.i64_in _ (by omega)
 have i3 : (q : Int) * 8 = (Q : Int) := by omega
 have i4 : IntKind.i64.wrap (Q : Int) = (Q : Int) := IntWalk.i64_in _ (by omega)
 have i5 : IntKind.i64.wrap (65535 - (n1 : Int)) = 65535 - (n1 : Int) := IntWalk.i64_in _ (by omega)
 have HSF := Lib.hid hSF
 have HO2 := Lib.hid ho2
 clear h hle hq hQ hal hSF ho2 ho
 go_enter Tryz.func38, Tryz.ntmps38
 go_wp2_with fail
 refine HN1.out.mono ?_
 rintro e w1 ⟨rfl, p1, k1⟩
 have HN2 := Lib.hid (HN2.out _ p1)
 have HK1 := Lib.hid (HA.out.2.trans k1 (fun _ hb => .inl hb))
 clear p1 k1 c0 c1 c2 c4 f1 f2 f3
 go_wp2_with fail
 refine HN2.out.mono ?_
 rintro e w2 ⟨rfl, p2, k2⟩
 have HK2 := Lib.hid (HK1.out.trans k2 (fun _ hb => .inl hb))
 have HS2 := Lib.hid p2
 obtain ⟨c0, c1, c2, c4, f1, f2, f3⟩ := p2.cells
 clear p2 k2 i1 hq1 hq2 i2 i3 i4 HN1 HN2 HK1 HA
 go_upto_region 3 with fail
 go_cut [2, 30] from 6 (fun v2 v30 wx => v2 = .int .i64 n1 ∧ (∃ q : Bool, v30 = .bool q ∧ Hid (q = true ↔ (s2.e = 0 ∧ ¬ m1 + n1 = 65535))) ∧ w2 = wx)
 case first =>
   by_cases he : s2.e = 0
   · rw [he] at c2
     by_cases hs : m1 + n1 = 65535
     · have hne : ((m1 : Int) != 65535 - (n1 : Int)) = false := by rw [bne_eq_false_iff_eq]; omega
       have hmm : (m1 : Int) = 65535 - (n1 : Int) := by omega
       clear hmm
       go_wp2_with fail
       all_goals go_meet
       all_goals exact ⟨rfl, ⟨false, rfl, Lib.hid (by simp [hs])⟩, rfl⟩
     · have hne : ((m1 : Int) != 65535 - (n1 : Int)) = true := by rw [bne_iff_ne]; omega
       go_wp2_with fail
       all_goals go_meet
       all_goals exact ⟨rfl, ⟨true, rfl, Lib.hid (by simp [he, hs])⟩, rfl⟩
   · have hb : (s2.e == 0) = false := by rw [beq_eq_false_iff_ne]; exact he
     go_wp2_with fail
     all_goals go_meet
     all_goals exact ⟨rfl, ⟨false, rfl, Lib.hid (by simp [he])⟩, rfl⟩
 case rest =>
   obtain ⟨rfl, ⟨q, rfl, HQ⟩, rfl⟩ := hcut
   go_upto_if 30 with fail
   obtain ⟨S3, hS3⟩ : ∃ S3, S3 = (if m1 + n1 = 65535 then s2 else zac 11 s2) := ⟨_, rfl⟩
   have hsf := HSF.out
   rw [← hS3] at hsf
   have HSF2 := Lib.hid hsf
   have HS3 := Lib.hid hS3
   have HO3 := Lib.hid (show S3.out.length ≤ most by rw [hS3]; split; exact HO2.out; rw [zaI]; exact HO2.out)
   clear hsf hS3 HSF
   go_cut [2] from 6 (fun v2 wx => v2 = .int .i64 n1 ∧ Hid (IsR wx U rb a c bs most S3 ∧ zaa U w wx))
   case first =>
     cases q with
     | true =>
       have HF := Lib.hid (zaA HS2.out 11)
       go_wp2_with fail
       refine HF.out.mono ?_
       rintro e w3 ⟨rfl, h3, k3⟩
       have HH := Lib.hid (show IsR w3 U rb a c bs most S3 ∧ zaa U w w3 from ⟨by rw [HS3.out, if_neg (show s2.e = 0 ∧ ¬ m1 + n1 = 65535 by simpa using HQ.out).2]; exact h3, HK2.out.trans k3 (fun _ hb => .inl hb)⟩)
       clear h3 k3
       go_wp2_with fail
       all_goals go_meet
       all_goals exact ⟨rfl, HH⟩
     | false =>
       have hs3 : S3 = s2 := by
         rw [HS3.out]
         split
         · rfl
         · rename_i hn
           have hz : s2.e ≠ 0 := fun h => by have := HQ.out.2 ⟨h, hn⟩; cases this
           unfold zac; rw [if_neg hz]
       have HH := Lib.hid (show IsR w2 U rb a c bs most S3 ∧ zaa U w w2 from ⟨by rw [hs3]; exact HS2.out, HK2.out⟩)
       clear hs3
       go_wp2_with fail
       all_goals go_meet
       all_goals exact ⟨rfl, HH⟩
   case rest =>
     clear c0 c1 c2 c4 f1 f2 f3 HQ HS2 HK2 HS3 HO2 i5
     obtain ⟨rfl, HX⟩ := hcut
     go_wp2
     go_loopw [4] (fun v4 wr => ∃ (k : Nat) (U1 : Nat → Prop) (s4 : IS), v4 = .int .i64 k ∧ k ≤ n1 ∧ Hid (IsR wr U1 rb a c bs most s4) ∧ Hid (zaa U w wr) ∧ Hid (∀ b, U1 b → U b ∨ w.heap.size ≤ b) ∧ Hid (s4.out.length ≤ most) ∧ Hid (SF = stoL bs most (n1 - k) s4)) (fun v4 _ => n1 - (intOf v4).toNat)
     case atStart => exact ⟨0, U, S3, rfl, Nat.zero_le _, Lib.hid HX.out.1, Lib.hid HX.out.2, Lib.hid (fun _ hb => .inl hb), HO3, HSF2⟩
     case round =>
       obtain ⟨k, U1, s4, rfl, hk, HS, HK, HU, HO, HF⟩ := hrel
       obtain ⟨c0, c1, c2, c4, f1, f2, f3⟩ := HS.out.cells
       clear HX HO3 HSF2
       by_cases hlt : k < n1
       · by_cases he : s4.e = 0
         · rw [he] at c2
           have hst := HF.out
           rw [sto_step he hlt] at hst
           have hn := zaM HS.out 8 (by omega) hsm
           have hx := zao bs 8 s4
           have ho := zax bs 8 s4
           rw [show ((8 : Nat) : Int) = 8 from rfl] at hn
           generalize numV bs 8 s4 = x3 at *
           obtain ⟨x, s5⟩ := x3
           dsimp only at *
           have HN := Lib.hid hn
           have HST := Lib.hid hst
           have HO5 := Lib.hid (show s5.out.length ≤ most by rw [ho]; exact HO.out)
           clear hn hst ho he
           go_wp2_with fail
           refine HN.out.mono ?_
           rintro e w3 ⟨rfl, p3, k3⟩
           have HPU := Lib.hid (rput_any p3 x (by omega) (by have := HO5.out; omega))
           have HK3 := Lib.hid (HK.out.trans k3 HU.out)
           clear p3 k3 c0 c1 c2 c4 f1 f2 f3
           go_wp2_with fail
           refine HPU.out.mono ?_
           rintro e w4 ⟨rfl, U2, z1, z2, z3⟩
           have HS4 := Lib.hid z1
           have HK4 := Lib.hid (HK3.out.trans z2 HU.out)
           have HU4 := Lib.hid (show ∀ b, U2 b → U b ∨ w.heap.size ≤ b from fun b hb => (z3 b hb).elim (HU.out b) (fun h => by have := HK3.out.size; exact .inr (by omega)))
           clear z1 z2 z3
           go_wp2
           go_roundw
           case rel => exact ⟨k + 1, U2, _, by go_num, by omega, HS4, HK4, HU4, Lib.hid (putR_le HO5.out), HST⟩
           case measure => simp [intOf]; omega
         · have HFF := Lib.hid (show za3 w U rb a c bs most SF wr from by rw [HF.out, sto_e he]; exact ⟨U1, HS.out, HK.out, HU.out⟩)
           go_wp2
           go_end0
           exact ⟨rfl, HFF.out⟩
       · obtain rfl : k = n1 := by omega
         have HFF := Lib.hid (show za3 w U rb a c bs most SF wr from by rw [HF.out, Nat.sub_self]; exact ⟨U1, HS.out, HK.out, HU.out⟩)
         go_wp2
         go_end0
         exact ⟨rfl, HFF.out⟩
theorem zcU {bs : List UInt8} {l : List Int} {n : Nat} {g : Nat} {out : List Int} {s : IS} {V : List Int × IS} (he : s.e ≠ 0) (h : zaS bs l n g out s = some V) : V.2 = s := by
 cases g with
 | zero => cases h
 | succ g =>
   unfold zaS at h
   rw [if_pos (.inr he)] at h
   cases h; rfl
structure LrAt (w wr : World) (U : Nat → Prop) (rb : Nat) (a : Option Addr) (c : Nat) (bs : List UInt8) (most : Nat) (al : Option Addr) (nl cl : Nat) (vc : Value) (l : List Int) (n : Nat) (vo : Value) (out : List Int) (s : IS) : Prop where
 st : IsR wr U rb a c bs most s
 k : zaa U w wr
 t : s.e = 0 → CdR wr U al nl cl vc l ∧ (∀ x, al = some x → x.block < w.heap.size) ∧ ∀ aC nC cC, vc = .slice aC nC cC → ∀ x, aC = some x → x.block < w.heap.size
 row : wr.ownsRow w.heap.size 3 1 vo out.length (iV out)
 len : out.length ≤ n
 o : ∀ b, U b → b < w.heap.size
theorem LrAt.next {w wr w' : World} {U : Nat → Prop} {rb : Nat} {a : Option Addr} {c : Nat} {bs : List UInt8} {most : Nat} {al : Option Addr} {nl cl : Nat} {vc : Value} {l : List Int} {n : Nat} {vo : Value} {out : List Int} {s s2 : IS} (h : LrAt w wr U rb a c bs most al nl cl vc l n vo out s) (h1 : IsR w' U rb a c bs most s2) (h2 : zaa U wr w') (he : s2.e = 0 → s.e = 0) : LrAt w w' U rb a c bs most al nl cl vc l n vo out s2 :=
 ⟨h1, h.k.trans h2 (fun _ hb => .inl hb), (fun h0 => ⟨(h.t (he h0)).1.keeps h2 (fun _ hb => .inl hb), (h.t (he h0)).2⟩), zat h.row h2 (fun b hb hu => by have := (h.row.lt b hb).1; have := h.o b hu; omega), h.len, h.o⟩
theorem LrAt.app {w wr w5 : World} {U : Nat → Prop} {rb : Nat} {a : Option Addr} {c : Nat} {bs : List UInt8} {most : Nat} {al : Option Addr} {nl cl : Nat} {vc : Value} {l : List Int} {n : Nat} {vo v' : Value} {out : List Int} {s : IS} {o : Obj} {x : Int} (h : LrAt w wr U rb a c bs most al nl cl vc l n vo out s) (hO : w5.ownsRow w.heap.size 3 1 v' (out.length + 1) (iV out ++ [.int .i64 x])) (hg : (wr.alloc o).grownBy w5 vo.ownBlock) (hl : out.length + 1 ≤ n) :
   LrAt w w5 U rb a c bs most al nl cl vc l n v' (out ++ [x]) s := by
 have hk : zaa (fun b => vo.ownBlock = some b) wr w5 := ((zaa.refl _ wr).alloc o).grown hg (fun k hk => .inl hk)
 have hlo : ∀ b, vo.ownBlock = some b → w.heap.size ≤ b := fun b hb => (h.row.lt b hb).1
 have hr := h.o rb h.st.own
 have hsz := hk.size
 refine ⟨h.st.keeps hk (fun b hb e => ?_), h.k.trans hk (fun b hb => .inr (hlo b hb)), fun h0 => ?_, ?_, by simp; omega, h.o⟩
 · have := hlo b e
   rcases hb with hb | hb
   · omega
   · have := h.o b hb; omega
 · obtain ⟨⟨t1, t2, ⟨aC, cC, t3, t4, t5⟩, t6⟩, t7, t8⟩ := h.t h0
   exact ⟨⟨t1, t2.keeps hk (fun y hy e => by have := hlo _ e; have := t7 y hy; omega), ⟨aC, cC, t3, t4.keeps hk (fun y hy e => by have := hlo _ e; have := t8 _ _ _ t3 y hy; omega), fun y hy => ⟨by have := (t5 y hy).1; omega, (t5 y hy).2⟩⟩, fun y hy => ⟨by have := (t6 y hy).1; omega, (t6 y hy).2⟩⟩, t7, t8⟩
 · rw [List.length_append, iV, List.map_append]
   exact hO
set_option maxRecDepth 100000 in
theorem rlens_any {w : World} {U : Nat → Prop} {rb : Nat} {a : Option Addr} {c : Nat} {bs : List UInt8} {most : Nat} {s : IS} {al : Option Addr} {nl cl : Nat} {vc : Value} {l : List Int} {n : Nat} (h : IsR w U rb a c bs most s) (hT : s.e = 0 → CdR w U al nl cl vc l) (hl3 : l.length ≤ 320) (hn : n ≤ 400) (hsm : bs.length ≤ 1000000) (g : Nat) (V : List Int × IS) (hg : zaS bs l n g [] s = some V) :
   Calls Tryz.prog 74 #[.pointer (some ⟨rb, 0, none⟩), .slice al nl cl, vc, .int .i64 n] w fun x w' => ∃ v, x = .returned v ∧ IsR w' U rb a c bs most V.2 ∧ zaa U w w' ∧ (V.2.e = 0 → w'.ownsRow w.heap.size 3 1 v V.1.length (iV V.1)) := by
 have HC := Lib.hid (show LrAt w w U rb a c bs most al nl cl vc l n (.slice none 0 0) [] s from ⟨h, zaa.refl _ _, fun h0 => ⟨hT h0, fun x hx => ((hT h0).at_ x hx).1, fun aC nC cC e x hx => by obtain ⟨-, -, ⟨aC', cC', t3, -, t5⟩, -⟩ := hT h0; rw [t3] at e; cases e; exact (t5 x hx).1⟩, World.ownsRow_nil _ _ _ _, Nat.zero_le _, fun b hb => h.blt hb⟩)
 have HG := Lib.hid hg
 clear h hT hg
 go_enter Tryz.func74, Tryz.ntmps74
 go_wp2
 go_loopw [9, 10] (fun vo vk wr => ∃ (k : Nat) (out : List Int) (s : IS), vk = .int .i64 k ∧ Hid (LrAt w wr U rb a c bs most al nl cl vc l n vo out s) ∧ Hid (s.e = 0 → k ≤ out.length ∧ ∃ g, zaS bs l n g out s = some V) ∧ Hid (s.e ≠ 0 → V.2 = s)) (fun _ vk _ => n - (intOf vk).toNat)
 case atStart => exact ⟨0, [], s, rfl, HC, Lib.hid (fun _ => ⟨Nat.zero_le _, g, HG.out⟩), Lib.hid (fun he => zcU he HG.out)⟩
 case round =>
   obtain ⟨k, out, s1, rfl, HL, HRUN, HEND⟩ := hrel
   obtain ⟨a0, c0, hv, -, -⟩ := Row.of_owns HL.out.row
   subst hv
   obtain ⟨k0, k1, k2, -, -, -, -⟩ := HL.out.st.cells
   have hlen := HL.out.len
   clear HC HG
   by_cases he : s1.e = 0
   · rw [he] at k2
     obtain ⟨hk, m, hm⟩ := HRUN.out he
     have HM := Lib.hid hm
     clear hm
     by_cases hln : out.length = n
     · have HFIN : Hid (V = (out, s1)) := Lib.hid (by
         have hm := HM.out
         cases m with
         | zero => cases hm
         | succ m =>
           unfold zaS at hm
           rw [if_pos (.inl hln)] at hm
           cases hm; rfl)
       have hd1 : decide ((out.length : Int) < (n : Int)) = false := decide_eq_false (by omega)
       have hd1n : decide (out.length < n) = false := decide_eq_false (by omega)
       clear hln
       by_cases hkn : k < n
       · go_wp2
         go_ret
         exact ⟨_, rfl, by rw [HFIN.out]; exact HL.out.st, HL.out.k, fun _ => by rw [HFIN.out]; exact HL.out.row⟩
       · go_wp2
         go_ret
         exact ⟨_, rfl, by rw [HFIN.out]; exact HL.out.st, HL.out.k, fun _ => by rw [HFIN.out]; exact HL.out.row⟩
     · have hkn : k < n := by omega
       have hln2 : out.length < n := by omega
       have hsy := zd0 HL.out.st vc (fun h0 => (HL.out.t h0).1) hsm
       have hxl := zbW bs l s1
       have hez := fun (h : (zam bs l s1).2.e = 0) => zbM h
       cases m with
       | zero => exact absurd HM.out (by intro h; cases h)
       | succ m =>
       have hg := HM.out
       unfold zaS at hg
       rw [if_neg (by rintro (h | h); exact hln h; exact h he)] at hg
       unfold zcD at hg
       obtain ⟨x, hx⟩ : ∃ x, x = (zam bs l s1).1 := ⟨_, rfl⟩
       obtain ⟨s2, hs2⟩ : ∃ s2, s2 = (zam bs l s1).2 := ⟨_, rfl⟩
       simp only [← hx, ← hs2] at hg
       rw [← hx, ← hs2] at hsy
       rw [← hs2] at hez
       rw [← hx] at hxl
       have HSY := Lib.hid hsy
       have HG := Lib.hid hg
       have HEZ := Lib.hid hez
       have hx320 : x ≤ 320 := by omega
       clear hsy hg hez hx hs2 hxl HM HRUN HEND
       go_wp2_with fail
       refine HSY.out.mono ?_
       rintro e w1 ⟨rfl, q1, q2⟩
       have HL2 := Lib.hid (HL.out.next q1 q2 HEZ.out)
       clear q1 q2 k0 k1 k2
       by_cases hA : x = 16 ∧ out = []
       · obtain ⟨rfl, rfl⟩ := hA
         have HF := Lib.hid (zaA HL2.out.st 11)
         have HFIN : Hid (V.2 = zac 11 s2) := Lib.hid (zcU (zbf (by decide)) (show zaS bs l n m [] (zac 11 s2) = some V from HG.out))
         have hq0 : (([] : List Int).length : Int) = 0 := rfl
         have HNE := Lib.hid (zbf (s := s2) (e := 11) (by decide))
         go_wp2_with fail
         refine HF.out.mono ?_
         rintro e w2 ⟨rfl, p1, p2⟩
         have HNX := Lib.hid (HL2.out.next p1 p2 (fun h => za8 h (by decide)))
         clear p1 p2
         go_wp2
         go_ret
         exact ⟨_, rfl, by rw [HFIN.out]; exact HNX.out.st, HNX.out.k, fun h0 => absurd (by rw [HFIN.out] at h0; exact h0) HNE.out⟩
       · go_upto_block 2 with fail
         go_cut [11, 12] from 14 to 94 (fun v11 v12 wx => ∃ (T : Nat) (X : Int) (s3 : IS), v11 = .int .i64 X ∧ v12 = .int .i64 (T : Nat) ∧ T ≤ 200 ∧ Hid (1 ≤ T) ∧ Hid (LrAt w wx U rb a c bs most al nl cl vc l n (.slice a0 out.length c0) out s3) ∧ Hid ((if n < out.length + T then zaS bs l n m out (zac 11 s3) else zaS bs l n m (out ++ List.replicate T X) s3) = some V))
         case first =>
           by_cases x16 : x = 16
           · subst x16
             have hne : out ≠ [] := fun e => hA ⟨rfl, e⟩
             have hpos : 0 < out.length := List.length_pos_iff.2 hne
             have hg := HG.out
             rw [if_pos rfl, if_neg hne] at hg
             have hn := zaM HL2.out.st 2 (by omega) hsm
             have hkl := zao bs 2 s2
             obtain ⟨kk, hk⟩ : ∃ k, k = (numV bs 2 s2).1 := ⟨_, rfl⟩
             obtain ⟨s3, hs3⟩ : ∃ s3, s3 = (numV bs 2 s2).2 := ⟨_, rfl⟩
             have hze := fun (h : s3.e = 0) => zbi (bs := bs) (n := 2) (s := s2) (by rw [← hs3]; exact h)
             rw [← hk, ← hs3, show ((2 : Nat) : Int) = 2 from rfl] at hn
             simp only [← hk, ← hs3] at hg
             rw [← hk] at hkl
             have HN := Lib.hid hn
             have HGG := Lib.hid hg
             have HZE := Lib.hid hze
             obtain ⟨T, hT⟩ : ∃ T, T = kk + 3 := ⟨_, rfl⟩
             have i1 : (3 : Int) + (kk : Int) = (T : Int) := by omega
             have i2 : IntKind.i64.wrap (T : Int) = (T : Int) := IntWalk.i64_in _ (by omega)
             have HT := Lib.hid hT
             clear hn hg hk hs3 hze hT
             go_wp2_with fail
             refine HN.out.mono ?_
             rintro e w2 ⟨rfl, p1, p2⟩
             have HNL := Lib.hid (HL2.out.next p1 p2 HZE.out)
             clear p1 p2
             obtain ⟨X, hX⟩ : ∃ X, X = out.length - 1 := ⟨_, rfl⟩
             have hgg := HGG.out
             rw [← hX] at hgg
             obtain ⟨b0, off0, rfl, hblt, hcx⟩ := Row.at (enc := Value.int .i64) 0 (l := out) (Row.of_own HNL.out.row).2 X (by omega)
             have hcX := hcx X (by omega)
             obtain ⟨y, hy⟩ : ∃ y, y = out.getD X 0 := ⟨_, rfl⟩
             rw [← hy] at hcX hgg
             have HGY := Lib.hid hgg
             have j1' : (out.length : Int) - 1 = (X : Int) := by omega
             have j2' : IntKind.i64.wrap (X : Int) = (X : Int) := IntWalk.i64_in _ (by omega)
             have j3' : (0 : Int) ≤ (X : Int) := by omega
             have j4' : (X : Int) < (out.length : Int) := by omega
             have hq0 : ((out.length : Int) == 0) = false := by rw [beq_eq_false_iff_ne]; omega
             clear hcx hy hX hne hpos hgg HN HGG
             go_wp2_with fail
             all_goals go_meet
             all_goals exact ⟨T, y, s3, rfl, rfl, by omega, Lib.hid (by have := HT.out; omega), HNL, Lib.hid (by have h := HGY.out; rw [← HT.out] at h; exact h)⟩
           · by_cases x17 : x = 17
             · subst x17
               have hg := HG.out
               rw [if_neg x16, if_pos rfl] at hg
               have hn := zaM HL2.out.st 3 (by omega) hsm
               have hkl := zao bs 3 s2
               obtain ⟨kk, hk⟩ : ∃ k, k = (numV bs 3 s2).1 := ⟨_, rfl⟩
               obtain ⟨s3, hs3⟩ : ∃ s3, s3 = (numV bs 3 s2).2 := ⟨_, rfl⟩
               have hze := fun (h : s3.e = 0) => zbi (bs := bs) (n := 3) (s := s2) (by rw [← hs3]; exact h)
               rw [← hk, ← hs3, show ((3 : Nat) : Int) = 3 from rfl] at hn
               simp only [← hk, ← hs3] at hg
               rw [← hk] at hkl
               have HN := Lib.hid hn
               have HGG := Lib.hid hg
               have HZE := Lib.hid hze
               obtain ⟨T, hT⟩ : ∃ T, T = kk + 3 := ⟨_, rfl⟩
               have i1 : (3 : Int) + (kk : Int) = (T : Int) := by omega
               have i2 : IntKind.i64.wrap (T : Int) = (T : Int) := IntWalk.i64_in _ (by omega)
               have HT := Lib.hid hT
               clear hn hg hk hs3 hze hT
               go_wp2_with fail
               refine HN.out.mono ?_
               rintro e w2 ⟨rfl, p1, p2⟩
               have HNL := Lib.hid (HL2.out.next p1 p2 HZE.out)
               clear p1 p2
               go_wp2_with fail
               all_goals go_meet
               all_goals exact ⟨T, 0, s3, rfl, rfl, by omega, Lib.hid (by have := HT.out; omega), HNL, Lib.hid (by have h := HGG.out; rw [← HT.out] at h; exact h)⟩
             · by_cases x18 : x = 18
               · subst x18
                 have hg := HG.out
                 rw [if_neg x16, if_neg x17, if_pos rfl] at hg
                 have hn := zaM HL2.out.st 7 (by omega) hsm
                 have hkl := zao bs 7 s2
                 obtain ⟨kk, hk⟩ : ∃ k, k = (numV bs 7 s2).1 := ⟨_, rfl⟩
                 obtain ⟨s3, hs3⟩ : ∃ s3, s3 = (numV bs 7 s2).2 := ⟨_, rfl⟩
                 have hze := fun (h : s3.e = 0) => zbi (bs := bs) (n := 7) (s := s2) (by rw [← hs3]; exact h)
                 rw [← hk, ← hs3, show ((7 : Nat) : Int) = 7 from rfl] at hn
                 simp only [← hk, ← hs3] at hg
                 rw [← hk] at hkl
                 have HN := Lib.hid hn
                 have HGG := Lib.hid hg
                 have HZE := Lib.hid hze
                 obtain ⟨T, hT⟩ : ∃ T, T = kk + 11 := ⟨_, rfl⟩
                 have i1 : (11 : Int) + (kk : Int) = (T : Int) := by omega
                 have i2 : IntKind.i64.wrap (T : Int) = (T : Int) := IntWalk.i64_in _ (by omega)
                 have HT := Lib.hid hT
                 clear hn hg hk hs3 hze hT
                 go_wp2_with fail
                 refine HN.out.mono ?_
                 rintro e w2 ⟨rfl, p1, p2⟩
                 have HNL := Lib.hid (HL2.out.next p1 p2 HZE.out)
                 clear p1 p2
                 go_wp2_with fail
                 all_goals go_meet
                 all_goals exact ⟨T, 0, s3, rfl, rfl, by omega, Lib.hid (by have := HT.out; omega), HNL, Lib.hid (by have h := HGG.out; rw [← HT.out] at h; exact h)⟩
               · have hg := HG.out
                 rw [if_neg x16, if_neg x17, if_neg x18] at hg
                 have HGG := Lib.hid hg
                 have q1 : ((x : Int) == 16) = false := by rw [beq_eq_false_iff_ne]; omega
                 have q2 : ((x : Int) == 17) = false := by rw [beq_eq_false_iff_ne]; omega
                 have q3 : ((x : Int) == 18) = false := by rw [beq_eq_false_iff_ne]; omega
                 clear hg
                 go_wp2_with fail
                 all_goals go_meet
                 all_goals exact ⟨1, x, s2, rfl, rfl, by omega, Lib.hid (by omega), HL2, Lib.hid HGG.out⟩
         case rest =>
           obtain ⟨T, X, s3, rfl, rfl, hT, HT1, HL3, HG3⟩ := hcut
           obtain ⟨b0', b1', b2', -, -, -, -⟩ := HL3.out.st.cells
           have i1 : IntKind.i64.wrap ((n : Int) - out.length) = (n : Int) - out.length := IntWalk.i64_in _ (by omega)
           by_cases he3 : s3.e = 0
           · rw [he3] at b2'
             by_cases hc : n < out.length + T
             · have hg := HG3.out
               rw [if_pos hc] at hg
               have HF := Lib.hid (zaA HL3.out.st 11)
               have hd : decide ((n : Int) - out.length < T) = true := decide_eq_true (by omega)
               obtain ⟨s4, hs4⟩ : ∃ s4, s4 = zac 11 s3 := ⟨_, rfl⟩
               have HNE := Lib.hid (show s4.e ≠ 0 by rw [hs4]; exact zbf (by decide))
               rw [← hs4] at hg
               have HV4 := Lib.hid (zcU HNE.out hg)
               have HS4 := Lib.hid hs4
               clear hg hc hs4
               go_wp2_with fail
               refine HF.out.mono ?_
               rintro e w2 ⟨rfl, p1, p2⟩
               have HL4 := Lib.hid (show LrAt w w2 U rb a c bs most al nl cl vc l n (.slice a0 out.length c0) out s4 from by rw [HS4.out]; exact HL3.out.next p1 p2 (fun h => za8 h (by decide)))
               clear p1 p2 b0' b1' b2' hd i1
               go_wp2_with fail
               go_loopw [9, 13] (fun vo vj wx => vo = .slice a0 out.length c0 ∧ vj = .int .i64 0 ∧ Hid (LrAt w wx U rb a c bs most al nl cl vc l n (.slice a0 out.length c0) out s4)) (fun _ _ _ => 0)
               case atStart => exact ⟨rfl, rfl, HL4⟩
               case round =>
                 obtain ⟨rfl, rfl, HL5⟩ := hrel
                 obtain ⟨z0, z1, z2, -, -, -, -⟩ := HL5.out.st.cells
                 have hb4 : (s4.e == 0) = false := by rw [beq_eq_false_iff_ne]; exact HNE.out
                 have ht0 : (0 : Int) < (T : Int) := by have := HT1.out; omega
                 have ht0n : 0 < T := HT1.out
                 go_wp2
                 go_roundw
                 case rel => exact ⟨k + 1, out, s4, by go_num, HL5, Lib.hid (fun h0 => absurd h0 HNE.out), Lib.hid (fun _ => HV4.out)⟩
                 case measure => simp [intOf]; omega
             · have hg := HG3.out
               rw [if_neg hc] at hg
               have HGG := Lib.hid hg
               have hd : decide ((n : Int) - out.length < T) = false := decide_eq_false (by omega)
               have HBD := Lib.hid (show out.length + T ≤ n by omega)
               have HKO := Lib.hid (show k ≤ out.length by omega)
               have HE3 := Lib.hid he3
               clear hg hc
               go_wp2_with fail
               go_loopw [9, 13] (fun vo vi wx => ∃ j : Nat, vi = .int .i64 j ∧ j ≤ T ∧ Hid (LrAt w wx U rb a c bs most al nl cl vc l n vo (out ++ List.replicate j X) s3)) (fun _ vi _ => T - (intOf vi).toNat)
               case atStart => exact ⟨0, rfl, Nat.zero_le _, Lib.hid (by rw [List.replicate_zero, List.append_nil]; exact HL3.out)⟩
               case round =>
                 obtain ⟨j, rfl, hj, HLJ⟩ := hrel
                 obtain ⟨a5, c5, hv5, -, -⟩ := Row.of_owns HLJ.out.row
                 subst hv5
                 obtain ⟨z0, z1, z2, -, -, -, -⟩ := HLJ.out.st.cells
                 rw [HE3.out] at z2
                 by_cases hlt : j < T
                 · have hsz := HLJ.out.k.size
                   have hlo : (out ++ List.replicate j X).length ≤ 400 := by have := HLJ.out.len; omega
                   have hl1 : (out ++ List.replicate j X).length + 1 ≤ n := by have := HBD.out; simp; omega
                   have HRP := Lib.hid (show out ++ List.replicate (j + 1) X = (out ++ List.replicate j X) ++ [X] by rw [List.replicate_succ', List.append_assoc])
                   generalize out ++ List.replicate j X = o2 at *
                   go_wp2_with (at_builtin; refine zaC EInt rfl (.tmp 91) (.tmp 93) rfl w.heap.size _ o2.length _ rfl (HLJ.out.row.alloc _) _ 1 _ _ rfl (za1 _ _ _) (zdI _) (by unfold maxLen; omega) (by omega) (by rw [zaj]; omega) ?_; intro v' w5 hO5 hg5 hnil5; have HN5 := Lib.hid (HLJ.out.app hO5 hg5 hl1); obtain ⟨a6, c6, hv6, -, -⟩ := Row.of_owns hO5; subst hv6; clear hO5 hg5 hnil5)
                   go_roundw
                   case rel => exact ⟨j + 1, by go_num, by omega, Lib.hid (by rw [HRP.out]; exact HN5.out)⟩
                   case measure => simp [intOf]; omega
                 · obtain rfl : j = T := by omega
                   have hk2 := HKO.out
                   have hT1 := HT1.out
                   have hlen2 : (out ++ List.replicate j X).length = out.length + j := by simp
                   have HL2' := Lib.hid hlen2
                   clear hlen2
                   go_wp2
                   go_roundw
                   case rel => exact ⟨k + 1, _, s3, by go_num, HLJ, Lib.hid (fun _ => ⟨by rw [HL2'.out]; omega, m, HGG.out⟩), Lib.hid (fun h => absurd HE3.out h)⟩
                   case measure => simp [intOf]; omega
           · have hb3 : (s3.e == 0) = false := by rw [beq_eq_false_iff_ne]; exact he3
             have HNE := Lib.hid he3
             have HV4 : Hid (V.2 = s3) := Lib.hid (by
               have hg := HG3.out
               split at hg
               · have h := zcU (by rw [show zac 11 s3 = s3 from by unfold zac; rw [if_neg he3]]; exact he3) hg
                 rw [h]; unfold zac; rw [if_neg he3]
               · exact zcU he3 hg)
             obtain ⟨s4, hs4⟩ : ∃ s4, s4 = s3 := ⟨_, rfl⟩
             have HL4 := HL3
             rw [← hs4] at HL4 HNE HV4
             clear hs4
             go_wp2_with fail
             go_loopw [9, 13] (fun vo vj wx => vo = .slice a0 out.length c0 ∧ vj = .int .i64 0 ∧ Hid (LrAt w wx U rb a c bs most al nl cl vc l n (.slice a0 out.length c0) out s4)) (fun _ _ _ => 0)
             case atStart => exact ⟨rfl, rfl, HL4⟩
             case round =>
               obtain ⟨rfl, rfl, HL5⟩ := hrel
               obtain ⟨z0, z1, z2, -, -, -, -⟩ := HL5.out.st.cells
               have hb4 : (s4.e == 0) = false := by rw [beq_eq_false_iff_ne]; exact HNE.out
               have ht0 : (0 : Int) < (T : Int) := by have := HT1.out; omega
               have ht0n : 0 < T := HT1.out
               go_wp2
               go_roundw
               case rel => exact ⟨k + 1, out, s4, by go_num, HL5, Lib.hid (fun h0 => absurd h0 HNE.out), Lib.hid (fun _ => HV4.out)⟩
               case measure => simp [intOf]; omega
   · have HE := Lib.hid he
     have HF := Lib.hid (HEND.out he)
     have HNE := Lib.hid (show V.2.e ≠ 0 from by rw [HEND.out he]; exact he)
     by_cases hkn : k < n
     · by_cases hln : out.length < n
       · go_wp2
         go_ret
         exact ⟨_, rfl, by rw [HF.out]; exact HL.out.st, HL.out.k, fun h0 => absurd h0 HNE.out⟩
       · go_wp2
         go_ret
         exact ⟨_, rfl, by rw [HF.out]; exact HL.out.st, HL.out.k, fun h0 => absurd h0 HNE.out⟩
     · go_wp2
       go_ret
       exact ⟨_, rfl, by rw [HF.out]; exact HL.out.st, HL.out.k, fun h0 => absurd h0 HNE.out⟩
theorem zdn (m : Int) (hm : 0 ≤ m ∧ m ≤ 20) (w : World) : Calls Tryz.prog 105 #[.int .i64 m] w fun e w' => e = .returned (.int .i64 ((2 : Int) ^ m.toNat)) ∧ w' = w := by
 obtain ⟨n, rfl⟩ := Int.eq_ofNat_of_zero_le hm.1
 exact rpower_any n (by omega) w
def atL : Nat → Int
 | 0 => 3
 | j + 1 => atL j + 2 ^ (if 265 ≤ 257 + j then (257 + j - 261) / 4 else 0)
theorem rlength_any (x : Int) (w : World) (hx : -9223372036854775808 ≤ x ∧ x ≤ 9223372036854775807) : Calls Tryz.prog 71 #[.int .i64 x] w (LdEnd (zaw x) w) := by
 by_cases h1 : x < 257
 · have HV : Hid (zaw x = (0, 0, false)) := Lib.hid (by unfold zaw; rw [if_pos (.inl h1)])
   go_enter Tryz.func71, Tryz.ntmps71
   go_wp2
   go_ret3
   exact ⟨by rw [HV.out]; rfl, rfl⟩
 · have d1 : decide (x < 257) = false := decide_eq_false h1
   by_cases h2 : 285 < x
   · have HV : Hid (zaw x = (0, 0, false)) := Lib.hid (by unfold zaw; rw [if_pos (.inr h2)])
     go_enter Tryz.func71, Tryz.ntmps71
     go_wp2
     go_ret3
     exact ⟨by rw [HV.out]; rfl, rfl⟩
   · have d2 : decide (285 < x) = false := decide_eq_false h2
     by_cases h3 : x = 285
     · subst h3
       go_enter Tryz.func71, Tryz.ntmps71
       go_wp2
       go_ret3
       exact ⟨rfl, rfl⟩
     go_enter Tryz.func71, Tryz.ntmps71
     go_wp2
     go_loop [5, 6] (fun va vk => ∃ K : Int, vk = .int .i64 K ∧ 257 ≤ K ∧ K ≤ x ∧ va = .int .i64 (atL (K - 257).toNat)) (fun _ vk => (x - intOf vk).toNat)
     case atStart => exact ⟨257, rfl, by omega, by omega, rfl⟩
     case round =>
       obtain ⟨K, rfl, hk1, hk2, rfl⟩ := hrel
       by_cases hlt : K < x
       · have hk3 : K = 257 ∨ K = 258 ∨ K = 259 ∨ K = 260 ∨ K = 261 ∨ K = 262 ∨ K = 263 ∨ K = 264 ∨ K = 265 ∨ K = 266 ∨ K = 267 ∨ K = 268 ∨ K = 269 ∨ K = 270 ∨ K = 271 ∨ K = 272 ∨ K = 273 ∨ K = 274 ∨ K = 275 ∨ K = 276 ∨ K = 277 ∨ K = 278 ∨ K = 279 ∨ K = 280 ∨ K = 281 ∨ K = 282 ∨ K = 283 := by omega
         have HX := Lib.hid (show 257 ≤ x ∧ x ≤ 285 by omega)
         rcases hk3 with rfl | rfl | rfl | rfl | rfl | rfl | rfl | rfl | rfl | rfl | rfl | rfl | rfl | rfl | rfl | rfl | rfl | rfl | rfl | rfl | rfl | rfl | rfl | rfl | rfl | rfl | rfl
         all_goals
           go_wp2_with fail
           refine (zdn _ (by decide) _).mono ?_
           rintro e w1 ⟨rfl, rfl⟩
           go_wp2
           go_round
           case rel => exact ⟨_, rfl, by omega, by omega, by kernel_rfl⟩
           case measure => simp [intOf]; omega
       · obtain rfl : K = x := by omega
         have hk3 : K = 257 ∨ K = 258 ∨ K = 259 ∨ K = 260 ∨ K = 261 ∨ K = 262 ∨ K = 263 ∨ K = 264 ∨ K = 265 ∨ K = 266 ∨ K = 267 ∨ K = 268 ∨ K = 269 ∨ K = 270 ∨ K = 271 ∨ K = 272 ∨ K = 273 ∨ K = 274 ∨ K = 275 ∨ K = 276 ∨ K = 277 ∨ K = 278 ∨ K = 279 ∨ K = 280 ∨ K = 281 ∨ K = 282 ∨ K = 283 ∨ K = 284 := by omega
         clear hx h1 h2 d1 d2 hk1 hk2 hlt
         rcases hk3 with rfl | rfl | rfl | rfl | rfl | rfl | rfl | rfl | rfl | rfl | rfl | rfl | rfl | rfl | rfl | rfl | rfl | rfl | rfl | rfl | rfl | rfl | rfl | rfl | rfl | rfl | rfl | rfl
         all_goals
           go_wp2
           go_ret3
           exact ⟨rfl, rfl⟩
end Go.Proofs.YtkikhmdpcanidaaGreat
