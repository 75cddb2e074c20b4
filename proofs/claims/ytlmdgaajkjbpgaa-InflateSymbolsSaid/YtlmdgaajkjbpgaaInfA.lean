/-
  Walks of layer 5: all that is packed in one block by the fixed codes.
-/
import Derived.Test.YtlmdgaajkjbpgaaInf9
namespace Go.Proofs.Ytlmdgaajkjbpgaa
open Go.RowKit Go.Sort

theorem rat_any (r : Nat) (bs : List UInt8) (high : Bool) (at_ : Nat) (w : World) (h : IsRd w r bs high at_) :
    Calls Try.prog 21 #[.pointer (some ⟨r, 0, none⟩)] w fun e w' => e = .returned (.int .i64 (at_ : Int)) ∧ Below w.heap.size w w' := by
  have HD := Lib.hid (rdead_any r bs high at_ w h)
  obtain ⟨⟨a, cap, hb, hr, hne⟩, hle, hsm⟩ := h
  have h0 := blk_cell hb 0 (by omega)
  simp only [if_pos, Nat.reduceEqDiff, if_false] at h0
  clear hb hr hne
  go_enter Try.func21, Try.ntmps21
  go_wp2_with (go_at_call 36; refine HD.out.mono ?_; rintro e w' ⟨rfl, rfl⟩)
  go_ret
  exact ⟨rfl, Below.refl _ _⟩

def InfEnd (s : IS) (w : World) (e : Ending) (w' : World) : Prop := ∃ v B, e = .returned (.tuple #[v, .int .i64 ((s.at_ + 7) / 8 : Nat), .int .i64 0]) ∧ w'.ownsRow B 5 1 v s.out.length (s.out.map u8C) ∧ Below w.heap.size w w'

set_option maxRecDepth 20000 in
set_option maxHeartbeats 4000000 in
theorem inflate_fix (w : World) (a : Option Addr) (cap most : Nat) (bs : List UInt8) (hr : Row w 1 a bs.length cap (bs.map u8C)) (hbl : bs.length ≤ 1000) (hm : most ≤ 16777216) {s1 s2 s3 : IS} (h1 : numV bs 1 ⟨0, 0, []⟩ = (1, s1)) (h2 : numV bs 2 s1 = (1, s2)) (he : s2.e = 0) (g : Nat) (hg : s2.out.length + g ≤ 1000) (hl : litV bs most fixL g s2 = some s3) (he3 : s3.e = 0) (ha : s3.at_ ≤ 100000) :
    Calls Try.prog 8 #[.slice a bs.length cap, .int .i64 most] w (InfEnd s3 w) := by
  have HRD := Lib.hid (read_any a cap bs false w hr (by omega))
  have HBK := Lib.hid (fun (W : World) (U : Nat → Prop) (sb r : Nat) (h : IsSt W U sb r bs most ⟨0, 0, []⟩) => block_fix h h1 h2 he g hg hl)
  have hd1 : decide ((most : Int) < 0) = false := decide_eq_false (by omega)
  have hd2 : decide ((16777216 : Int) < most) = false := decide_eq_false (by omega)
  have hd3 : decide (16777216 < most) = false := decide_eq_false (by omega)
  clear hr h1 h2 hl
  go_enter Try.func8, Try.ntmps8
  go_wp2
  go_step3
  go_wp2_with fail
  refine HRD.out.mono ?_
  rintro e w1 ⟨r, rfl, hR, hrw, hb⟩
  have HB := Lib.hid hb
  have hlt : r < w1.heap.size := by
    obtain ⟨⟨q1, q2, q3, -⟩, -⟩ := hR
    exact (Array.getElem?_eq_some_iff.1 q3).1
  have HST := Lib.hid (show IsSt (w1.alloc (.cells #[.pointer (some ⟨r, 0, none⟩), .int .i64 0, .slice none 0 0, .int .i64 most] 47)) (fun b => b = w1.heap.size ∨ b = r) w1.heap.size r bs most ⟨0, 0, []⟩ from
    ⟨⟨.slice none 0 0, heapA_new _ rfl, World.ownsRow_nil _ _ _ _, fun b hb => (by cases hb)⟩, hR.keeps (V := fun _ => False) (Keeps.any (belowA _ _)) (fun _ _ h => h), hlt, ⟨.inl rfl, .inr rfl⟩, fun b hb => by rw [sizeA]; omega⟩)
  have HRW := Lib.hid hrw
  clear hR hrw hb hlt
  go_wp2_with fail
  go_step3
  go_wp2_with fail
  have HW2 := Lib.hid (belowA w1 (.cells #[.pointer (some ⟨r, 0, none⟩), .int .i64 0, .slice none 0 0, .int .i64 most] 47))
  generalize w1.alloc (.cells #[.pointer (some ⟨r, 0, none⟩), .int .i64 0, .slice none 0 0, .int .i64 most] 47) = w2 at *
  generalize hsb : w1.heap.size = sb at *
  refine (HBK.out _ _ _ _ HST.out).mono ?_
  rintro e w3 ⟨rfl, U', h3, k3, u3⟩
  obtain ⟨c0, c1, c3, f1, f2⟩ := h3.cells
  rw [he3] at c1
  obtain ⟨v, hv, hO, hU⟩ := h3.ex
  have c2 : w3.cell? ⟨sb, 2, none⟩ = some v := by rw [cell_of_row w3 sb _ _ _ _ hv]; rfl
  obtain ⟨a3, cap3, hva, -, -⟩ := Row.of_owns hO
  subst hva
  have HB3 := Lib.hid (show Below w.heap.size w w3 from by
    have q1 := HB.out.size
    have q2 := HRW.out
    have q3 := HB.out.trans (HW2.out.mono (by omega))
    exact q3.trans (k3.below q3.size (fun b hb => by rcases hb with hb | hb <;> omega)))
  have HAT := Lib.hid (rat_any r bs false s3.at_ w3.drew (h3.drewN 1).1.rd)
  have HO := Lib.hid (ownsRow_keep hO (Below.refl _ w3).drew)
  have i1 : IntKind.i64.wrap ((s3.at_ : Int) + 7) = (s3.at_ : Int) + 7 := IntWalk.i64_in _ (by omega)
  obtain ⟨q, hq⟩ : ∃ q, q = (s3.at_ + 7) / 8 := ⟨_, rfl⟩
  have HQ := Lib.hid hq
  have hq1 : ((s3.at_ : Int) + 7) / 8 = (q : Int) := by omega
  have hq2 : ((s3.at_ : Int) + 7).tdiv 8 = (q : Int) := by rw [Int.tdiv_eq_ediv_of_nonneg (by omega)]; exact hq1
  have i2 : IntKind.i64.wrap (q : Int) = (q : Int) := IntWalk.i64_in _ (by omega)
  have e0 := cell?_keep (Below.refl _ w3).drew c0
  have e2 := cell?_keep (Below.refl _ w3).drew c2
  clear h3 k3 u3 hv hO hU hq HST HB hsb
  go_wp2_with fail
  go_region_held3 (fun w' => w'.cell? ⟨sb, 0, none⟩ = some (.pointer (some ⟨r, 0, none⟩)) ∧ w'.cell? ⟨sb, 2, none⟩ = some (.slice a3 s3.out.length cap3)) (first | assumption | exact ⟨e0, e2⟩ | exact ⟨cell?_keep hbA e0, cell?_keep hbA e2⟩)
    ((go_at_call 21; refine HAT.out.mono ?_; rintro e wA ⟨rfl, hbA⟩))
  all_goals (try go_wp2)
  all_goals (try rw [Exit.noGoto_ret])
  all_goals go_ret3
  all_goals exact ⟨_, _, by rw [← HQ.out]; rfl, ownsRow_keep HO.out hbA, HB3.out.trans (((Below.refl _ w3).drew.trans hbA).mono HB3.out.size)⟩
end Go.Proofs.Ytlmdgaajkjbpgaa
