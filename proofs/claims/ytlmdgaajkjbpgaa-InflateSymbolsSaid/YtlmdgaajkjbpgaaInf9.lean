/-
  Walks of layer 5: a block by the fixed codes, and all that is packed in one such block.
-/
import Derived.Test.YtlmdgaajkjbpgaaInf8
import Derived.Test.YtlmdgaajkjbpgaaInf6
import Derived.Deep.RegionHeld3
namespace Go.Proofs.Ytlmdgaajkjbpgaa
open Go.RowKit Go.Sort

theorem room_fixL : 0 ≤ roomV fixL := by decide +kernel
theorem room_fixD : 0 ≤ roomV fixD := by decide +kernel

set_option maxRecDepth 20000 in
set_option maxHeartbeats 4000000 in
theorem block_fix {w : World} {U : Nat → Prop} {sb r : Nat} {bs : List UInt8} {most : Nat} {s s1 s2 s3 : IS} (h : IsSt w U sb r bs most s) (h1 : numV bs 1 s = (1, s1)) (h2 : numV bs 2 s1 = (1, s2)) (he : s2.e = 0) (g : Nat) (hg : s2.out.length + g ≤ 1000) (hl : litV bs most fixL g s2 = some s3) :
    Calls Try.prog 20 #[.pointer (some ⟨sb, 0, none⟩)] w fun e w' => e = .returned (.bool true) ∧ StNext w U sb r bs most s3 w' := by
  have hn1 := snum_any h 1 (by omega)
  rw [h1, show ((1 : Nat) : Int) = 1 from rfl] at hn1
  have HN1 := Lib.hid hn1
  have H2 := Lib.hid h2
  have HL := Lib.hid hl
  have HE := Lib.hid he
  have HU0 := Lib.hid (fun b (hb : U b) => h.blt hb)
  clear h h1 hn1 h2 hl
  go_enter Try.func20, Try.ntmps20
  go_wp2_with fail
  refine HN1.out.mono ?_
  rintro e w1 ⟨rfl, hs1, hk1⟩
  have hn2 := snum_any hs1 2 (by omega)
  rw [H2.out, show ((2 : Nat) : Int) = 2 from rfl, show ((1 : Nat) : Int) = 1 from rfl] at hn2
  have HN2 := Lib.hid hn2
  have HK1 := Lib.hid hk1
  clear hs1 hk1 hn2
  go_wp2_with fail
  refine HN2.out.mono ?_
  rintro e w2 ⟨rfl, hs2, hk2⟩
  obtain ⟨c0, c1, c3, f1, f2⟩ := hs2.cells
  rw [he] at c1
  have HS2 := Lib.hid hs2
  have HK2 := Lib.hid (HK1.out.trans hk2 (fun b hb => .inl hb))
  have HFX := Lib.hid (fixed_any w2)
  clear hs2 hk2
  go_wp2_with fail
  refine HFX.out.mono ?_
  rintro e w3 ⟨a, c, b, f, rfl, hra, hrb, ha, hb, hbel, hfr⟩
  have hS3 := HS2.out.mono (hbel.trans ((Below.refl _ w3).drew.mono hbel.size))
  have HT1 := Lib.hid (stab_ok hS3 he (a := a) (n := 288) (cap := c) (l := fixL) (hra.mono (Below.refl _ w3).drew) room_fixL (by omega) ha)
  have HRB := Lib.hid (hrb.mono (Below.refl _ w3).drew)
  have HK3 := Lib.hid (show Keeps U w w3.drew from HK2.out.trans (Keeps.any (hbel.trans ((Below.refl _ w3).drew.mono hbel.size))) (fun b hb => .inl hb))
  have HFR := Lib.hid (fun x (hx : b = some x) => (show ¬ U x.block from fun e => by have := HS2.out.blt e; have := hfr x hx; omega))
  have HB := Lib.hid hb
  have HUL := Lib.hid (show ∀ x, U x → x < w3.drew.heap.size from fun x hx => Nat.lt_of_lt_of_le (HS2.out.blt hx) hbel.size)
  clear c0 c1 c3 f1 f2 hra hrb ha hb hbel hfr hS3
  go_wp2_with fail
  go_region_held3 (fun _ => True) (trivial)
    (first
      | (go_at_call_of 33 (Value.slice a 288 c); refine HT1.out.mono ?_; rintro e wA ⟨pA, BA, rfl, hTA, hBA, hSA, hKA⟩)
      | (go_at_call_of 33 (Value.slice b 30 f); refine (stab_ok hSA he (a := b) (n := 30) (cap := f) (l := fixD) (HRB.out.keeps hKA HFR.out) room_fixD (by omega) HB.out).mono ?_; rintro e wB ⟨pB, BB, rfl, hTB, hBB, hSB, hKB⟩)
      | (go_at_call 32; refine (coded_lit (p := pA) (Bl := BA) hSB (hTA.keeps hKB (fun x hx hu => by have h1 := hBA x hx; have h2 := HUL.out x hu; omega)) (fun x hx => by have h1 := hBA x hx; have h2 := hKB.size; exact ⟨by omega, fun hu => by have h3 := HUL.out x hu; omega⟩) g hg HL.out _).mono ?_; rintro e wC ⟨rfl, hC⟩))
  all_goals go_wp2
  all_goals go_ret
  all_goals exact ⟨rfl, StNext.trans ((HK3.out.trans hKA (fun b hb => .inl hb)).trans hKB (fun b hb => .inl hb)) (fun b hb => .inl hb) hC⟩
end Go.Proofs.Ytlmdgaajkjbpgaa
