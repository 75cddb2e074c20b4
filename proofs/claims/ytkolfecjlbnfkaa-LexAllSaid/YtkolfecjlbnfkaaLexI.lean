/-
  The walk of layer 10's works.
-/
import Derived.Test.YtkolfecjlbnfkaaLexH
import Derived.Lib.SlBytesConst
namespace Go.Proofs.Ytkolfecjlbnfkaa
open Go.RowKit

theorem next_ex1 : nextV [47, 65, 35, 52, 50, 99, 32, 93] 0 false = ({ kind := 1, vk := 5, vs := [65, 66, 99] }, 0, 6, 0) := by
  have h0 : skipV [47, 65, 35, 52, 50, 99, 32, 93] 0 = 0 := by decide
  unfold nextV
  rw [if_neg (by decide), h0]
  show (match tokV false 47 [65, 35, 52, 50, 99, 32, 93] with
    | (e, x, r) => if e = 0 then (x, ((0 : Nat) : Int), (8 : Int) - (r.length : Int), (0 : Int)) else ({ kind := 0 }, ((0 : Nat) : Int), ((0 : Nat) : Int), e)) = _
  rw [show tokV false 47 [65, 35, 52, 50, 99, 32, 93] = (0, { kind := 1, vk := 5, vs := [65, 66, 99] }, [32, 93]) by
    rw [tokV_slash]; unfold slV
    rw [if_neg (by decide)]
    rw [show nameV (regs [65, 35, 52, 50, 99, 32, 93]) = some [65, 66, 99] by decide]
    rfl]
  rfl
theorem next_ex2 : nextV [40, 97] 0 false = ({ kind := 0 }, 0, 0, 6) := by
  have h0 : skipV [40, 97] 0 = 0 := by decide
  unfold nextV
  rw [if_neg (by decide), h0]
  show (match tokV false 40 [97] with
    | (e, x, r) => if e = 0 then (x, ((0 : Nat) : Int), (2 : Int) - (r.length : Int), (0 : Int)) else ({ kind := 0 }, ((0 : Nat) : Int), ((0 : Nat) : Int), e)) = _
  rw [show tokV false 40 [97] = (6, { kind := 0 }, []) by
    rw [tokV_text, textV, if_neg (by decide), if_neg (by decide), if_neg (by decide), if_neg (by decide), textV_nil]; rfl]
  rfl

theorem row_bs {w : World} (bs : List UInt8) (t : TypeId) (hb : bs.length ≤ 100) : Row (w.alloc (.cells (bs.map u8C).toArray t (bs.length, bs.length + 1))) 1 (some ⟨w.heap.size, 0, none⟩) bs.length bs.length (bs.map u8C) := by
  refine ⟨by simp, Nat.le_refl _, by unfold maxLen; omega, fun h => (by cases h), fun _ => ⟨_, _, rfl, (by rw [sizeA]; omega), fun j u hj => ?_⟩⟩
  rw [cell_of_row _ _ _ _ _ _ (heapA_new _ rfl)]
  simpa using hj

set_option maxRecDepth 8000 in
set_option maxHeartbeats 8000000 in
theorem works_any (w : World) : Calls Try.prog 8 #[] w fun e w' => e = .returned (.bool true) ∧ Below w.heap.size w w' := by
  have HN1 := Lib.hid (fun W : World => next_any (row_bs (w := W) [47, 65, 35, 52, 50, 99, 32, 93] 5 (by decide)) (by decide) 0 false)
  have HN2 := Lib.hid (fun W : World => next_any (row_bs (w := W) [40, 97] 5 (by decide)) (by decide) 0 false)
  rw [next_ex1] at HN1
  rw [next_ex2] at HN2
  unfold NextEnd tokN at HN1 HN2
  simp only [show mkB [65, 66, 99] = ⟨#[65, 66, 99]⟩ from rfl, show mkB [] = ⟨#[]⟩ from rfl] at HN1 HN2
  have hcv := fun (W : World) (C : Array Value) (n c : Nat) => Lib.run_convert_bytes_const (P := Try.prog) W 22 5 C n c Try.underlying22 Try.underlying5
  go_enter Try.func8, Try.ntmps8
  go_wp2_with fail
  refine (HN1.out w).mono ?_
  rintro e w1 ⟨rfl, hb1⟩
  have HB1 := Lib.hid ((belowA w _).trans (hb1.mono (by rw [sizeA]; omega)))
  have hcv2 := fun (o : Obj) (C : Array Value) (n c : Nat) => hcv (w1.alloc o) C n c
  simp only [sizeA] at hcv2
  have HN3 := Lib.hid (fun o : Obj => HN2.out (w1.alloc o))
  simp only [sizeA] at HN3
  clear hb1 hcv
  go_wp2_with fail
  refine (HN3.out _).mono ?_
  rintro e w2 ⟨rfl, hb2⟩
  have hb2' := (belowA2 w1 _ _).trans (hb2.mono (by omega))
  have HB2 := Lib.hid (HB1.out.trans (hb2'.mono HB1.out.size))
  have hbk := block_keep (w' := w2) (by rw [sizeA, sizeA]; exact hb2) (heapA_old _ (heapA_new _ rfl))
  have hlt := (Array.getElem?_eq_some_iff.1 hbk).1
  have hbk2 := heapA_old (.cells #[.int .i64 0, .int .i64 0, .int .i64 0, .int .i64 0, .int .i64 0, .string ⟨#[]⟩, .slice none 0 0, .string ⟨#[]⟩] 28) hbk
  obtain ⟨⟨k0, k1, k2, k3, k4, k5, k6, k7⟩, -⟩ := cells8 hbk2
  obtain ⟨⟨g0, g1, g2, g3, g4, g5, g6, g7⟩, -⟩ := cells8 (heapA_new (w := w2) (.cells #[.int .i64 0, .int .i64 0, .int .i64 0, .int .i64 0, .int .i64 0, .string ⟨#[]⟩, .slice none 0 0, .string ⟨#[]⟩] 28) rfl)
  have HW := Lib.hid (HB2.out.alloc HB2.out.size (.cells #[.int .i64 0, .int .i64 0, .int .i64 0, .int .i64 0, .int .i64 0, .string ⟨#[]⟩, .slice none 0 0, .string ⟨#[]⟩] 28))
  clear hb2 hb2' hbk hlt hbk2 hcv2
  go_wp2
  go_ret
  exact ⟨rfl, HW.out⟩
end Go.Proofs.Ytkolfecjlbnfkaa
