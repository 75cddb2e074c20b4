/-
  Walks of layer 5: the law's own example ('works').
-/
import Derived.Test.YtlmdgaajkjbpgaaInfA
import Derived.Lib.SlBytesConst
import Derived.Lib.SmallJoins
namespace Go.Proofs.Ytlmdgaajkjbpgaa
open Go.RowKit Go.Sort

def mkB (l : List UInt8) : ByteArray := ⟨l.toArray⟩
theorem conv_own {w : World} {base : Nat} {v : Value} {o : List UInt8} (hr : w.ownsRow base 5 1 v o.length (o.map u8C)) : (convert 22 9 v).run Try.prog w = .ok (.string (mkB o)) w := by
  rcases hr.2 with ⟨rfl, h0⟩ | ⟨g, cap, cur, rfl, _⟩
  · have ho : o = [] := List.eq_nil_of_length_eq_zero h0
    subst ho
    rw [run_convert_bytes_string w 22 9 5 none 0 0 Try.underlying22 Try.underlying5 Try.underlying9]
    rfl
  · refine run_convert_bytes_back (P := Try.prog) w 22 9 5 ⟨g, 0, none⟩ cap o Try.underlying22 Try.underlying5 Try.underlying9 (fun j hj => ?_)
    exact hr.cells (g := g) rfl j (u8C o[j]) (by simp [hj])
theorem row_lit5 {w : World} (bs : List UInt8) (t : TypeId) (hb : bs.length ≤ 100) : Row (w.alloc (.cells (bs.map u8C).toArray t (0, 0))) 1 (some ⟨w.heap.size, 0, none⟩) bs.length bs.length (bs.map u8C) := by
  refine ⟨by simp, Nat.le_refl _, by unfold maxLen; omega, fun h => (by cases h), fun _ => ⟨_, _, rfl, (by rw [sizeA]; omega), fun j u hj => ?_⟩⟩
  rw [cell_of_row _ _ _ _ _ _ (heapA_new _ rfl)]
  simpa using hj

def bsA : List UInt8 := [75, 4, 0]
def bsB : List UInt8 := [3, 0, 7]
theorem nA1 : numV bsA 1 ⟨0, 0, []⟩ = (1, ⟨1, 0, []⟩) := by kernel_rfl
theorem nA2 : numV bsA 2 ⟨1, 0, []⟩ = (1, ⟨3, 0, []⟩) := by kernel_rfl
theorem lA : litV bsA 9 fixL 3 ⟨3, 0, []⟩ = some ⟨18, 0, [97]⟩ := by kernel_rfl
theorem nB1 : numV bsB 1 ⟨0, 0, []⟩ = (1, ⟨1, 0, []⟩) := by kernel_rfl
theorem nB2 : numV bsB 2 ⟨1, 0, []⟩ = (1, ⟨3, 0, []⟩) := by kernel_rfl
theorem lB : litV bsB 0 fixL 3 ⟨3, 0, []⟩ = some ⟨10, 0, []⟩ := by kernel_rfl

set_option maxRecDepth 20000 in
set_option maxHeartbeats 4000000 in
theorem works_any (w : World) : Calls Try.prog 7 #[] w fun e w' => e = .returned (.bool true) ∧ Below w.heap.size w w' := by
  have HA := Lib.hid (inflate_fix (w.alloc (.cells #[.int .u8 75, .int .u8 4, .int .u8 0] 5)) (some ⟨w.heap.size, 0, none⟩) 3 9 bsA (row_lit5 (w := w) bsA 5 (by decide)) (by decide) (by omega) nA1 nA2 rfl 3 (by decide) lA rfl (by decide))
  have HB := Lib.hid (fun W : World => inflate_fix (W.alloc (.cells #[.int .u8 3, .int .u8 0, .int .u8 7] 5)) (some ⟨W.heap.size, 0, none⟩) 3 0 bsB (row_lit5 (w := W) bsB 5 (by decide)) (by decide) (by omega) nB1 nB2 rfl 3 (by decide) lB rfl (by decide))
  go_enter Try.func7, Try.ntmps7
  go_wp2_with fail
  refine HA.out.mono ?_
  rintro e w1 ⟨v, B, rfl, hO, hb⟩
  obtain ⟨a1, c1, rfl, -, -⟩ := Row.of_owns hO
  have HO := Lib.hid hO
  have HB1 := Lib.hid ((belowA w _).trans (hb.mono (belowA w _).size))
  clear hO hb
  go_wp2_with fail
  refine (HB.out w1).mono ?_
  rintro e w2 ⟨v, B2, rfl, hO2, hb⟩
  obtain ⟨a2, c2, rfl, -, -⟩ := Row.of_owns hO2
  have hb2 := (belowA w1 _).trans (hb.mono (belowA w1 _).size)
  have hcx : (convert 22 9 (.slice a1 ([97] : List UInt8).length c1)).run Try.prog w2 = .ok (.string (mkB [97])) w2 := conv_own (ownsRow_keep HO.out hb2)
  have HE := Lib.hid (HB1.out.trans (hb2.mono HB1.out.size))
  clear hO2 hb hb2
  dsimp only [List.length_cons, List.length_nil] at hcx ⊢
  have ht : ((mkB [97]).toList == [97]) = true := by kernel_rfl
  go_wp2
  go_ret
  exact ⟨rfl, HE.out⟩
end Go.Proofs.Ytlmdgaajkjbpgaa
