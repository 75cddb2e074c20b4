/-
  Walks of layer 1: a reader is made.
-/
import Derived.Test.YtlmdgaajkjbpgaaTGet
import Derived.Test.YtlmdgaajkjbpgaaClone
namespace Go.Proofs.Ytlmdgaajkjbpgaa
open Go.RowKit Go.Sort

set_option maxHeartbeats 400000 in
theorem read_any (a : Option Addr) (cap : Nat) (bs : List UInt8) (high : Bool) (w : World) (hr : Row w 1 a bs.length cap (bs.map fun b => Value.int .u8 b.toNat)) (hby : bs.length ≤ 140737488355328) :
    Calls Try.prog 19 #[.slice a bs.length cap, .bool high] w fun e w' => ∃ r, e = .returned (.pointer (some ⟨r, 0, none⟩)) ∧ IsRd w' r bs high 0 ∧ w.heap.size ≤ r ∧ Below w.heap.size w w' := by
  have hcl := cloneB a bs.length cap _ w hr (by intro u hu; simp at hu; obtain ⟨x, _, rfl⟩ := hu; rfl) (by omega)
  have HCL := Lib.hid hcl
  clear hcl hr
  generalize hn : bs.length = n at *
  have HN := Lib.hid hn
  clear hn
  go_enter Try.func19, Try.ntmps19
  go_wp2_with (go_at_call 29; refine HCL.out.mono ?_; rintro e w1 ⟨v, rfl, hO, hb, hnn⟩; obtain ⟨a1, c1, rfl, hr1, hb1⟩ := Row.of_owns hO; have HO := Lib.hid hO; have HB := Lib.hid hb; have HR1 := Lib.hid hr1; have HB1 := Lib.hid hb1; clear hO hb hnn hr1 hb1)
  go_ret
  have hn := HN.out
  subst hn
  refine ⟨w1.heap.size, rfl, ⟨⟨a1, c1, heapA_new _ rfl, HR1.out.mono (belowA _ _), fun x hx => ?_⟩, by omega, by omega⟩, HB.out.size, HB.out.alloc (by exact HB.out.size) _⟩
  have := (HO.out.lt x.block (by simp [Value.ownBlock, hx])).2
  omega

end Go.Proofs.Ytlmdgaajkjbpgaa
