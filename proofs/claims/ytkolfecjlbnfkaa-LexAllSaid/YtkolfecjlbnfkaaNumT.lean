/-
  The reference's Parse, for every text.
-/
import Derived.Test.YtkolfecjlbnfkaaNumS
import Derived.Test.YtkolfecjlbnfkaaNumS1
import Derived.Test.YtkolfecjlbnfkaaNumS2
namespace Go.Proofs.Ytkolfecjlbnfkaa
open Go.RowKit

set_option maxRecDepth 8000 in
set_option maxHeartbeats 1000000 in
theorem rparse_empty (s : ByteArray) (w : World) (h0 : s.size = 0) :
    Calls Try.prog 25 #[.string s] w (ParseEnd (parseV (bl s)) w) := by
  have hbx : (w.alloc (.cells #[.int .i64 0, .int .i64 0, .string ⟨#[]⟩, .slice none 0 0] 26)).heap[w.heap.size]? = some (.cells #[.int .i64 0, .int .i64 0, .string ⟨#[]⟩, .slice none 0 0] 26 (0, 0)) := heapA_new _ rfl
  have hB0 := belowA w (.cells #[.int .i64 0, .int .i64 0, .string ⟨#[]⟩, .slice none 0 0] 26)
  have HBX := Lib.hid hbx
  have HB0 := Lib.hid hB0
  obtain ⟨V, hV⟩ : ∃ V, V = parseV (bl s) := ⟨_, rfl⟩
  rw [← hV]
  have HV := Lib.hid hV
  clear hV hbx hB0
  have HL := Lib.hid (show V = (0, 0, 11) by rw [HV.out, show bl s = [] from List.eq_nil_of_length_eq_zero (by rw [bl_len]; exact h0)]; rfl)
  have hz : ¬ 0 < s.size := by omega
  have hzd : decide (0 < s.size) = false := decide_eq_false hz
  have hzi : decide ((0 : Int) < s.size) = false := decide_eq_false (by omega)
  clear h0
  go_enter Try.func25, Try.ntmps25
  go_wp2
  generalize w.alloc (.cells #[.int .i64 0, .int .i64 0, .string ⟨#[]⟩, .slice none 0 0] 26) = W at *
  go_loop [7, 10] (fun d i => d = .int .i64 0 ∧ i = .int .i64 0) (fun _ _ => 0)
  case atStart => exact ⟨rfl, rfl⟩
  case round =>
    obtain ⟨rfl, rfl⟩ := hrel
    obtain ⟨⟨k0, k1, k2, k3⟩, f0, f1, f2, f3⟩ := cells4 HBX.out
    go_wp2
    refine bodyPost_ret (results_val rfl _ _ w.heap.size 26 _ (0, 0) _ rfl (set4 HBX.out _ _ _ _) Try.underlying26 rfl infoVal _ rfl) rfl ⟨?_, below_set4 HB0.out (Nat.le_refl _) _ _ _ _⟩
    rw [HL.out]
    rfl
theorem rparse_any (s : ByteArray) (w : World) (hs : s.size ≤ 100000) :
    Calls Try.prog 25 #[.string s] w (ParseEnd (parseV (bl s)) w) := by
  by_cases h0 : 0 < s.size
  · by_cases h1 : PlainAid.bt s 0 = 43
    · exact rparse_plus s w hs h0 h1
    · by_cases h2 : PlainAid.bt s 0 = 45
      · exact rparse_minus s w hs h0 h2
      · exact rparse_none s w hs h0 h1 h2
  · exact rparse_empty s w (by omega)
end Go.Proofs.Ytkolfecjlbnfkaa
