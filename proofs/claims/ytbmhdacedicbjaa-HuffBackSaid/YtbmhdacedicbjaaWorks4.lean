/-
  Walks of layers 1 and 4: bits.Read; the law's own example ('works').
-/
import Derived.Test.YtbmhdacedicbjaaTGet
namespace Go.Proofs.Ytbmhdacedicbjaa
open Go.RowKit Go.Sort

set_option maxHeartbeats 400000 in
theorem read_any (a : Option Addr) (cap : Nat) (bs : List UInt8) (high : Bool) (w : World) (hr : Row w 1 a bs.length cap (bs.map fun b => Value.int .u8 b.toNat)) (hby : bs.length ≤ 140737488355328) :
    Calls Try.prog 16 #[.slice a bs.length cap, .bool high] w fun e w' => ∃ r, e = .returned (.pointer (some ⟨r, 0, none⟩)) ∧ IsRd w' r bs high 0 ∧ w.heap.size ≤ r ∧ Below w.heap.size w w' := by
  have hcl := cloneB a bs.length cap _ w hr (by intro u hu; simp at hu; obtain ⟨x, _, rfl⟩ := hu; rfl) (by omega)
  have HCL := Lib.hid hcl
  clear hcl hr
  generalize hn : bs.length = n at *
  have HN := Lib.hid hn
  clear hn
  go_enter Try.func16, Try.ntmps16
  go_wp2_with (go_at_call 53; refine HCL.out.mono ?_; rintro e w1 ⟨v, rfl, hO, hb, hnn⟩; obtain ⟨a1, c1, rfl, hr1, hb1⟩ := Row.of_owns hO; have HO := Lib.hid hO; have HB := Lib.hid hb; have HR1 := Lib.hid hr1; have HB1 := Lib.hid hb1; clear hO hb hnn hr1 hb1)
  go_ret
  have hn := HN.out
  subst hn
  refine ⟨w1.heap.size, rfl, ⟨⟨a1, c1, heapA_new _ rfl, HR1.out.mono (belowA _ _), fun x hx => ?_⟩, by omega, by omega⟩, HB.out.size, HB.out.alloc (by exact HB.out.size) _⟩
  have := (HO.out.lt x.block (by simp [Value.ownBlock, hx])).2
  omega

def l4 : List Int := [2, 1, 3, 3]
theorem room4 : 0 ≤ roomV l4 := by decide
theorem code40 : codeAt l4 0 = 2 := by decide
theorem code43 : codeAt l4 3 = 7 := by decide
theorem take4 : ∀ f : Nat → Bool, f 0 = true → f 1 = true → f 2 = false → takeV l4 f 8 = (2, 3, 0) := by
  intro f h0 h1 h2
  have e1 : valN f 1 = 1 := by simp [valN, h0]
  have e2 : valN f 2 = 3 := by simp [valN, h0, h1]
  have e3 : valN f 3 = 6 := by simp [valN, h0, h1, h2]
  have g1 : findSym l4 1 1 = none := by decide
  have g2 : findSym l4 2 3 = none := by decide
  have g3 : findSym l4 3 6 = some 2 := by decide
  have k1 : hasLong l4 1 = true := by decide
  have k2 : hasLong l4 2 = true := by decide
  have k3 : hasLong l4 3 = true := by decide
  simp [takeV, takeGo, e1, e2, e3, g1, g2, g3, k1, k2, k3]

set_option maxHeartbeats 1000000 in
theorem works4 (w : World) : Calls Try.prog 13 #[] w fun e w' => e = .returned (.bool true) ∧ Below w.heap.size w w' := by
  go_enter Try.func13, Try.ntmps13
  go_wp2_with fail
  have hr0 : Row (w.alloc (.cells #[.int .i64 2, .int .i64 1, .int .i64 3, .int .i64 3] 3)) 1 (some ⟨w.heap.size, 0, none⟩) 4 4 (l4.map (Value.int .i64)) := row_lit w #[.int .i64 2, .int .i64 1, .int .i64 3, .int .i64 3] 3 (by simp [maxLen])
  have hb0 := belowA w (.cells #[.int .i64 2, .int .i64 1, .int .i64 3, .int .i64 3] 3)
  generalize w.alloc (.cells #[.int .i64 2, .int .i64 1, .int .i64 3, .int .i64 3] 3) = w0 at *
  refine (codes_ok _ 4 4 l4 w0 hr0 room4).mono ?_
  rintro e w1 ⟨vC, rfl, hC, hb1⟩
  obtain ⟨aC, cC, rfl, hCr, _⟩ := Row.of_owns hC
  have hbw1 := hb0.trans (hb1.mono hb0.size)
  clear hC hr0 hb0 hb1
  go_wp2_with fail
  have hr2 : Row (w1.alloc (.cells #[.int .i64 2, .int .i64 1, .int .i64 3, .int .i64 3] 3)) 1 (some ⟨w1.heap.size, 0, none⟩) 4 4 (l4.map (Value.int .i64)) := row_lit w1 #[.int .i64 2, .int .i64 1, .int .i64 3, .int .i64 3] 3 (by simp [maxLen])
  have hb2 := belowA w1 (.cells #[.int .i64 2, .int .i64 1, .int .i64 3, .int .i64 3] 3)
  generalize w1.alloc (.cells #[.int .i64 2, .int .i64 1, .int .i64 3, .int .i64 3] 3) = w2 at *
  refine (new_ok 19 stable19 _ 4 4 l4 w2 hr2 room4 (by omega) (by simp)).mono ?_
  rintro e w3 ⟨p, rfl, hT, hb3⟩
  have hCr3 := (hCr.mono hb2).mono hb3
  have hbw3 := (hbw1.trans (hb2.mono hbw1.size)).trans (hb3.mono (Nat.le_trans hbw1.size hb2.size))
  obtain ⟨bC, oC, rfl, _, hcc⟩ := Row.at (enc := id) (.bool false) (l := fl 4 (cdV l4 4)) (by simpa using hCr3) 0 (by omega)
  have hc0 : w3.cell? ⟨bC, oC, none⟩ = some (.int .u32 2) := by have := hcc 0 (by omega); simpa [fl, cdV, code40, List.range_succ] using this
  have hc3 : w3.cell? ⟨bC, oC + 3, none⟩ = some (.int .u32 7) := by have := hcc 3 (by omega); simpa [fl, cdV, code43, List.range_succ] using this
  clear hCr hCr3 hcc hb2 hb3 hr2 hbw1
  have HT := Lib.hid hT
  clear hT
  have hs3 := hbw3.size
  have HBW3 := Lib.hid hbw3
  clear hbw3
  go_wp2_with fail
  have hr4 : Row (w3.alloc (.cells #[.int .u8 192] 5)) 1 (some ⟨w3.heap.size, 0, none⟩) 1 1 ([192].map fun b : UInt8 => Value.int .u8 b.toNat) := row_lit w3 #[.int .u8 192] 5 (by simp [maxLen])
  have hb4 := belowA w3 (.cells #[.int .u8 192] 5)
  have hs4 := sizeA w3 (.cells #[.int .u8 192] 5)
  generalize w3.alloc (.cells #[.int .u8 192] 5) = w4 at *
  refine (read_any _ 1 [192] true w4 hr4 (by simp)).mono ?_
  rintro e w5 ⟨r, rfl, hR, hrl, hb5⟩
  have hT5 := (HT.out.mono hb4).mono hb5
  have hbw5 := (HBW3.out.trans (hb4.mono hs3)).trans (hb5.mono (by omega))
  have hpr := fun b (h : w2.heap.size ≤ b) => h
  clear hr4 hb4 hb5
  go_wp2_with fail
  have hTr : IsTb w5 (fun b => b ≠ r) p l4 := by
    refine hT5.weaken ?_
    intro b h
    have h2 : b < w3.heap.size := h.2
    show b ≠ r
    omega
  have htg := tget_any _ p r l4 [192] true 0 w5 hTr hR (by simp)
  have hv := take4 (fun k => bitAt [192] true (0 + k)) (by decide) (by decide) (by decide)
  rw [show 8 * ([192] : List UInt8).length - 0 = 8 from rfl, hv] at htg
  refine htg.mono ?_
  rintro e w6 ⟨rfl, hR6, hg6⟩
  have HB := Lib.hid (hbw5.grown hg6 hbw5.size (fun k hk => by cases hk; omega))
  clear hR hT5 hbw5 hTr hv hR6 hg6
  go_wp2
  go_ret
  exact ⟨rfl, HB.out⟩
end Go.Proofs.Ytbmhdacedicbjaa
