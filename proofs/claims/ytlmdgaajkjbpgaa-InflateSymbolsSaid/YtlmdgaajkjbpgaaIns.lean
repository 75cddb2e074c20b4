/-
  Go's insertion sort by a comparing function, at elements of one cell ([]int).
-/
import Derived.Test.YtlmdgaajkjbpgaaProg
import Derived.Test.YtlmdgaajkjbpgaaSortB
import Derived.BigQuiet
import Derived.Deep.QuietTactic
namespace Go.Proofs.Ytlmdgaajkjbpgaa
open Go.RowKit Go.Sort

set_option maxHeartbeats 2000000 in
theorem ins_any {α : Type} [Inhabited α] (enc : α → Value) (hE : ∀ x, ∃ n, enc x = .int .i64 n) (cf : α → α → Int) (D : α → Prop) (f : FuncId) (cb : Array Value) (g cap a b : Nat) (rest : List Value) (d : Array α) (w0 w : World)
    (hC : CmpQ Try.prog f cb enc cf D w0 g) (hS : SB enc w0 g 3 rest d w) (hD : ∀ i, i < d.size → D d[i]!) (hab : a ≤ b) (hb : b ≤ d.size) (hsz : d.size < 4611686018427387904) :
    Calls Try.prog 69 #[.slice (some ⟨g, 0, none⟩) d.size cap, .int .i64 a, .int .i64 b, .func (.func f) #[] cb] w fun e w' => e = .returned (.tuple #[]) ∧ SB enc w0 g 3 rest (Sort.insertionSort (ltOf cf) d a b) w' := by
  have eg := hC.enters
  have HC := Lib.hid hC
  have HS := Lib.hid hS
  have HD := Lib.hid hD
  clear hC hS hD
  go_enter Try.func69, Try.ntmps69
  go_wp2
  go_loopw [8] (fun vi wr => ∃ (i : Nat) (dk : Array α), vi = .int .i64 i ∧ a < i ∧ i ≤ b + 1 ∧ dk.size = d.size ∧ Hid (SB enc w0 g 3 rest dk wr) ∧ Hid (∀ i, i < dk.size → D dk[i]!) ∧
      Hid (insOuter (ltOf cf) a b i dk = insOuter (ltOf cf) a b (a + 1) d)) (fun vi _ => b + 1 - (intOf vi).toNat)
  case atStart => exact ⟨a + 1, d, by go_num, by omega, by omega, rfl, HS, HD, rfl⟩
  case round =>
    obtain ⟨i, dk, rfl, hai, hib, hsk, HSk, HDk, HO⟩ := hrel
    clear HS
    by_cases hlt : i < b
    · go_wp2
      go_loopw [9] (fun vj wr2 => ∃ (j : Nat) (dj : Array α), vj = .int .i64 j ∧ a ≤ j ∧ j ≤ i ∧ dj.size = d.size ∧ Hid (SB enc w0 g 3 rest dj wr2) ∧ Hid (∀ i, i < dj.size → D dj[i]!) ∧
          Hid (insInner (ltOf cf) a j dj = insInner (ltOf cf) a i dk)) (fun vj _ => (intOf vj).toNat)
      case atStart => exact ⟨i, dk, rfl, by omega, Nat.le_refl _, hsk, HSk, HDk, rfl⟩
      case round =>
        obtain ⟨j, dj, rfl, haj, hji, hsj, HSj, HDj, HI⟩ := hrel
        clear HSk HDk
        by_cases hja : a < j
        · have hc1 := HSj.out.cell j (by omega)
          have hc2 := HSj.out.cell (j - 1) (by omega)
          have hf1 := HSj.out.free j
          have hf2 := HSj.out.free (j - 1)
          have hcall := fun q => HC.out.calls (wr.drewN q) (HSj.out.drewN q).grown dj[j]! dj[j-1]! (HDj.out j (by omega)) (HDj.out (j - 1) (by omega))
          obtain ⟨X, hX⟩ : ∃ X, X = dj[j]! := ⟨_, rfl⟩
          obtain ⟨Y, hY⟩ : ∃ Y, Y = dj[j-1]! := ⟨_, rfl⟩
          rw [← hX] at hc1 hcall
          rw [← hY] at hc2 hcall
          have HX := Lib.hid hX
          have HY := Lib.hid hY
          obtain ⟨x, hx⟩ := hE X
          obtain ⟨y, hy⟩ := hE Y
          rw [hx] at hc1 hcall
          rw [hy] at hc2 hcall
          have HCALL := Lib.hid hcall
          have HEx := Lib.hid hx
          have HEy := Lib.hid hy
          clear hcall hx hy hX hY
          have hj1 : (0 : Int) ≤ (j : Int) - 1 := by omega
          have hj2 : ((j : Int) - 1).toNat = j - 1 := by omega
          have hjd : j < d.size := by omega
          have hjd1 : (j : Int) < (d.size : Int) := by omega
          have out : ltOf cf X Y = false → ∀ q, ∃ i' dk', Value.int .i64 ((i : Int) + 1) = .int .i64 (i' : Nat) ∧ a < i' ∧ i' ≤ b + 1 ∧ dk'.size = d.size ∧ Hid (SB enc w0 g 3 rest dk' (wr.drewN q)) ∧ Hid (∀ i, i < dk'.size → D dk'[i]!) ∧ Hid (insOuter (ltOf cf) a b i' dk' = insOuter (ltOf cf) a b (a + 1) d) :=
            fun hl q => ⟨i + 1, dj, by go_num, by omega, by omega, hsj, HSj.out.drewN q, HDj, by rw [← HO.out, outer_go _ _ _ _ _ hlt, ← HI.out, inner_stop _ _ _ _ (.inr (by rw [← HX.out, ← HY.out]; exact hl))]; exact Lib.hid rfl⟩
          have OUT := Lib.hid out
          clear out
          by_cases hcf : cf X Y < 0
          · have hl : ltOf cf X Y = true := by simpa [ltOf] using hcf
            have HL := Lib.hid hl
            clear hl
            go_wp2_with fail
            go_quiet ((refine Calls.quiet_of (HCALL.out _)))
            go_wp2
            go_region
            all_goals go_wp2
            go_roundw
            case rel =>
              refine ⟨j - 1, swp dj j (j - 1), by congr 1; omega, by omega, by omega, by rw [size_swp]; exact hsj, ?_, ?_, ?_⟩
              · have hw := HSj.out.swp j (j - 1) (by omega) (by omega) (nq + 1)
                rw [← HX.out, ← HY.out, HEx.out, HEy.out] at hw
                exact Lib.hid hw
              · exact Lib.hid (fun q hq => by
                  rw [size_swp] at hq
                  by_cases h1 : q = j
                  · subst h1; rw [swp_left _ _ _ hq (by omega)]; exact HDj.out _ (by omega)
                  · by_cases h2 : q = j - 1
                    · subst h2; rw [swp_right _ _ _ hq]; exact HDj.out _ (by omega)
                    · rw [swp_other _ _ _ _ h1 h2]; exact HDj.out _ hq)
              · exact Lib.hid (by rw [← HI.out, inner_go (ltOf cf) a j dj hja (by rw [← HX.out, ← HY.out]; exact HL.out)])
            case measure => simp [intOf]; omega
          · have hl : ltOf cf X Y = false := by simpa [ltOf] using hcf
            have HL := Lib.hid hl
            clear hl
            go_wp2_with fail
            go_quiet ((refine Calls.quiet_of (HCALL.out _)))
            go_wp2
            go_roundw
            case rel => exact OUT.out HL.out nq
            case measure => simp [intOf]; omega
        · have out : ∀ q, ∃ i' dk', Value.int .i64 ((i : Int) + 1) = .int .i64 (i' : Nat) ∧ a < i' ∧ i' ≤ b + 1 ∧ dk'.size = d.size ∧ Hid (SB enc w0 g 3 rest dk' (wr.drewN q)) ∧ Hid (∀ i, i < dk'.size → D dk'[i]!) ∧ Hid (insOuter (ltOf cf) a b i' dk' = insOuter (ltOf cf) a b (a + 1) d) :=
            fun q => ⟨i + 1, dj, by go_num, by omega, by omega, hsj, HSj.out.drewN q, HDj, by rw [← HO.out, outer_go _ _ _ _ _ hlt, ← HI.out, inner_stop _ _ _ _ (.inl (by omega))]; exact Lib.hid rfl⟩
          have OUT := Lib.hid out
          clear out
          have hja2 : decide ((a : Int) < (j : Int)) = false := by simp; omega
          go_wp2
          go_quiet (fail)
          go_wp2
          go_roundw
          case rel => exact OUT.out nq
          case measure => simp [intOf]; omega
    · go_wp2
      go_end0
      refine ⟨rfl, ?_⟩
      have e : Sort.insertionSort (ltOf cf) d a b = dk := by
        unfold Sort.insertionSort; rw [← HO.out, outer_stop _ _ _ _ _ hlt]
      rw [e]
      exact HSk.out
end Go.Proofs.Ytlmdgaajkjbpgaa
