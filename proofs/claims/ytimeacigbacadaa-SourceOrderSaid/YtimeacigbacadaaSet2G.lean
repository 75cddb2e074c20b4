/-
  Walks of layer 2: what a set tells: all its spans, how many numbers, up to where.
-/
import Derived.Test.YtimeacigbacadaaSetD
import Derived.Test.YtimeacigbacadaaSpJP
namespace Go.Proofs.Ytimeacigbacadaa
open Go.RowKit Go.Sort

theorem SetV.none (w : World) : SetV w none [] := .inl ⟨rfl, rfl⟩

def AllEnd (T : List (Int × Int)) (w : World) (e : Ending) (w' : World) : Prop := ∃ v, e = .returned v ∧ w'.ownsRow w.heap.size 23 2 v T.length (spV T) ∧ Below w.heap.size w w'

theorem all_any (pv : Option Addr) (T : List (Int × Int)) (w : World) (h : SetV w pv T) (hn : T.length ≤ 1000000) :
    Calls Try.prog 10 #[.pointer pv] w (AllEnd T w) := by
  rcases h with ⟨rfl, rfl⟩ | ⟨p, o, a, c, rfl, k0, hr⟩
  · go_enter Try.func10, Try.ntmps10
    go_wp2
    go_ret
    exact ⟨_, rfl, World.ownsRow_nil _ _ _ _, Below.refl _ _⟩
  · have hcl := cloneS a T.length c (spV T) w hr (spV_one_cell T) (by omega)
    have HC := Lib.hid hcl
    clear hcl hr
    go_enter Try.func10, Try.ntmps10
    go_wp2_with (go_at_call 33; refine HC.out.mono ?_; rintro e w1 ⟨v, rfl, hO, hb, hnn⟩; have HO := Lib.hid hO; have HB := Lib.hid hb; clear hO hb hnn)
    go_ret
    exact ⟨_, rfl, HO.out, HB.out⟩

/-- How many numbers spans have. -/
def sumS (L : List (Int × Int)) : Int := (L.map fun x => x.2 - x.1).foldr (· + ·) 0
theorem sumS_snoc : ∀ (L : List (Int × Int)) (x : Int × Int), sumS (L ++ [x]) = sumS L + (x.2 - x.1)
  | [], x => by simp [sumS]
  | y :: L, x => by
    have := sumS_snoc L x
    simp only [sumS, List.cons_append, List.map_cons, List.foldr_cons] at this ⊢
    omega
theorem sumS_bd : ∀ (L : List (Int × Int)), (∀ x ∈ L, 0 ≤ x.2 - x.1 ∧ x.2 - x.1 ≤ 1000000000) → 0 ≤ sumS L ∧ sumS L ≤ 1000000000 * L.length
  | [], _ => by simp [sumS]
  | y :: L, h => by
    have := sumS_bd L (fun x hx => h x (List.mem_cons_of_mem _ hx))
    have := h y (List.mem_cons_self ..)
    simp only [sumS, List.map_cons, List.foldr_cons, List.length_cons] at *
    omega

set_option maxHeartbeats 1000000 in
theorem size_any (pv : Option Addr) (T : List (Int × Int)) (w : World) (h : SetV w pv T) (hn : T.length ≤ 1000000) (hT : ∀ x ∈ T, 0 ≤ x.1 ∧ x.1 ≤ x.2 ∧ x.2 ≤ 1000000000) :
    Calls Try.prog 11 #[.pointer pv] w fun e w' => e = .returned (.int .i64 (sumS T)) ∧ Below w.heap.size w w' := by
  have HA := Lib.hid (all_any pv T w h hn)
  have HT := Lib.hid hT
  obtain ⟨n, hnn⟩ : ∃ n, n = T.length := ⟨_, rfl⟩
  have HN := Lib.hid hnn
  rw [← hnn] at hn
  clear h hT hnn
  go_enter Try.func11, Try.ntmps11
  go_wp2_with fail
  refine HA.out.mono ?_
  rintro e w1 ⟨v, rfl, hO, hb⟩
  obtain ⟨a, c, rfl, hr, _⟩ := Row.of_owns hO
  rw [← HN.out] at hr ⊢
  have HR := Lib.hid hr
  have HB := Lib.hid hb
  clear hO hr hb
  go_wp2
  go_loopw [3, 9] (fun s i wr => ∃ k : Nat, i = .int .i64 k ∧ k ≤ n ∧ s = .int .i64 (sumS (T.take k)) ∧ Hid (Below w1.heap.size w1 wr)) (fun _ i _ => n - (intOf i).toNat)
  case atStart => exact ⟨0, rfl, Nat.zero_le _, rfl, Lib.hid (Below.refl _ _)⟩
  case round =>
    obtain ⟨k, rfl, hk, rfl, HBk⟩ := hrel
    by_cases hlt : k < n
    · obtain ⟨b, off, rfl, hblt, hc⟩ := SRow.at (HR.out.mono HBk.out) k hlt
      obtain ⟨hc0, hc1⟩ := hc k hlt
      have hkT : k < T.length := by rw [← HN.out]; exact hlt
      obtain ⟨m0, m1, m2⟩ := HT.out (T.getD k (0, 0)) (by simp [List.getD, hkT])
      have hsn := sumS_snoc (T.take k) (T.getD k (0, 0))
      rw [← take_succ_getD T k hkT] at hsn
      have hbd := sumS_bd (T.take k) (fun x hx => by have := HT.out x (List.mem_of_mem_take hx); omega)
      have hl2 : ((T.take k).length : Int) ≤ 1000000 := by rw [List.length_take]; omega
      have hs2 : sumS (T.take k) ≤ 1000000000000000 := by omega
      have hs1 := hbd.1
      obtain ⟨x, y, hxy⟩ : ∃ x y, T.getD k (0, 0) = (x, y) := ⟨_, _, rfl⟩
      rw [hxy] at hc0 hc1 hsn m0 m1 m2
      simp only at hc0 hc1 hsn m0 m1 m2
      have HSN := Lib.hid hsn
      clear hc hxy hsn hbd hl2
      generalize sumS (T.take k) = s at *
      go_wp2
      go_roundw
      case rel => exact ⟨k + 1, by go_num, by omega, by rw [HSN.out], Lib.hid (HBk.out.alloc (by exact HBk.out.size) _)⟩
      case measure => simp [intOf]; omega
    · obtain rfl : k = n := by omega
      rw [show T.take k = T from by rw [HN.out]; exact List.take_length]
      go_wp2
      go_ret
      exact ⟨rfl, HB.out.trans (HBk.out.mono HB.out.size)⟩

/-- The first number that is not in. -/
def uptoS : List (Int × Int) → Int → Int
  | [], at_ => at_
  | x :: L, at_ => if x.1 ≤ at_ ∧ at_ < x.2 then x.2 else uptoS L at_

set_option maxHeartbeats 1000000 in
theorem upto_any (pv : Option Addr) (T : List (Int × Int)) (at_ : Int) (w : World) (h : SetV w pv T) (hn : T.length ≤ 1000000) :
    Calls Try.prog 12 #[.pointer pv, .int .i64 at_] w fun e w' => e = .returned (.int .i64 (uptoS T at_)) ∧ Below w.heap.size w w' := by
  have HA := Lib.hid (all_any pv T w h hn)
  obtain ⟨n, hnn⟩ : ∃ n, n = T.length := ⟨_, rfl⟩
  have HN := Lib.hid hnn
  rw [← hnn] at hn
  clear h hnn
  go_enter Try.func12, Try.ntmps12
  go_wp2_with fail
  refine HA.out.mono ?_
  rintro e w1 ⟨v, rfl, hO, hb⟩
  obtain ⟨a, c, rfl, hr, _⟩ := Row.of_owns hO
  rw [← HN.out] at hr ⊢
  have HR := Lib.hid hr
  have HB := Lib.hid hb
  clear hO hr hb
  go_wp2
  go_loopw [10] (fun i wr => ∃ k : Nat, i = .int .i64 k ∧ k ≤ n ∧ Hid (uptoS T at_ = uptoS (T.drop k) at_) ∧ Hid (Below w1.heap.size w1 wr)) (fun i _ => n - (intOf i).toNat)
  case atStart => exact ⟨0, rfl, Nat.zero_le _, Lib.hid rfl, Lib.hid (Below.refl _ _)⟩
  case round =>
    obtain ⟨k, rfl, hk, HU, HBk⟩ := hrel
    by_cases hlt : k < n
    · obtain ⟨b, off, rfl, hblt, hc⟩ := SRow.at (HR.out.mono HBk.out) k hlt
      obtain ⟨hc0, hc1⟩ := hc k hlt
      have hkT : k < T.length := by rw [← HN.out]; exact hlt
      have hu := HU.out
      rw [drop_cons hkT] at hu
      obtain ⟨x, y, hxy⟩ : ∃ x y, T.getD k (0, 0) = (x, y) := ⟨_, _, rfl⟩
      rw [hxy] at hc0 hc1 hu
      simp only [uptoS] at hc0 hc1 hu
      have HU2 := Lib.hid hu
      clear hc hxy hu
      by_cases c1 : x ≤ at_
      · by_cases c2 : at_ < y
        · go_wp2
          go_ret
          exact ⟨ret_int (by rw [HU2.out, if_pos ⟨c1, c2⟩]), HB.out.trans ((HBk.out.alloc (by exact HBk.out.size) _).mono HB.out.size)⟩
        · go_wp2
          go_roundw
          case rel => exact ⟨k + 1, by go_num, by omega, Lib.hid (by rw [HU2.out, if_neg (by omega)]), Lib.hid (HBk.out.alloc (by exact HBk.out.size) _)⟩
          case measure => simp [intOf]; omega
      · have hd : decide (x ≤ at_) = false := by simpa using c1
        go_wp2
        go_roundw
        case rel => exact ⟨k + 1, by go_num, by omega, Lib.hid (by rw [HU2.out, if_neg (by omega)]), Lib.hid (HBk.out.alloc (by exact HBk.out.size) _)⟩
        case measure => simp [intOf]; omega
    · obtain rfl : k = n := by omega
      have hu := HU.out
      rw [show T.drop k = [] from by rw [HN.out]; exact List.drop_length] at hu
      have HU2 := Lib.hid hu
      clear hu
      go_wp2
      go_ret
      exact ⟨ret_int (by rw [HU2.out]; rfl), HB.out.trans (HBk.out.mono HB.out.size)⟩
end Go.Proofs.Ytimeacigbacadaa
