/-
  Our texts Dr1 to ArgsZ, in one.
-/
import Derived.Test.YtngjbhejfojpbaaGreatPkK9
import Derived.BigQuiet
import Derived.Deep.RegionHeld3
import Derived.Deep.QuietTactic
import Derived.Deep.RegionHeldLaw
import Derived.Test.YtngjbhejfojpbaaGreatProg
import Derived.ChangeSlices
set_option maxRecDepth 8000
set_option maxHeartbeats 8000000
namespace Go.Proofs.YtngjbhejfojpbaaGreat
open Go.RowKit
def prV : List (Nat × Nat) → List Value
 | [] => []
 | (s, v) :: l => .int .i64 s :: .int .i64 v :: prV l
theorem zbG : ∀ a b, prV (a ++ b) = prV a ++ prV b
 | [], _ => rfl
 | (s, v) :: a, b => by simp only [List.cons_append, prV, zbG a b]
theorem prV_at : ∀ (l : List (Nat × Nat)) (i : Nat) (s v : Nat), l[i]? = some (s, v) → (prV l)[i * 2]? = some (.int .i64 s) ∧ (prV l)[i * 2 + 1]? = some (.int .i64 v)
 | [], i, s, v, h => by simp at h
 | (a, b) :: l, 0, s, v, h => by
   have h : (a, b) = (s, v) := by simpa using h
   cases h
   exact ⟨rfl, rfl⟩
 | (a, b) :: l, i + 1, s, v, h => by
   have := prV_at l i s v (by simpa using h)
   rw [show (i + 1) * 2 = i * 2 + 1 + 1 from by omega]
   simpa [prV] using this
theorem zbz (w : World) (x y : Value) (e : TypeId) : Row (w.alloc (.cells #[x, y] e)) 2 (some ⟨w.heap.size, 0, none⟩) 1 1 [x, y] :=
 ⟨rfl, Nat.le_refl _, by simp [maxLen], fun h => (by cases h), fun _ => ⟨w.heap.size, 0, rfl, by rw [zae]; omega, fun j u hj => by
   rw [Nat.zero_add, cell_of_row _ _ _ _ _ _ (zah _ rfl)]; simpa using hj⟩⟩
theorem one2 {x y : Value} (hx : x.oneCell' = true) (hy : y.oneCell' = true) : ∀ u ∈ [x, y], u.oneCell' = true := by
 intro u hu
 simp at hu
 rcases hu with rfl | rfl
 · exact hx
 · exact hy
theorem ERun : zcJ Tryz.prog 85 89 (.agg #[.int .i64 0, .int .i64 0]) 2 16 := ⟨Tryz.underlying85, by kernel_rfl, rfl, by omega⟩
theorem zd3 (x g : Nat) : zaE x g 0 = [] := by cases g <;> simp [zaE]
def RunEnd (w : World) (l : List (Nat × Nat)) (e : Ending) (w' : World) : Prop := Below w.heap.size w w' ∧ ∃ v, e = .returned v ∧ w'.ownsRow w.heap.size 89 2 v l.length (prV l)
def RunI (w wr : World) (x n m : Nat) (v : Value) : Prop := ∃ (g : Nat) (d : List (Nat × Nat)), m ≤ g ∧ d ++ zaE x g m = runR x n ∧ d.length + m ≤ n ∧ Below w.heap.size w wr ∧ wr.ownsRow w.heap.size 89 2 v d.length (prV d)
theorem run_any (w : World) (x n : Nat) (hx : x ≤ 15) (hn : 1 ≤ n) (hn2 : n ≤ 100000) : Calls Tryz.prog 71 #[.int .i64 x, .int .i64 n] w (RunEnd w (runR x n)) := by
 go_enter Tryz.func71, Tryz.ntmps71
 by_cases hx0 : 0 < x
 · have d1 : decide ((x : Int) > 0) = true := decide_eq_true (by omega)
   go_wp2_with (at_builtin; refine zan ERun rfl (.tmp 9) (.tmp 12) rfl w.heap.size _ 0 _ rfl ((World.ownsRow_nil w _ _ _).alloc _) _ 1 1 _ rfl (zbz _ _ _ _) (one2 rfl rfl) (by unfold maxLen; omega) (by omega) (by rw [zae]; omega) ?_; intro v1 w1 hO1 hg1 hnil1; have HO1 := Lib.hid hO1; have HG1 := Lib.hid hg1; clear hO1 hg1 hnil1)
   have HSTART := Lib.hid (show RunI w w1 x n (n - 1) v1 from by
     refine ⟨n, [(x, 0)], by omega, by unfold runR; rw [if_pos hx0]; rfl, by simp; omega, (zam w _).grown HG1.out (by rw [zae]; omega) (fun k hk => by cases hk), ?_⟩
     have h := HO1.out
     simpa [prV] using h)
   have HST : ∃ m : Nat, Value.int .i64 ((n : Int) - 1) = .int .i64 m ∧ Hid (RunI w w1 x n m v1) := ⟨n - 1, by rw [show ((n - 1 : Nat) : Int) = (n : Int) - 1 from by omega], HSTART⟩
   clear HO1 HG1 HSTART
   have HSTART := HST
   clear HST
   go_wp2_with fail
   go_loopw [1, 5, 6] (fun vn v vk wr => ∃ m : Nat, vn = .int .i64 m ∧ Hid (RunI w wr x n m v)) (fun vn _ _ _ => (intOf vn).toNat)
   case atStart => exact HSTART
   case round =>
     obtain ⟨m, rfl, HI⟩ := hrel
     obtain ⟨g0, d, hg0, hde, hdl, hb, ho⟩ := HI.out
     have HB := Lib.hid hb
     have HO := Lib.hid ho
     have HVR := Lib.hid (show ∀ k, u5.ownBlock = some k → w.heap.size ≤ k ∧ k < wr.heap.size from ho.lt)
     clear hb ho HI
     by_cases hm : 0 < m
     case neg =>
       obtain rfl : m = 0 := by omega
       have dm : decide (((0 : Nat) : Int) > 0) = false := by decide
       have HEND := Lib.hid (show RunEnd w (runR x n) (.returned u5) wr from by
         rw [zd3, List.append_nil] at hde
         rw [← hde]
         exact ⟨HB.out, u5, rfl, HO.out⟩)
       clear hde HB HO HVR
       go_wp2_with fail
       go_ret
       exact HEND.out
     have dm : decide ((m : Int) > 0) = true := decide_eq_true (by omega)
     obtain ⟨g, rfl⟩ : ∃ g, g0 = g + 1 := ⟨g0 - 1, by omega⟩
     have HDE := Lib.hid hde
     have dx : ((x : Int) == 0) = false := by simp; omega
     have dxc : decide ((x : Int) = 0) = false := decide_eq_false (by omega)
     by_cases h3 : 3 ≤ m
     · have d3 : decide ((m : Int) ≥ 3) = true := decide_eq_true (by omega)
       by_cases hc : 6 < m
       · have hci : (6 : Int) < (m : Int) := by omega
         have hmn : min (m : Int) 6 = 6 := by omega
         have HMR := Lib.hid (show zaE x (g + 1) m = (16, 3) :: zaE x g (m - 6) from by
           rw [zaE, if_neg (by omega), if_neg (by omega), if_neg (by omega), if_pos ⟨by omega, h3⟩, Nat.min_eq_right (by omega)])
         clear hde
         go_wp2_with (at_builtin; refine zan ERun rfl (.tmp 61) (.tmp 65) rfl w.heap.size _ d.length _ rfl (HO.out.alloc _) _ 1 1 _ rfl (zbz _ _ _ _) (one2 rfl rfl) (by unfold maxLen; omega) (by omega) (by rw [zae]; have := HB.out.size; omega) ?_; intro v5 w5 hO5 hg5 hnil5; have HO5 := Lib.hid hO5; have HG5 := Lib.hid hg5; clear hO5 hg5 hnil5)
         have HNX := Lib.hid (show RunI w w5 x n (m - 6) v5 from by
           refine ⟨g, d ++ [(16, 3)], by omega, by rw [List.append_assoc, List.singleton_append, ← HMR.out]; exact HDE.out, by rw [List.length_append, List.length_singleton]; omega, (HB.out.alloc HB.out.size _).grown HG5.out (by rw [zae]; have := HB.out.size; omega) (fun k hk => (HVR.out k hk).1), ?_⟩
           rw [List.length_append, List.length_singleton, zbG]
           have h := HO5.out
           simpa [prV] using h)
         clear HO5 HG5
         go_wp2_with fail
         go_roundw
         case rel => exact ⟨m - 6, by go_num, HNX⟩
         case measure => simp [intOf]; omega
       · have hci : ¬ (6 : Int) < (m : Int) := by omega
         have hmn : min (m : Int) 6 = (m : Int) := by omega
         have hcast : ((m - 3 : Nat) : Int) = (m : Int) - 3 := by omega
         have HCAST := Lib.hid hcast
         clear hcast
         have HMR := Lib.hid (show zaE x (g + 1) m = (16, m - 3) :: zaE x g (0) from by
           rw [zaE, if_neg (by omega), if_neg (by omega), if_neg (by omega), if_pos ⟨by omega, h3⟩, Nat.min_eq_left (by omega), Nat.sub_self])
         clear hde
         go_wp2_with (at_builtin; refine zan ERun rfl (.tmp 61) (.tmp 65) rfl w.heap.size _ d.length _ rfl (HO.out.alloc _) _ 1 1 _ rfl (zbz _ _ _ _) (one2 rfl rfl) (by unfold maxLen; omega) (by omega) (by rw [zae]; have := HB.out.size; omega) ?_; intro v5 w5 hO5 hg5 hnil5; have HO5 := Lib.hid hO5; have HG5 := Lib.hid hg5; clear hO5 hg5 hnil5)
         have HNX := Lib.hid (show RunI w w5 x n (0) v5 from by
           refine ⟨g, d ++ [(16, m - 3)], by omega, by rw [List.append_assoc, List.singleton_append, ← HMR.out]; exact HDE.out, by rw [List.length_append, List.length_singleton]; omega, (HB.out.alloc HB.out.size _).grown HG5.out (by rw [zae]; have := HB.out.size; omega) (fun k hk => (HVR.out k hk).1), ?_⟩
           rw [List.length_append, List.length_singleton, zbG]
           have h := HO5.out
           simpa [prV, HCAST.out] using h)
         clear HO5 HG5
         go_wp2_with fail
         go_roundw
         case rel => exact ⟨0, by go_num, HNX⟩
         case measure => simp [intOf]; omega
     have d3 : decide ((m : Int) ≥ 3) = false := decide_eq_false (by omega)
     have d3b : ¬ 3 ≤ m := h3
     have HMR := Lib.hid (show zaE x (g + 1) m = (x, 0) :: zaE x g (m - 1) from by
       rw [zaE, if_neg (by omega), if_neg (by omega), if_neg (by omega), if_neg (by omega)])
     clear hde
     go_wp2_with (at_builtin; refine zan ERun rfl (.tmp 18) (.tmp 21) rfl w.heap.size _ d.length _ rfl (HO.out.alloc _) _ 1 1 _ rfl (zbz _ _ _ _) (one2 rfl rfl) (by unfold maxLen; omega) (by omega) (by rw [zae]; have := HB.out.size; omega) ?_; intro v5 w5 hO5 hg5 hnil5; have HO5 := Lib.hid hO5; have HG5 := Lib.hid hg5; clear hO5 hg5 hnil5)
     have HNX := Lib.hid (show RunI w w5 x n (m - 1) v5 from by
       refine ⟨g, d ++ [(x, 0)], by omega, by rw [List.append_assoc, List.singleton_append, ← HMR.out]; exact HDE.out, by rw [List.length_append, List.length_singleton]; omega, (HB.out.alloc HB.out.size _).grown HG5.out (by rw [zae]; have := HB.out.size; omega) (fun k hk => (HVR.out k hk).1), ?_⟩
       rw [List.length_append, List.length_singleton, zbG]
       have h := HO5.out
       simpa [prV] using h)
     clear HO5 HG5
     go_wp2_with fail
     go_roundw
     case rel => exact ⟨m - 1, by go_num, HNX⟩
     case measure => simp [intOf]; omega
 · have HX0 := Lib.hid (show x = 0 from by omega)
   have d1 : decide ((x : Int) > 0) = false := decide_eq_false (by omega)
   have d1b : ¬ (0 < (x : Int)) := by omega
   have dx : ((x : Int) == 0) = true := by rw [HX0.out]; rfl
   have dxc : decide ((x : Int) = 0) = true := decide_eq_true (by omega)
   have HSTART : ∃ m : Nat, Value.int .i64 (n : Int) = .int .i64 m ∧ Hid (RunI w w x n m (.slice none 0 0)) := ⟨n, rfl, Lib.hid ⟨n, [], by omega, by unfold runR; rw [if_neg hx0]; rfl, by simp, Below.refl _ _, World.ownsRow_nil _ _ _ _⟩⟩
   clear hx0 hx
   go_wp2_with fail
   go_loopw [1, 5, 6] (fun vn v vk wr => ∃ m : Nat, vn = .int .i64 m ∧ Hid (RunI w wr x n m v)) (fun vn _ _ _ => (intOf vn).toNat)
   case atStart => exact HSTART
   case round =>
     obtain ⟨m, rfl, HI⟩ := hrel
     obtain ⟨g0, d, hg0, hde, hdl, hb, ho⟩ := HI.out
     have HB := Lib.hid hb
     have HO := Lib.hid ho
     have HVR := Lib.hid (show ∀ k, u5.ownBlock = some k → w.heap.size ≤ k ∧ k < wr.heap.size from ho.lt)
     clear hb ho HI
     by_cases hm : 0 < m
     case neg =>
       obtain rfl : m = 0 := by omega
       have dm : decide (((0 : Nat) : Int) > 0) = false := by decide
       have HEND := Lib.hid (show RunEnd w (runR x n) (.returned u5) wr from by
         rw [zd3, List.append_nil] at hde
         rw [← hde]
         exact ⟨HB.out, u5, rfl, HO.out⟩)
       clear hde HB HO HVR
       go_wp2_with fail
       go_ret
       exact HEND.out
     have dm : decide ((m : Int) > 0) = true := decide_eq_true (by omega)
     obtain ⟨g, rfl⟩ : ∃ g, g0 = g + 1 := ⟨g0 - 1, by omega⟩
     have HDE := Lib.hid hde
     by_cases h11 : 11 ≤ m
     · have d11 : decide ((m : Int) ≥ 11) = true := decide_eq_true (by omega)
       by_cases hc : 138 < m
       · have hci : (138 : Int) < (m : Int) := by omega
         have hmn : min (m : Int) 138 = 138 := by omega
         have HMR := Lib.hid (show zaE x (g + 1) m = (18, 127) :: zaE x g (m - 138) from by
           rw [zaE, if_neg (by omega), if_pos ⟨HX0.out, h11⟩, Nat.min_eq_right (by omega)])
         clear hde
         go_wp2_with (at_builtin; refine zan ERun rfl (.tmp 32) (.tmp 36) rfl w.heap.size _ d.length _ rfl (HO.out.alloc _) _ 1 1 _ rfl (zbz _ _ _ _) (one2 rfl rfl) (by unfold maxLen; omega) (by omega) (by rw [zae]; have := HB.out.size; omega) ?_; intro v5 w5 hO5 hg5 hnil5; have HO5 := Lib.hid hO5; have HG5 := Lib.hid hg5; clear hO5 hg5 hnil5)
         have HNX := Lib.hid (show RunI w w5 x n (m - 138) v5 from by
           refine ⟨g, d ++ [(18, 127)], by omega, by rw [List.append_assoc, List.singleton_append, ← HMR.out]; exact HDE.out, by rw [List.length_append, List.length_singleton]; omega, (HB.out.alloc HB.out.size _).grown HG5.out (by rw [zae]; have := HB.out.size; omega) (fun k hk => (HVR.out k hk).1), ?_⟩
           rw [List.length_append, List.length_singleton, zbG]
           have h := HO5.out
           simpa [prV] using h)
         clear HO5 HG5
         go_wp2_with fail
         go_roundw
         case rel => exact ⟨m - 138, by go_num, HNX⟩
         case measure => simp [intOf]; omega
       · have hci : ¬ (138 : Int) < (m : Int) := by omega
         have hmn : min (m : Int) 138 = (m : Int) := by omega
         have hcast : ((m - 11 : Nat) : Int) = (m : Int) - 11 := by omega
         have HCAST := Lib.hid hcast
         clear hcast
         have HMR := Lib.hid (show zaE x (g + 1) m = (18, m - 11) :: zaE x g (0) from by
           rw [zaE, if_neg (by omega), if_pos ⟨HX0.out, h11⟩, Nat.min_eq_left (by omega), Nat.sub_self])
         clear hde
         go_wp2_with (at_builtin; refine zan ERun rfl (.tmp 32) (.tmp 36) rfl w.heap.size _ d.length _ rfl (HO.out.alloc _) _ 1 1 _ rfl (zbz _ _ _ _) (one2 rfl rfl) (by unfold maxLen; omega) (by omega) (by rw [zae]; have := HB.out.size; omega) ?_; intro v5 w5 hO5 hg5 hnil5; have HO5 := Lib.hid hO5; have HG5 := Lib.hid hg5; clear hO5 hg5 hnil5)
         have HNX := Lib.hid (show RunI w w5 x n (0) v5 from by
           refine ⟨g, d ++ [(18, m - 11)], by omega, by rw [List.append_assoc, List.singleton_append, ← HMR.out]; exact HDE.out, by rw [List.length_append, List.length_singleton]; omega, (HB.out.alloc HB.out.size _).grown HG5.out (by rw [zae]; have := HB.out.size; omega) (fun k hk => (HVR.out k hk).1), ?_⟩
           rw [List.length_append, List.length_singleton, zbG]
           have h := HO5.out
           simpa [prV, HCAST.out] using h)
         clear HO5 HG5
         go_wp2_with fail
         go_roundw
         case rel => exact ⟨0, by go_num, HNX⟩
         case measure => simp [intOf]; omega
     have d11 : decide ((m : Int) ≥ 11) = false := decide_eq_false (by omega)
     have d11b : ¬ 11 ≤ m := h11
     by_cases h3 : 3 ≤ m
     · have d3 : decide ((m : Int) ≥ 3) = true := decide_eq_true (by omega)
       have hcast : ((m - 3 : Nat) : Int) = (m : Int) - 3 := by omega
       have HCAST := Lib.hid hcast
       clear hcast
       have HMR := Lib.hid (show zaE x (g + 1) m = (17, m - 3) :: zaE x g (0) from by
         rw [zd3]; rw [zaE, if_neg (by omega), if_neg (by omega), if_pos ⟨HX0.out, h3⟩])
       clear hde
       go_wp2_with (at_builtin; refine zan ERun rfl (.tmp 46) (.tmp 50) rfl w.heap.size _ d.length _ rfl (HO.out.alloc _) _ 1 1 _ rfl (zbz _ _ _ _) (one2 rfl rfl) (by unfold maxLen; omega) (by omega) (by rw [zae]; have := HB.out.size; omega) ?_; intro v5 w5 hO5 hg5 hnil5; have HO5 := Lib.hid hO5; have HG5 := Lib.hid hg5; clear hO5 hg5 hnil5)
       have HNX := Lib.hid (show RunI w w5 x n (0) v5 from by
         refine ⟨g, d ++ [(17, m - 3)], by omega, by rw [List.append_assoc, List.singleton_append, ← HMR.out]; exact HDE.out, by rw [List.length_append, List.length_singleton]; omega, (HB.out.alloc HB.out.size _).grown HG5.out (by rw [zae]; have := HB.out.size; omega) (fun k hk => (HVR.out k hk).1), ?_⟩
         rw [List.length_append, List.length_singleton, zbG]
         have h := HO5.out
         simpa [prV, HCAST.out] using h)
       clear HO5 HG5
       go_wp2_with fail
       go_roundw
       case rel => exact ⟨0, by go_num, HNX⟩
       case measure => simp [intOf]; omega
     have d3 : decide ((m : Int) ≥ 3) = false := decide_eq_false (by omega)
     have d3b : ¬ 3 ≤ m := h3
     have HMR := Lib.hid (show zaE x (g + 1) m = (x, 0) :: zaE x g (m - 1) from by
       rw [zaE, if_neg (by omega), if_neg (by omega), if_neg (by omega), if_neg (by omega)])
     clear hde
     go_wp2_with (at_builtin; refine zan ERun rfl (.tmp 18) (.tmp 21) rfl w.heap.size _ d.length _ rfl (HO.out.alloc _) _ 1 1 _ rfl (zbz _ _ _ _) (one2 rfl rfl) (by unfold maxLen; omega) (by omega) (by rw [zae]; have := HB.out.size; omega) ?_; intro v5 w5 hO5 hg5 hnil5; have HO5 := Lib.hid hO5; have HG5 := Lib.hid hg5; clear hO5 hg5 hnil5)
     have HNX := Lib.hid (show RunI w w5 x n (m - 1) v5 from by
       refine ⟨g, d ++ [(x, 0)], by omega, by rw [List.append_assoc, List.singleton_append, ← HMR.out]; exact HDE.out, by rw [List.length_append, List.length_singleton]; omega, (HB.out.alloc HB.out.size _).grown HG5.out (by rw [zae]; have := HB.out.size; omega) (fun k hk => (HVR.out k hk).1), ?_⟩
       rw [List.length_append, List.length_singleton, zbG]
       have h := HO5.out
       simpa [prV] using h)
     clear HO5 HG5
     go_wp2_with fail
     go_roundw
     case rel => exact ⟨m - 1, by go_num, HNX⟩
     case measure => simp [intOf]; omega
def badR (x : Int) : Bool := decide (x < 0) || decide (15 < x)
theorem runs1_any (x : Int) (w : World) : Calls Tryz.prog 70 #[.int .i64 x] w fun e w' => e = .returned (.bool (badR x)) ∧ w' = w := by
 by_cases h1 : x < 0
 · have d1 : decide (x < 0) = true := decide_eq_true h1
   have hb : badR x = true := by unfold badR; rw [d1]; rfl
   rw [hb]
   go_enter Tryz.func70, Tryz.ntmps70
   go_wp2
   go_ret
   exact ⟨rfl, rfl⟩
 · have d1 : decide (x < 0) = false := decide_eq_false h1
   by_cases h2 : 15 < x
   · have d2 : decide (x > 15) = true := decide_eq_true h2
     have hb : badR x = true := by unfold badR; rw [d1, decide_eq_true h2]; rfl
     rw [hb]
     go_enter Tryz.func70, Tryz.ntmps70
     go_wp2
     go_ret
     exact ⟨rfl, rfl⟩
   · have d2 : decide (x > 15) = false := decide_eq_false h2
     have hb : badR x = false := by unfold badR; rw [d1, decide_eq_false h2]; rfl
     rw [hb]
     go_enter Tryz.func70, Tryz.ntmps70
     go_wp2
     go_ret
     exact ⟨rfl, rfl⟩
theorem contains_any {P : Int → Bool} (hf : ∀ x W, Calls Tryz.prog 70 #[.int .i64 x] W fun e w' => e = .returned (.bool (P x)) ∧ w' = W) {w : World} {a : Option Addr} {n cap : Nat} {l : List Int} (hr : Row w 1 a n cap (l.map fun x => .int .i64 x)) :
   Calls Tryz.prog 69 #[.slice a n cap, .func (.func 70) #[] #[]] w fun e w' => e = .returned (.bool (l.any P)) ∧ w' = w := by
 have hl := hr.len1
 have hn64 := hr.i64
 have hni : (n : Int) ≤ 9223372036854775807 := hn64
 have HR := Lib.hid hr
 have HF := Lib.hid hf
 have HL := Lib.hid hl
 clear hr hf hl
 have HI : Calls Tryz.prog 86 #[.slice a n cap, .func (.func 70) #[] #[]] w fun e w' => w' = w ∧ ((∃ i : Nat, e = .returned (.int .i64 i) ∧ l.any P = true) ∨ (e = .returned (.int .i64 (-1)) ∧ l.any P = false)) := by
   go_enter Tryz.func86, Tryz.ntmps86
   go_wp2_with fail
   go_loopw [8] (fun v wr => ∃ j : Nat, v = .int .i64 j ∧ j ≤ n ∧ wr = w ∧ Hid ((l.take j).any P = false)) (fun v _ => n - (intOf v).toNat)
   case atStart => exact ⟨0, rfl, Nat.zero_le _, rfl, Lib.hid rfl⟩
   case round =>
     obtain ⟨j, rfl, hj, rfl, HA⟩ := hrel
     by_cases hlt : j < n
     case neg =>
       have hje : j = n := by omega
       subst hje
       have hcd : decide ((j : Int) < (j : Int)) = false := decide_eq_false (by omega)
       have HN := Lib.hid (show l.any P = false from by have h := HA.out; rwa [List.take_of_length_le (Nat.le_of_eq HL.out)] at h)
       go_wp2
       go_ret
       exact ⟨rfl, .inr ⟨rfl, HN.out⟩⟩
     have hcd : decide ((j : Int) < (n : Int)) = true := decide_eq_true (by omega)
     have hjl : (j : Int) < (n : Int) := by omega
     obtain ⟨bb, off, rfl, -, hcc⟩ := HR.out.at (0 : Int) 0 (by omega)
     have z0 := hcc j hlt
     have HX := Lib.hid (show l.getD j 0 ∈ l from by rw [List.getD_eq_getElem?_getD, List.getElem?_eq_getElem (by rw [HL.out]; exact hlt)]; exact List.getElem_mem _)
     have HS := Lib.hid (show l.take (j + 1) = l.take j ++ [l.getD j 0] from by
       rw [List.take_add_one, List.getD_eq_getElem?_getD, List.getElem?_eq_getElem (by rw [HL.out]; exact hlt)]; rfl)
     clear hcc
     generalize l.getD j 0 = x at z0 HX HS
     have HC := Lib.hid (HF.out x wr)
     by_cases hP : P x = true
     · rw [hP] at HC
       have HT := Lib.hid (show l.any P = true from List.any_eq_true.2 ⟨x, HX.out, hP⟩)
       clear hP
       go_wp2_with fail
       refine HC.out.mono ?_
       rintro e w1 ⟨rfl, rfl⟩
       go_wp2
       go_ret
       exact ⟨rfl, .inl ⟨j, rfl, HT.out⟩⟩
     · have hP2 : P x = false := by simpa using hP
       rw [hP2] at HC
       have HT := Lib.hid (show (l.take (j + 1)).any P = false from by rw [HS.out, List.any_append, HA.out]; simp [hP2])
       clear hP hP2
       go_wp2_with fail
       refine HC.out.mono ?_
       rintro e w1 ⟨rfl, rfl⟩
       go_wp2_with fail
       go_roundw
       case rel => exact ⟨j + 1, by go_num, by omega, by trivial, HT⟩
       case measure => simp [intOf]; omega
 have HII := Lib.hid HI
 clear HI
 go_enter Tryz.func69, Tryz.ntmps69
 go_wp2_with fail
 refine HII.out.mono ?_
 rintro e w1 ⟨rfl, ⟨i, rfl, h⟩ | ⟨rfl, h⟩⟩
 · have hi0 : decide ((i : Int) ≥ 0) = true := decide_eq_true (by omega)
   have HH := Lib.hid h
   clear h
   go_wp2
   go_ret
   exact ⟨by rw [HH.out]; exact ret_bool hi0, rfl⟩
 · have HH := Lib.hid h
   clear h
   go_wp2
   go_ret
   exact ⟨by rw [HH.out]; rfl, rfl⟩
theorem zeC (w : World) (p q : Nat) : (w.drewN p).drewN q = w.drewN (p + q) := by simp [World.drewN, Nat.add_assoc]
def nV (L : List Nat) : List Value := L.map fun k : Nat => .int .i64 k
theorem alikeR_eq (x : Nat) : ∀ (l : List Nat) (k : Nat), k ≤ l.length → (∀ j, j < k → l.getD j 0 = x) → (k < l.length → l.getD k 0 ≠ x) → zca x l = k
 | [], k, h, _, _ => by
   obtain rfl : k = 0 := by simpa using h
   rfl
 | y :: l, 0, _, _, h3 => by
   have : y ≠ x := by simpa using h3 (by simp)
   unfold zca; rw [if_neg this]
 | y :: l, k + 1, h, h2, h3 => by
   have e : y = x := by simpa using h2 0 (by omega)
   unfold zca; rw [if_pos e, alikeR_eq x l k (by simpa using h) (fun j hj => by simpa using h2 (j + 1) (by omega)) (fun hk => by simpa using h3 (by simpa using hk))]
   omega
theorem zeJ {L : List Nat} {g i k : Nat} (hi : i < L.length) (hk : i + 1 + k ≤ L.length) (h2 : ∀ j, j < k → L.getD (i + 1 + j) 0 = L.getD i 0) (h3 : i + 1 + k < L.length → L.getD (i + 1 + k) 0 ≠ L.getD i 0) :
   zbe (g + 1) (L.drop i) = runR (L.getD i 0) (1 + k) ++ zbe g (L.drop (i + 1 + k)) := by
 have e : L.drop i = L.getD i 0 :: L.drop (i + 1) := by
   rw [List.drop_eq_getElem_cons hi, List.getD_eq_getElem?_getD, List.getElem?_eq_getElem hi]; rfl
 have gd : ∀ j, (L.drop (i + 1)).getD j 0 = L.getD (i + 1 + j) 0 := fun j => by
   rw [List.getD_eq_getElem?_getD, List.getElem?_drop, ← List.getD_eq_getElem?_getD]
 have ha := alikeR_eq (L.getD i 0) (L.drop (i + 1)) k (by rw [List.length_drop]; omega) (fun j hj => by rw [gd]; exact h2 j hj) (fun h => by rw [gd]; rw [List.length_drop] at h; exact h3 (by omega))
 rw [e, zbe, ha, List.drop_drop]
theorem runR_len {x n : Nat} (hx : x ≤ 15) (hn : 0 < n) : (runR x n).length ≤ n := by
 have h := zbL _ (runR_back hx hn [])
 simpa using h
theorem prV_one : ∀ l, ∀ u ∈ prV l, u.oneCell' = true
 | [], u, h => by cases h
 | (s, v) :: l, u, h => by
   simp only [prV, List.mem_cons] at h
   rcases h with rfl | rfl | h
   · rfl
   · rfl
   · exact prV_one l u h
def RunsI (w wr : World) (L : List Nat) (i : Nat) (v : Value) : Prop := ∃ (g : Nat) (d : List (Nat × Nat)), L.length - i ≤ g ∧ d ++ zbe g (L.drop i) = zbe L.length L ∧ d.length ≤ i ∧ Below w.heap.size w wr ∧ wr.ownsRow w.heap.size 89 2 v d.length (prV d)
theorem runs_fine {w : World} {a : Option Addr} {n cap : Nat} {L : List Nat} (hr : Row w 1 a n cap (nV L)) (hn : n ≤ 316) (hL : ∀ x ∈ L, x ≤ 15) : Calls Tryz.prog 43 #[.slice a n cap] w (RunEnd w (zbe L.length L)) := by
 have hl : L.length = n := by have := hr.1; simpa [nV] using this
 have hr2 : Row w 1 a n cap ((L.map fun k : Nat => (k : Int)).map fun x => .int .i64 x) := by rw [List.map_map]; exact hr
 have hbad : (L.map fun k : Nat => (k : Int)).any badR = false := by
   rw [List.any_eq_false]
   intro x hx
   obtain ⟨k, hk, rfl⟩ := List.mem_map.1 hx
   have := hL k hk
   unfold badR
   simp; omega
 have HC := Lib.hid (contains_any (fun x W => runs1_any x W) hr2)
 rw [hbad] at HC
 have HR := Lib.hid hr
 have HL := Lib.hid hl
 have HL15 := Lib.hid (show ∀ j, L.getD j 0 ≤ 15 from fun j => by
   by_cases hj : j < L.length
   · rw [List.getD_eq_getElem?_getD, List.getElem?_eq_getElem hj]; exact hL _ (List.getElem_mem _)
   · rw [List.getD_eq_getElem?_getD, List.getElem?_eq_none (by omega)]; exact Nat.zero_le _)
 have d1 : decide ((n : Int) > 316) = false := decide_eq_false (by omega)
 have hcapm := hr.2.2.1
 have hcapn := hr.2.1
 unfold maxLen at hcapm
 clear hr hl hr2 hbad hL
 go_enter Tryz.func43, Tryz.ntmps43
 go_wp2_with fail
 refine HC.out.mono ?_
 rintro e w1 ⟨rfl, rfl⟩
 go_wp2_with fail
 go_loopw [3, 4, 5] (fun v vi vn wr => ∃ i : Nat, vi = .int .i64 i ∧ i ≤ n ∧ Hid (RunsI w1 wr L i v)) (fun _ vi _ _ => n - (intOf vi).toNat)
 case atStart => exact ⟨0, rfl, Nat.zero_le _, Lib.hid ⟨L.length, [], by omega, rfl, Nat.le_refl _, Below.refl _ _, World.ownsRow_nil _ _ _ _⟩⟩
 case round =>
   obtain ⟨i, rfl, hi, HI⟩ := hrel
   by_cases hin : i < n
   case neg =>
     have hie : i = n := by omega
     subst hie
     have hd : decide ((i : Int) < (i : Int)) = false := decide_eq_false (by omega)
     have HEND := Lib.hid (show RunEnd w1 (zbe L.length L) (.returned u3) wr from by
       obtain ⟨g, d, -, hd, -, hb, ho⟩ := HI.out
       rw [List.drop_of_length_le (Nat.le_of_eq HL.out), show zbe g [] = [] by cases g <;> rfl, List.append_nil] at hd
       rw [← hd]
       exact ⟨hb, _, rfl, ho⟩)
     clear HI
     go_wp2_with fail
     go_ret
     exact HEND.out
   have hd : decide ((i : Int) < (n : Int)) = true := decide_eq_true (by omega)
   obtain ⟨W0, hW0⟩ : ∃ W0, W0 = wr := ⟨_, rfl⟩
   subst hW0
   have HDW := Lib.hid (show ∀ q, RunsI w1 (W0.drewN q) L i u3 from fun q => by
     obtain ⟨g, d, h1, h2, h3, h4, h5⟩ := HI.out
     exact ⟨g, d, h1, h2, h3, za9 h4 q, h5⟩)
   have HRW := Lib.hid (show ∀ q, Row (W0.drewN q) 1 a n cap (nV L) from fun q => by
     obtain ⟨g, d, h1, h2, h3, h4, h5⟩ := HI.out
     exact HR.out.mono (za9 h4 q))
   clear HI
   go_wp2_with fail
   go_loopw [5] (fun vn wk => ∃ N : Nat, vn = .int .i64 N ∧ 1 ≤ N ∧ i + N ≤ n ∧ Hid (∀ j, j < N → L.getD (i + j) 0 = L.getD i 0) ∧ Hid (∃ q, wk = W0.drewN q)) (fun vn _ => n - (intOf vn).toNat)
   case atStart => exact ⟨1, rfl, by omega, by omega, Lib.hid (fun j hj => by rw [show j = 0 from by omega, Nat.add_zero]), Lib.hid ⟨0, rfl⟩⟩
   case round =>
     obtain ⟨N, rfl, hN1, hik, HK, HW⟩ := hrel
     obtain ⟨q, hq⟩ := HW.out
     have HRQ := Lib.hid (show Row wr 1 a n cap (nV L) from by rw [hq]; exact HRW.out q)
     have HIQ := Lib.hid (show ∀ q, RunsI w1 (wr.drewN q) L i u3 from fun q2 => by rw [hq, zeC]; exact HDW.out _)
     have HWQ := Lib.hid (show ∀ q2, ∃ q3, wr.drewN q2 = W0.drewN q3 from fun q2 => ⟨q + q2, by rw [hq]; exact zeC _ _ _⟩)
     clear hq HW
     obtain ⟨bb, off, rfl, -, hcc⟩ := HRQ.out.at (0 : Nat) 0 (by omega)
     obtain ⟨m, hm⟩ : ∃ m, m = i + N := ⟨_, rfl⟩
     have HM := Lib.hid hm
     have hzi := hcc i hin
     have hmi : (i : Int) + (N : Int) = (m : Int) := by omega
     by_cases hmn : m < n
     · have hmnd : decide ((m : Int) < (n : Int)) = true := decide_eq_true (by omega)
       have hmnb : (m : Int) < (n : Int) := by omega
       have hii : (i : Int) < (n : Int) := by omega
       have hzm := hcc m hmn
       by_cases heq : L.getD m 0 = L.getD i 0
       · have HEQ := Lib.hid heq
         have HK2 := Lib.hid (show ∀ j, j < N + 1 → L.getD (i + j) 0 = L.getD i 0 from fun j hj => by
           rcases Nat.lt_or_eq_of_le (Nat.le_of_lt_succ hj) with h1 | h1
           · exact HK.out j h1
           · rw [h1, ← HM.out]; exact HEQ.out)
         rw [heq] at hzm
         clear hcc hm heq
         generalize L.getD i 0 = x at hzi hzm HK2
         go_wp2_with fail
         go_quiet (fail)
         go_wp2_with fail
         go_roundw
         case rel => exact ⟨N + 1, by go_num, by omega, by have := HM.out; omega, HK2, Lib.hid (HWQ.out nq)⟩
         case measure => simp [intOf]; omega
       · have HX := Lib.hid (show m < n → L.getD m 0 ≠ L.getD i 0 from fun _ => heq)
         have HZ1 := Lib.hid (show ∀ q, (wr.drewN q).cell? ⟨bb, off + (m - 1), none⟩ = some (.int .i64 (L.getD i 0 : Nat)) from fun q => by
           have h := hcc (m - 1) (by omega)
           rw [show L.getD (m - 1) 0 = L.getD i 0 from by
             have h := HK.out (N - 1) (by omega)
             rw [show m - 1 = i + (N - 1) from by omega]; exact h] at h
           exact h)
         have hne : ¬ ((L.getD m 0 : Nat) : Int) = ((L.getD i 0 : Nat) : Int) := by omega
         clear hcc hm heq
         generalize hX : L.getD m 0 = y at hzm hne
         generalize hY : L.getD i 0 = x at hzi hne
         have d3 : decide ((y : Int) = (x : Int)) = false := decide_eq_false hne
         have d3b : ((y : Int) == (x : Int)) = false := d3
         have HXX := Lib.hid hX
         have HEQX := Lib.hid hY
         clear hX hY
         go_wp2_with fail
         go_quiet (fail)
         go_upto_region 9 with fail
         rw [← HEQX.out] at *
         clear hzi hzm hne d3 d3b HXX HEQX
         have HEQX := Lib.hid hmn
         obtain ⟨g0, d, hg, hde, hdl, hb, ho⟩ := HIQ.out nq
         obtain ⟨g, rfl⟩ : ∃ g, g0 = g + 1 := ⟨g0 - 1, by have := HL.out; omega⟩
         have HDE := Lib.hid (show (d ++ runR (L.getD i 0) N) ++ zbe g (L.drop m) = zbe L.length L from by
           have h := zeJ (L := L) (g := g) (i := i) (k := N - 1) (by rw [HL.out]; exact hin) (by rw [HL.out]; omega) (fun j hj => by
             have h := HK.out (j + 1) (by omega)
             rw [show i + 1 + j = i + (j + 1) from by omega]; exact h) (fun h => by
             rw [show i + 1 + (N - 1) = m from by have := HM.out; omega] at h ⊢
             exact HX.out (by rw [HL.out] at h; exact h))
           rw [show i + 1 + (N - 1) = m from by have := HM.out; omega, show 1 + (N - 1) = N from by omega] at h
           rw [← hde, List.append_assoc, h])
         have hgg : L.length - m ≤ g := by have := HM.out; omega
         have HB := Lib.hid hb
         have HO := Lib.hid ho
         have HVR := Lib.hid (show ∀ k, u3.ownBlock = some k → _ from ho.lt)
         have hdm : d.length + (runR (L.getD i 0) N).length ≤ m := by
           have h1 := runR_len (x := L.getD i 0) (n := N) (HL15.out i) hN1
           have := HM.out
           omega
         have HDM := Lib.hid hdm
         have hmle : m ≤ n := by have := HM.out; omega
         have HZ := Lib.hid (HZ1.out nq)
         have HRUN := Lib.hid (run_any (wr.drewN nq) (L.getD i 0) N (HL15.out i) hN1 (by omega))
         clear hde hb ho hg hdm HIQ HX hdl HZ1 HK
         generalize runR (L.getD i 0) N = R at HDE HDM HRUN
         generalize L.getD i 0 = x at HZ HRUN HEQX
         generalize wr.drewN nq = w4 at HB HO HVR HZ HRUN ⊢
         have z1 := HZ.out
         have hp1 : ((m - 1 : Nat) : Int) = (m : Int) - 1 := by have := HM.out; omega
         have hp2 : m - 1 < n := by have := HM.out; omega
         obtain ⟨p1, hp⟩ : ∃ p1, p1 = m - 1 := ⟨_, rfl⟩
         rw [← hp] at z1 hp1 hp2
         have hp3 : (m : Int) - 1 = (p1 : Int) := hp1.symm
         have hp4 : (p1 : Int) < (n : Int) := by omega
         have HP := Lib.hid hp
         clear hp hp1
         go_upto_region 10 with fail
         go_wp2_with fail
         refine HRUN.out.mono ?_
         rintro e w5 ⟨hb5, vR, rfl, hOR⟩
         obtain ⟨aR, cR, rfl, hRowR, -⟩ := Row.of_owns hOR
         have HO5 := Lib.hid (zaf HO.out hb5)
         have HB5 := Lib.hid (show Below w1.heap.size w1 w5 from HB.out.trans (hb5.mono HB.out.size))
         have HRR := Lib.hid hRowR
         have hs5 := hb5.size
         have hRl : R.length ≤ 316 := by have := HDM.out; omega
         have hdl : d.length ≤ 316 := by have := HDM.out; omega
         clear hb5 hOR hRowR HRUN HO z1
         go_wp2_with (at_builtin; refine zan ERun rfl (.tmp 41) (.tmp 48) rfl w1.heap.size _ d.length _ rfl HO5.out aR R.length cR _ rfl HRR.out (prV_one R) (by unfold maxLen; omega) (by omega) HB5.out.size ?_; intro v6 w6 hO6 hg6 hnil6; have HO6 := Lib.hid hO6; have HG6 := Lib.hid hg6; clear hO6 hg6 hnil6)
         have HNX := Lib.hid (show RunsI w1 w6 L m v6 from by
           refine ⟨g, d ++ R, hgg, HDE.out, by rw [List.length_append]; exact HDM.out, HB5.out.grown HG6.out HB5.out.size (fun k hk => (HVR.out k hk).1), ?_⟩
           rw [List.length_append, zbG]
           exact HO6.out)
         clear HO6 HG6 HO5 HB5 HRR
         go_wp2_with fail
         go_roundw
         case rel => exact ⟨m, rfl, hmle, HNX⟩
         case measure => simp [intOf]; omega
     · have HX := Lib.hid (show m < n → L.getD m 0 ≠ L.getD i 0 from fun h => absurd h hmn)
       have HZ1 := Lib.hid (show ∀ q, (wr.drewN q).cell? ⟨bb, off + (m - 1), none⟩ = some (.int .i64 (L.getD i 0 : Nat)) from fun q => by
         have h := hcc (m - 1) (by omega)
         rw [show L.getD (m - 1) 0 = L.getD i 0 from by
           have h := HK.out (N - 1) (by omega)
           rw [show m - 1 = i + (N - 1) from by omega]; exact h] at h
         exact h)
       have hmnd : decide ((m : Int) < (n : Int)) = false := decide_eq_false (by omega)
       have hmnb : ¬ (m : Int) < (n : Int) := by omega
       clear hcc hm
       go_wp2_with fail
       go_quiet (fail)
       go_upto_region 9 with fail
       clear hzi
       have HEQX := Lib.hid hmn
       obtain ⟨g0, d, hg, hde, hdl, hb, ho⟩ := HIQ.out nq
       obtain ⟨g, rfl⟩ : ∃ g, g0 = g + 1 := ⟨g0 - 1, by have := HL.out; omega⟩
       have HDE := Lib.hid (show (d ++ runR (L.getD i 0) N) ++ zbe g (L.drop m) = zbe L.length L from by
         have h := zeJ (L := L) (g := g) (i := i) (k := N - 1) (by rw [HL.out]; exact hin) (by rw [HL.out]; omega) (fun j hj => by
           have h := HK.out (j + 1) (by omega)
           rw [show i + 1 + j = i + (j + 1) from by omega]; exact h) (fun h => by
           rw [show i + 1 + (N - 1) = m from by have := HM.out; omega] at h ⊢
           exact HX.out (by rw [HL.out] at h; exact h))
         rw [show i + 1 + (N - 1) = m from by have := HM.out; omega, show 1 + (N - 1) = N from by omega] at h
         rw [← hde, List.append_assoc, h])
       have hgg : L.length - m ≤ g := by have := HM.out; omega
       have HB := Lib.hid hb
       have HO := Lib.hid ho
       have HVR := Lib.hid (show ∀ k, u3.ownBlock = some k → _ from ho.lt)
       have hdm : d.length + (runR (L.getD i 0) N).length ≤ m := by
         have h1 := runR_len (x := L.getD i 0) (n := N) (HL15.out i) hN1
         have := HM.out
         omega
       have HDM := Lib.hid hdm
       have hmle : m ≤ n := by have := HM.out; omega
       have HZ := Lib.hid (HZ1.out nq)
       have HRUN := Lib.hid (run_any (wr.drewN nq) (L.getD i 0) N (HL15.out i) hN1 (by omega))
       clear hde hb ho hg hdm HIQ HX hdl HZ1 HK
       generalize runR (L.getD i 0) N = R at HDE HDM HRUN
       generalize L.getD i 0 = x at HZ HRUN HEQX
       generalize wr.drewN nq = w4 at HB HO HVR HZ HRUN ⊢
       have z1 := HZ.out
       have hp1 : ((m - 1 : Nat) : Int) = (m : Int) - 1 := by have := HM.out; omega
       have hp2 : m - 1 < n := by have := HM.out; omega
       obtain ⟨p1, hp⟩ : ∃ p1, p1 = m - 1 := ⟨_, rfl⟩
       rw [← hp] at z1 hp1 hp2
       have hp3 : (m : Int) - 1 = (p1 : Int) := hp1.symm
       have hp4 : (p1 : Int) < (n : Int) := by omega
       have HP := Lib.hid hp
       clear hp hp1
       go_upto_region 10 with fail
       go_wp2_with fail
       refine HRUN.out.mono ?_
       rintro e w5 ⟨hb5, vR, rfl, hOR⟩
       obtain ⟨aR, cR, rfl, hRowR, -⟩ := Row.of_owns hOR
       have HO5 := Lib.hid (zaf HO.out hb5)
       have HB5 := Lib.hid (show Below w1.heap.size w1 w5 from HB.out.trans (hb5.mono HB.out.size))
       have HRR := Lib.hid hRowR
       have hs5 := hb5.size
       have hRl : R.length ≤ 316 := by have := HDM.out; omega
       have hdl : d.length ≤ 316 := by have := HDM.out; omega
       clear hb5 hOR hRowR HRUN HO z1
       go_wp2_with (at_builtin; refine zan ERun rfl (.tmp 41) (.tmp 48) rfl w1.heap.size _ d.length _ rfl HO5.out aR R.length cR _ rfl HRR.out (prV_one R) (by unfold maxLen; omega) (by omega) HB5.out.size ?_; intro v6 w6 hO6 hg6 hnil6; have HO6 := Lib.hid hO6; have HG6 := Lib.hid hg6; clear hO6 hg6 hnil6)
       have HNX := Lib.hid (show RunsI w1 w6 L m v6 from by
         refine ⟨g, d ++ R, hgg, HDE.out, by rw [List.length_append]; exact HDM.out, HB5.out.grown HG6.out HB5.out.size (fun k hk => (HVR.out k hk).1), ?_⟩
         rw [List.length_append, zbG]
         exact HO6.out)
       clear HO6 HG6 HO5 HB5 HRR
       go_wp2_with fail
       go_roundw
       case rel => exact ⟨m, rfl, hmle, HNX⟩
       case measure => simp [intOf]; omega
end Go.Proofs.YtngjbhejfojpbaaGreat
namespace Go.Proofs.YtngjbhejfojpbaaGreat
open Go.RowKit Go.Sort
theorem natV_app (a b : List Nat) : natV (a ++ b) = natV a ++ natV b := by simp [natV]
theorem natV_one (l : List Nat) : ∀ u ∈ natV l, u.oneCell' = true := fun u hu => by
 obtain ⟨x, -, rfl⟩ := List.mem_map.1 hu
 rfl
theorem zab.blw {w0 w w' : World} {S : Nat → Prop} {wb : Nat} {B : List Bool} (h : zab w0 S wb false B w) (hb : Below w.heap.size w w') : zab w0 S wb false B w' := by
 obtain ⟨S1, q, k, s⟩ := h
 exact ⟨S1, q.blw hb, k.trans (zaa.of_below hb fun b hb => hb) (fun b hb => .inr (by have := k.size; omega)), s⟩
theorem OutR.nexts {w w' : World} {bo : Nat} {L : List Nat} (h : OutR w bo L) (hb : Below w.heap.size w w') : OutR w' bo L := zbm hb h
theorem ownB_app : ∀ (l : List Nat) (x : Nat), ownB (l ++ [x]) = ownB l ++ putL x false 3 3
 | [], x => by simp [ownB]
 | y :: l, x => by simp only [List.cons_append, ownB, ownB_app l x, List.append_assoc]
theorem runB_app (c : List Int) : ∀ (l : List (Nat × Nat)) (s v : Nat), runB c (l ++ [(s, v)]) = runB c l ++ (zaU c s (lenN c s) ++ putL v false (exB s) (exB s))
 | [], s, v => by simp [runB]
 | (a, b) :: l, s, v => by simp only [List.cons_append, runB, runB_app c l s v, List.append_assoc]
theorem oneL_val {out m : List Nat} {s v : Nat} (h : oneL out s v = some m) : v < 2 ^ exB s ∧ exB s ≤ 7 := by
 unfold oneL at h
 unfold exB
 split at h
 · rename_i e
   rw [if_pos e]
   split at h
   · cases h
   · exact ⟨by omega, by omega⟩
 · rename_i e
   rw [if_neg e]
   split at h
   · rename_i e2
     rw [if_pos e2]
     split at h
     · cases h
     · exact ⟨by omega, by omega⟩
   · rename_i e2
     rw [if_neg e2]
     split at h
     · rename_i e3
       rw [if_pos e3]
       split at h
       · cases h
       · exact ⟨by omega, by omega⟩
     · rename_i e3
       rw [if_neg e3]
       split at h
       · cases h
       · exact ⟨by omega, by omega⟩
theorem lensR_val : ∀ (l : List (Nat × Nat)) {out r : List Nat}, za2 l out = some r → ∀ x ∈ l, x.2 < 2 ^ exB x.1 ∧ exB x.1 ≤ 7
 | [], _, _, _, x, hx => by cases hx
 | (s, v) :: l, out, r, h, x, hx => by
   simp only [za2] at h
   obtain ⟨m, h1, h2⟩ := Option.bind_eq_some_iff.1 h
   rcases List.mem_cons.1 hx with rfl | hx
   · exact oneL_val h1
   · exact lensR_val l h2 x hx
theorem runB_le {c : List Int} (hc : ∀ s, lenN c s ≤ 15) : ∀ (l : List (Nat × Nat)), (∀ x ∈ l, exB x.1 ≤ 7) → (runB c l).length ≤ 22 * l.length
 | [], _ => by simp [runB]
 | (s, v) :: l, h => by
   have h1 := h (s, v) (List.mem_cons_self ..)
   have h2 := runB_le hc l fun x hx => h x (List.mem_cons_of_mem _ hx)
   have h3 := hc s
   dsimp only at h1
   rw [runB, List.length_append, List.length_append, zap, zac, List.length_cons]
   omega
set_option maxRecDepth 20000 in
theorem dyn_any : zfm := by
 intro w S wb cap a B ts last b h hr ha hal hexp hlen hbl hlt
 have hmay := zbS hexp.1
 have hc : (w.alloc (.cells #[.pointer (some ⟨wb, 0, none⟩)] 34)).cell? ⟨w.heap.size, 0, none⟩ = some (.pointer (some ⟨wb, 0, none⟩)) := by
   rw [cell_of_row _ _ 0 _ _ _ (heap_alloc_new w _)]; rfl
 have hno : ¬ S w.heap.size := h.out
 have HQ := Lib.hid (h.alloc (.cells #[.pointer (some ⟨wb, 0, none⟩)] 34))
 have HE := Lib.hid (fun (B' : List Bool) (w' : World) (hn : zab (w.alloc (.cells #[.pointer (some ⟨wb, 0, none⟩)] 34)) S wb false B' w') => zab.trans (S := S) ((zaa.refl S w).alloc (.cells #[.pointer (some ⟨wb, 0, none⟩)] 34)) (fun b hb => .inl hb) hn)
 have HR := Lib.hid (hr.mono (zam w (.cells #[.pointer (some ⟨wb, 0, none⟩)] 34)))
 have hb0w : w.heap.size < (w.alloc (.cells #[.pointer (some ⟨wb, 0, none⟩)] 34)).heap.size := by rw [zae]; omega
 have HA := Lib.hid ha
 have HX := Lib.hid hno
 have HMAY := Lib.hid hmay
 have HEXP := Lib.hid hexp
 have halt : ∀ x, a = some x → x.block < (w.alloc (.cells #[.pointer (some ⟨wb, 0, none⟩)] 34)).heap.size := fun x hx => by have := hal x hx; omega
 have HAL := Lib.hid halt
 have hcapm := hr.2.2.1
 have hcapn := hr.2.1
 unfold maxLen at hcapm
 obtain ⟨n, hn⟩ : ∃ n, n = ts.length := ⟨_, rfl⟩
 have HLN := Lib.hid hn
 rw [← hn] at hlen hcapn ⊢
 have hm19 := mk19
 clear h hr ha hal hno halt hn hmay hexp
 unfold wrA
 have HST := Lib.hid (zc5 (kind := 2) last HQ.out (by omega) (by omega))
 unfold wrA at HST
 go_enter Tryz.func21, Tryz.ntmps21
 go_upto_region 1 with fail
 generalize w.alloc (.cells #[.pointer (some ⟨wb, 0, none⟩)] 34) = w0 at HQ HE HR hb0w HST hc HAL ⊢
 obtain ⟨B0, hB0⟩ : ∃ B0, B0 = w.heap.size := ⟨_, rfl⟩
 rw [← hB0] at hc hb0w HX ⊢
 clear hB0
 go_wp2_with fail
 refine HST.out.mono ?_
 rintro e w1 ⟨rfl, hn1⟩
 have c1 := hn1.cell hc HX.out
 obtain ⟨S1, q1, k1, s1⟩ := hn1
 have hs1 := k1.size
 have HR1 := Lib.hid (HR.out.keeps k1 HA.out)
 have HN1 := Lib.hid (fun b (hb : S1 b) => s1 b hb)
 have HQ1 := Lib.hid q1
 have HE1 := Lib.hid (fun (B' : List Bool) (w' : World) (hn : zab w1 S1 wb false B' w') => HE.out _ _ (zab.trans k1 s1 hn))
 have HS1 := Lib.hid (fun b (hb : S1 b) => (q1.lt b hb).2)
 have HA1 := Lib.hid (show ∀ x, a = some x → ¬ S1 x.block from fun x hx h1 => by
   rcases s1 _ h1 with h2 | h2
   · exact HA.out x hx h2
   · have := HAL.out x hx; omega)
 have HAL1 := Lib.hid (show ∀ x, a = some x → x.block < w1.heap.size from fun x hx => by have := HAL.out x hx; omega)
 have HX1 := Lib.hid (show ¬ S1 B0 from fun h1 => by
   rcases s1 _ h1 with h2 | h2
   · exact HX.out h2
   · omega)
 have hB1 : B0 < w1.heap.size := by omega
 have HCT := Lib.hid (by
   have h := count_any HR1.out HMAY.out (by have := HLN.out; omega)
   rw [← HLN.out] at h
   exact h)
 clear k1 s1 q1 hc HST HE HQ HR HA HAL HX hb0w hs1
 go_wp2_with fail
 refine HCT.out.mono ?_
 rintro e w2 ⟨g1, g2, rfl, hM⟩
 have HALL := cnt_all ts HMAY.out ts.length (Nat.le_refl _)
 rw [List.take_length] at HALL
 obtain ⟨hci, hcn⟩ := HALL
 have HCI := Lib.hid hci
 have HCN := Lib.hid hcn
 have hs2 := hM.below.size
 have c2 := zag hM.below hB1 c1
 have r1 : Row w2 1 (some ⟨g1, 0, none⟩) 286 286 (natV (cntV ts).1) := by
   have h := hM.r1.row (by rw [hci.la]; decide)
   rwa [hci.la] at h
 have HM := Lib.hid hM
 have HL1 := Lib.hid (zdL (m := 15) r1 (by decide) (by decide) (fun k => by have := hci.ma k; have := HLN.out; omega) (by decide) (by decide) (by decide))
 clear hM hci hcn r1 HCT
 go_wp2_with fail
 refine HL1.out.mono ?_
 rintro e w3 ⟨hb3, o1, D1, rfl, hO1, ho1, hG1, hX1⟩
 have c3 := zag hb3 (by omega) c2
 have hD1l : D1.length = 286 := by rw [hG1.len, zaJ, zbt, HCI.out.la]
 have HO1 := Lib.hid hO1
 have HG1 := Lib.hid hG1; have HLX1 := Lib.hid hX1
 have HD1 := Lib.hid hD1l
 have hs3 := hb3.size
 have HB3 := Lib.hid hb3
 have HT1 := Lib.hid (fun W (h : Below w3.heap.size w3 W) => zfa (w := W) (a := some ⟨o1, 0, none⟩) (n := 286) (cap := 286) (least := 257) (l := D1) (by have h := (hO1.nexts h).row (by rw [hD1l]; decide); rwa [hD1l] at h) (by decide))
 clear hb3 hO1 hG1 hX1 hD1l HL1
 go_wp2_with fail
 refine (HT1.out _ (Below.refl _ _)).mono ?_
 rintro e W ⟨rfl, rfl⟩
 have r2 : Row w3 1 (some ⟨g2, 0, none⟩) 30 30 (natV (cntV ts).2) := by
   have h := (HM.out.r2.nexts HB3.out).row (by rw [HCI.out.lb]; decide)
   rwa [HCI.out.lb] at h
 have HL2 := Lib.hid (zdL (m := 15) r2 (by decide) (by decide) (fun k => by have := HCI.out.mb k; have := HLN.out; omega) (by decide) (by decide) (by decide))
 clear r2
 go_wp2_with fail
 refine HL2.out.mono ?_
 rintro e w4 ⟨hb4, o2, D2, rfl, hO2, ho2, hG2, hX2⟩
 have c4 := zag hb4 (by omega) c3
 have hD2l : D2.length = 30 := by rw [hG2.len, zaJ, zbt, HCI.out.lb]
 have HO2 := Lib.hid hO2
 have HG2 := Lib.hid hG2; have HLX2 := Lib.hid hX2
 have HD2 := Lib.hid hD2l
 have hs4 := hb4.size
 have HO1 := Lib.hid (HO1.out.nexts hb4)
 have HB4 := Lib.hid (show Below w1.heap.size w1 w4 from (HM.out.below.trans (HB3.out.mono hs2)).trans (hb4.mono (by omega)))
 have HT2 := Lib.hid (fun W (h : Below w4.heap.size w4 W) => zfa (w := W) (a := some ⟨o2, 0, none⟩) (n := 30) (cap := 30) (least := 1) (l := D2) (by have h := (hO2.nexts h).row (by rw [hD2l]; decide); rwa [hD2l] at h) (by decide))
 have HRA := Lib.hid (show Row w4 1 (some ⟨o1, 0, none⟩) (zaB D1 257).length 286 (natV (zaB D1 257)) from zcS (n := 286) (by have h := HO1.out.row (by rw [HD1.out]; decide); rwa [HD1.out] at h) (by decide))
 have HRB := Lib.hid (show Row w4 1 (some ⟨o2, 0, none⟩) (zaB D2 1).length 30 (natV (zaB D2 1)) from zcS (n := 30) (by have h := hO2.row (by rw [hD2l]; decide); rwa [hD2l] at h) (by decide))
 have hla := zbq (l := D1) (least := 257) (by rw [HD1.out]; decide)
 have hlb := zbq (l := D2) (least := 1) (by rw [hD2l]; decide)
 rw [HD1.out] at hla
 rw [hD2l] at hlb
 clear hb4 hO2 hG2 hX2 hD2l HL2 HT1 HM HB3 c2 c3
 go_wp2_with fail
 refine (HT2.out _ (Below.refl _ _)).mono ?_
 rintro e W ⟨rfl, rfl⟩
 clear HT2
 obtain ⟨la, hlaE⟩ : ∃ la, la = zaB D1 257 := ⟨_, rfl⟩
 obtain ⟨lb, hlbE⟩ : ∃ lb, lb = zaB D2 1 := ⟨_, rfl⟩
 rw [← hlaE] at HRA hla ⊢
 rw [← hlbE] at HRB hlb ⊢
 have HLA := Lib.hid hlaE
 have HLB := Lib.hid hlbE
 obtain ⟨nA, hnA⟩ : ∃ nA, nA = la.length := ⟨_, rfl⟩
 obtain ⟨nB, hnB⟩ : ∃ nB, nB = lb.length := ⟨_, rfl⟩
 rw [← hnA] at HRA hla ⊢
 rw [← hnB] at HRB hlb ⊢
 have HNA := Lib.hid hnA
 have HNB := Lib.hid hnB
 clear hlaE hlbE hnA hnB
 have hbA := zam w4 (.cells #[.slice (some ⟨o1, 0, none⟩) nA 286, .slice (some ⟨o2, 0, none⟩) nB 30] 59)
 have hsA := zae w4 (.cells #[.slice (some ⟨o1, 0, none⟩) nA 286, .slice (some ⟨o2, 0, none⟩) nB 30] 59)
 have HCAT := Lib.hid (by
   have h := catI (w := w4.alloc (.cells #[.slice (some ⟨o1, 0, none⟩) nA 286, .slice (some ⟨o2, 0, none⟩) nB 30] 59)) (a := some ⟨w4.heap.size, 0, none⟩) (cap := 2) (m := 2) (L := [(some ⟨o1, 0, none⟩, 286, natV la), (some ⟨o2, 0, none⟩, 30, natV lb)])
     (by
       refine ⟨rfl, Nat.le_refl _, by unfold maxLen; omega, fun h => (by cases h), fun _ => ⟨_, 0, rfl, by omega, fun j u hj => ?_⟩⟩
       rw [Nat.zero_add, cell_of_row _ _ _ _ _ _ (zah _ rfl)]
       simp only [List.map_cons, List.map_nil, CatV, zbj, ← HNA.out, ← HNB.out] at hj
       rw [List.getElem?_toArray]; exact hj)
     (fun r hr => by
       simp only [List.mem_cons, List.not_mem_nil, or_false] at hr
       rcases hr with rfl | rfl
       · show Row _ 1 _ (natV la).length 286 (natV la)
         rw [zbj, ← HNA.out]; exact HRA.out.mono hbA
       · show Row _ 1 _ (natV lb).length 30 (natV lb)
         rw [zbj, ← HNB.out]; exact HRB.out.mono hbA)
     (fun r hr => by
       simp only [List.mem_cons, List.not_mem_nil, or_false] at hr
       rcases hr with rfl | rfl <;> exact natV_one _)
     (by decide)
     (by
       show ((natV la ++ (natV lb ++ []))).length ≤ 900000
       rw [List.append_nil, List.length_append, zbj, zbj, ← HNA.out, ← HNB.out]; omega)
   have e : CatL [(some (⟨o1, 0, none⟩ : Addr), 286, natV la), (some ⟨o2, 0, none⟩, 30, natV lb)] = natV (la ++ lb) := by
     rw [natV_app]; simp [CatL]
   rw [e, zbj, List.length_append, ← HNA.out, ← HNB.out] at h
   exact h)
 go_wp2_with fail
 refine HCAT.out.mono ?_
 rintro e w6 ⟨v6, rfl, hO6, hb6⟩
 obtain ⟨a6, cp6, rfl, hR6, -⟩ := Row.of_owns hO6
 have HB6 := Lib.hid (show Below w1.heap.size w1 w6 from HB4.out.trans ((hbA.trans (hb6.mono hbA.size)).mono (by omega)))
 have HO1 := Lib.hid ((HO1.out.nexts hbA).nexts hb6)
 have HO2 := Lib.hid ((HO2.out.nexts hbA).nexts hb6)
 have hs6 := hb6.size
 have HRU := Lib.hid (runs_fine (L := la ++ lb) hR6 (by omega) (fun x hx => by
   rcases List.mem_append.1 hx with h | h
   · rw [HLA.out] at h
     exact HG1.out.mem x (List.mem_of_mem_take h)
   · rw [HLB.out] at h
     exact HG2.out.mem x (List.mem_of_mem_take h)))
 have c6 := zag hb6 (by omega) (zag hbA (by omega) c4)
 clear hbA hO6 hR6 hb6 HCAT HRA HRB c4 HB4
 obtain ⟨R, hRe⟩ : ∃ R, R = zbe (la ++ lb).length (la ++ lb) := ⟨_, rfl⟩
 rw [← hRe] at HRU
 have HRE := Lib.hid hRe
 clear hRe
 go_wp2_with fail
 refine HRU.out.mono ?_
 rintro e w7 ⟨hb7, v7, rfl, hO7⟩
 obtain ⟨a7, cp7, rfl, -, -⟩ := Row.of_owns hO7
 have HA7 := Lib.hid (show ∀ x, a7 = some x → w6.heap.size ≤ x.block ∧ x.block < w7.heap.size from fun x hx => hO7.lt x.block (by rw [hx]; rfl))
 have h15 : ∀ x ∈ la ++ lb, x ≤ 15 := fun x hx => by
   rcases List.mem_append.1 hx with h | h
   · rw [HLA.out] at h
     exact HG1.out.mem x (List.mem_of_mem_take h)
   · rw [HLB.out] at h
     exact HG2.out.mem x (List.mem_of_mem_take h)
 have hback : za2 R [] = some (la ++ lb) := by
   rw [HRE.out, zdf _ _ [] (Nat.le_refl _) h15, List.nil_append]
 have hsym : ∀ x ∈ R, x.1 < 19 := fun x hx => by rw [HRE.out] at hx; exact zd5 _ _ h15 x hx
 have hR316 : R.length ≤ 316 := by
   have h := zbL _ hback
   rw [List.length_append, ← HNA.out, ← HNB.out] at h
   simp at h
   omega
 have HBACK := Lib.hid hback
 have HSYM := Lib.hid hsym
 have HCR := Lib.hid (cntR_all R hsym)
 have HRW := Lib.hid (Row.of_own hO7).2
 have HB7 := Lib.hid (HB6.out.trans (hb7.mono (by omega)))
 have HO1 := Lib.hid (HO1.out.nexts hb7)
 have HO2 := Lib.hid (HO2.out.nexts hb7)
 have hs7 := hb7.size
 have c7 := zag hb7 (by omega) c6
 have hcp7 := HRW.out.2.1
 have hcm7 := HRW.out.2.2.1
 unfold maxLen at hcm7
 obtain ⟨N, hNe⟩ : ∃ N, N = R.length := ⟨_, rfl⟩
 rw [← hNe] at hR316 HRW HCR hcp7 ⊢
 have HNN := Lib.hid hNe
 have HC8 := Lib.hid (show OutR (w7.alloc (.cells (fl 19 fun _ => .int .i64 0).toArray 3)) w7.heap.size (cntR (R.take 0)) from by
   show (w7.alloc _).heap[w7.heap.size]? = some _
   rw [zah _ rfl, List.take_zero]
   rw [show cntR [] = List.replicate 19 0 from rfl, zb7])
 have HB8 := Lib.hid (zam w7 (.cells (fl 19 fun _ => .int .i64 0).toArray 3))
 clear hO7 hb7 h15 hback hsym HRU HB6 hNe c6
 go_wp2_with fail
 go_loopw [47] (fun v wr => ∃ i : Nat, v = .int .i64 i ∧ i ≤ N ∧ Hid (OutR wr w7.heap.size (cntR (R.take i))) ∧ Hid (Below w7.heap.size w7 wr)) (fun v _ => N - (intOf v).toNat)
 case atStart => exact ⟨0, rfl, Nat.zero_le _, HC8, HB8⟩
 case round =>
   obtain ⟨i, rfl, hi, HC, HB⟩ := hrel
   have hszr := HB.out.size
   by_cases hlt2 : i < N
   case pos =>
     have hcd : decide ((i : Int) < (N : Int)) = true := decide_eq_true (by omega)
     have hin : (i : Int) < (N : Int) := by omega
     obtain ⟨⟨s, v⟩, hsv⟩ : ∃ p, R[i]? = some p := ⟨_, List.getElem?_eq_getElem (by rw [← HNN.out]; exact hlt2)⟩
     have hrow := HRW.out.mono HB.out
     obtain ⟨bb, off, rfl, hbb, hcc⟩ := hrow.2.2.2.2 (by omega)
     obtain ⟨t0, t1⟩ := prV_at R i s v hsv
     have z0 := hcc _ _ t0
     have z1 := hcc _ _ t1
     rw [← Nat.add_assoc] at z1
     have hs19 : s < 19 := HSYM.out (s, v) (List.mem_of_getElem? hsv)
     have HSN := Lib.hid (show cntR (R.take (i + 1)) = incN (cntR (R.take i)) s from by
       rw [List.take_add_one, hsv]; exact cntR_snoc _ _)
     have hci := HCR.out i hi
     have hcl := hci.1
     have hcm := hci.2.1 s
     have HCA : OutR (wr.alloc (.cells #[.int .i64 s, .int .i64 v] 89)) w7.heap.size (cntR (R.take i)) := zaL _ HC.out
     have d0 := HCA.cell (k := s) (by rw [hcl]; exact hs19)
     have f0 := HCA.free s
     obtain ⟨x, hx⟩ : ∃ x, x = (cntR (R.take i)).getD s 0 := ⟨_, rfl⟩
     rw [← hx] at d0 hcm
     obtain ⟨y, hy⟩ : ∃ y, y = x + 1 := ⟨_, rfl⟩
     have hyi : (x : Int) + 1 = (y : Int) := by omega
     have HN := Lib.hid (show OutR ((wr.alloc (.cells #[.int .i64 s, .int .i64 v] 89)).setCell ⟨w7.heap.size, s, none⟩ (.int .i64 y)) w7.heap.size (cntR (R.take (i + 1))) ∧ Below w7.heap.size w7 ((wr.alloc (.cells #[.int .i64 s, .int .i64 v] 89)).setCell ⟨w7.heap.size, s, none⟩ (.int .i64 y)) from by
       rw [HSN.out, hy, hx]
       exact ⟨HCA.set s _, (HB.out.alloc HB.out.size _).setCell (Nat.le_refl _) _⟩)
     have hne : ¬ w7.heap.size = wr.heap.size := by have := HC.out.lt; omega
     have hsi : (s : Int) < 19 := by omega
     clear hcc hrow t0 t1 hsv hci hcl hx hy HSN HC HCA
     go_wp2_with fail
     go_roundw
     case rel => exact ⟨i + 1, by go_num, by omega, Lib.hid HN.out.1, Lib.hid HN.out.2⟩
     case measure => simp [intOf]; omega
   have hie : i = N := by omega
   subst hie
   have hcd : decide ((i : Int) < (i : Int)) = false := decide_eq_false (by omega)
   have hTR : R.take i = R := List.take_of_length_le (by rw [HNN.out]; exact Nat.le_refl _)
   have HCF := Lib.hid (show OutR wr w7.heap.size (cntR R) from by have h := HC.out; rwa [hTR] at h)
   have hcr := HCR.out i (Nat.le_refl _)
   rw [hTR] at hcr
   have HCR := Lib.hid hcr
   have HL3 := Lib.hid (zdL (m := 7) (L := cntR R) (w := wr) (a := some ⟨w7.heap.size, 0, none⟩) (n := 19) (cap := 19) (by have h := HCF.out.row (by rw [hcr.1]; decide); rwa [hcr.1] at h) (by decide) (by decide) (fun k => by have := hcr.2.1 k; omega) (by decide) (by decide) (by decide))
   have HO1 := Lib.hid (HO1.out.keep (T := fun b => w7.heap.size ≤ b) (zaa.of_below HB.out fun b hb => hb) (by have := HO1.out.lt; omega))
   have HO2 := Lib.hid (HO2.out.keep (T := fun b => w7.heap.size ≤ b) (zaa.of_below HB.out fun b hb => hb) (by have := HO2.out.lt; omega))
   have HRW := Lib.hid (HRW.out.mono HB.out)
   have HB8 := Lib.hid (HB7.out.trans (HB.out.mono (by have := HB7.out.size; omega)))
   have c8 := zag HB.out (by omega) c7
   clear HB7 hTR hcr HC HB HC8 c7
   go_wp2_with fail
   refine HL3.out.mono ?_
   rintro e w9 ⟨hb9, o3, D3, rfl, hO3, ho3, hG3, hX3⟩
   have hD3l : D3.length = 19 := by rw [hG3.len, zaJ, zbt, HCR.out.1]
   have HO3 := Lib.hid hO3
   have HG3 := Lib.hid hG3; have HLX3 := Lib.hid hX3
   have HD3 := Lib.hid hD3l
   have hs9 := hb9.size
   have HO1 := Lib.hid (HO1.out.nexts hb9)
   have HO2 := Lib.hid (HO2.out.nexts hb9)
   have HRW := Lib.hid (HRW.out.mono hb9)
   have HB9 := Lib.hid (HB8.out.trans (hb9.mono HB8.out.size))
   have c9 := zag hb9 (by have := HB8.out.size; omega) c8
   have hs8 := HB8.out.size
   clear hb9 hO3 hG3 hX3 hD3l HL3 HB8 c8 HCF
   go_wp2_with fail
   refine (order_new _).mono ?_
   rintro e w10 ⟨ob, oo, oc, rfl, hoc, hob, hobl, hb10, hcell⟩
   have HOC := Lib.hid hcell
   have HO1 := Lib.hid (HO1.out.nexts hb10)
   have HO2 := Lib.hid (HO2.out.nexts hb10)
   have HO3 := Lib.hid (HO3.out.nexts hb10)
   have HRW := Lib.hid (HRW.out.mono hb10)
   have HB10 := Lib.hid (HB9.out.trans (hb10.mono HB9.out.size))
   have c10 := zag hb10 (by omega) c9
   have hs10 := hb10.size
   clear hcell hb10 HB9 c9
   go_wp2_with fail
   go_loopw [12, 63] (fun v vk wr => ∃ k : Nat, vk = .int .i64 k ∧ k ≤ 19 ∧ Hid (wr.ownsRow w10.heap.size 3 1 v k (natV ((ownV D3).take k))) ∧ Hid (Below w10.heap.size w10 wr)) (fun _ vk _ => 19 - (intOf vk).toNat)
   case atStart => exact ⟨0, rfl, by omega, Lib.hid (World.ownsRow_nil _ _ _ _), Lib.hid (Below.refl _ _)⟩
   case round =>
     obtain ⟨k, rfl, hk, HV, HB⟩ := hrel
     by_cases hk19 : k < 19
     case pos =>
       have hcd2 : decide ((k : Int) < 19) = true := decide_eq_true (by omega)
       have hki : (k : Int) < 19 := by omega
       have hzk := HOC.out k (.int .i64 (ordL.getD k 0)) (by
         have : ∀ q : Fin 19, (iV ordL)[q.1]? = some (.int .i64 (ordL.getD q.1 0)) := by intro q; unfold iV; rw [List.getElem?_map, List.getElem?_eq_getElem q.2, List.getD_eq_getElem?_getD, List.getElem?_eq_getElem q.2]; rfl
         exact this ⟨k, hk19⟩)
       have z0 := zag HB.out hobl hzk
       have hord := ord_lt hk19
       have hordn : 0 ≤ ordL.getD k 0 := by
         have : ∀ q : Fin 19, 0 ≤ ordL.getD q.1 0 := by decide +kernel
         exact this ⟨k, hk19⟩
       obtain ⟨q, hq⟩ : ∃ q, q = (ordL.getD k 0).toNat := ⟨_, rfl⟩
       have hqi : ordL.getD k 0 = (q : Int) := by omega
       rw [hqi] at z0
       have hq19 : q < 19 := by omega
       have hqI : (q : Int) < 19 := by omega
       have HO3k := HO3.out.keep (T := fun b => w10.heap.size ≤ b) (zaa.of_below HB.out fun b hb => hb) (by have := HO3.out.lt; omega)
       have z1 := HO3k.cell (k := q) (by rw [HD3.out]; exact hq19)
       have HTK := Lib.hid (show natV ((ownV D3).take (k + 1)) = natV ((ownV D3).take k) ++ [.int .i64 (D3.getD q 0 : Nat)] from by
         rw [List.take_add_one, List.getElem?_eq_getElem (by rw [zbk]; exact hk19), natV_app]
         have := ownV_at D3 hk19
         rw [List.getD_eq_getElem?_getD, List.getElem?_eq_getElem (by rw [zbk]; exact hk19), ← hq] at this
         rw [show (ownV D3)[k]'(by rw [zbk]; exact hk19) = D3.getD q 0 from this]
         rfl)
       generalize D3.getD q 0 = x at z1 HTK
       clear hzk hord hordn hq hqi HO3k
       go_wp2_with (at_builtin; refine zan ETI rfl (.tmp 67) (.tmp 72) rfl w10.heap.size _ k _ rfl (HV.out.alloc _) (some ⟨wr.heap.size, 0, none⟩) 1 1 [.int .i64 (x : Nat)] rfl (zbl wr _ _) (zb5 rfl) (by unfold maxLen; omega) (by omega) (by rw [zae]; have := HB.out.size; omega) ?_; intro v2 w2 hO2 hg2 _)
       have HO2 := Lib.hid (show w2.ownsRow w10.heap.size 3 1 v2 (k + 1) (natV ((ownV D3).take (k + 1))) from by rw [HTK.out]; exact hO2)
       have HB2 := Lib.hid ((HB.out.alloc HB.out.size (.cells #[.int .i64 (x : Nat)] 3)).grown hg2 (by rw [zae]; have := HB.out.size; omega) (fun r e => (HV.out.lt r e).1))
       clear hO2 hg2
       exact ⟨⟨k + 1, by go_num, by omega, HO2, HB2⟩, by simp [intOf]; omega⟩
     obtain rfl : k = 19 := by omega
     obtain ⟨wA, hwA⟩ : ∃ wA, wA = wr := ⟨_, rfl⟩
     subst hwA
     have hcd2 : decide (((19 : Nat) : Int) < 19) = false := by decide
     obtain ⟨aw, cw, rfl, hrow, hbase⟩ := Row.of_owns HV.out
     rw [List.take_of_length_le (by rw [zbk]; exact Nat.le_refl _)] at hrow
     have HTO := Lib.hid (zfa (least := 4) hrow (by decide))
     have hrt := zcS (least := 4) hrow (by decide)
     have hlo := zbq (l := ownV D3) (least := 4) (by rw [zbk]; decide)
     rw [zbk] at hlo
     have HO1 := Lib.hid (HO1.out.keep (T := fun b => w10.heap.size ≤ b) (zaa.of_below HB.out fun b hb => hb) (by have := HO1.out.lt; omega))
     have HO2 := Lib.hid (HO2.out.keep (T := fun b => w10.heap.size ≤ b) (zaa.of_below HB.out fun b hb => hb) (by have := HO2.out.lt; omega))
     have HO3 := Lib.hid (HO3.out.keep (T := fun b => w10.heap.size ≤ b) (zaa.of_below HB.out fun b hb => hb) (by have := HO3.out.lt; omega))
     have HRW := Lib.hid (HRW.out.mono HB.out)
     have HB11 := Lib.hid (HB10.out.trans (HB.out.mono (by have := HB10.out.size; omega)))
     have c11 := zag HB.out (by omega) c10
     have HOWN := Lib.hid hrt
     have HOB := Lib.hid (fun x (hx : aw = some x) => hbase x hx)
     have hs11 := HB.out.size
     have hs1w := HB11.out.size
     have HQ11 := Lib.hid (HQ1.out.blw HB11.out)
     have HW := Lib.hid (zab.refl HQ11.out)
     have HE11 := Lib.hid (fun (B' : List Bool) (w' : World) (hn : zab wA S1 wb false B' w') => HE1.out _ _ (zab.trans (S := S1) (zaa.of_below2 HB11.out) (fun b hb => .inl hb) hn))
     have HR11 := Lib.hid (HR1.out.mono HB11.out)
     clear hrow hbase hrt HV HB HB10 HB11 c10 HE1 HQ1 HR1
     go_wp2_with fail
     refine HTO.out.mono ?_
     rintro e W ⟨rfl, rfl⟩
     obtain ⟨own, hown⟩ : ∃ own, own = zaB (ownV D3) 4 := ⟨_, rfl⟩
     rw [← hown] at HOWN hlo ⊢
     have HOW := Lib.hid hown
     obtain ⟨nO, hnO⟩ : ∃ nO, nO = own.length := ⟨_, rfl⟩
     rw [← hnO] at HOWN hlo ⊢
     have HNO := Lib.hid hnO
     obtain ⟨pA, hpA⟩ : ∃ pA, pA = nA - 257 := ⟨_, rfl⟩
     obtain ⟨pB, hpB⟩ : ∃ pB, pB = nB - 1 := ⟨_, rfl⟩
     obtain ⟨pO, hpO⟩ : ∃ pO, pO = nO - 4 := ⟨_, rfl⟩
     have i1 : (nA : Int) - 256 - 1 = (pA : Int) := by omega
     have i2 : (nB : Int) - 1 = (pB : Int) := by omega
     have i3 : (nO : Int) - 4 = (pO : Int) := by omega
     have HPA := Lib.hid (And.intro hpA (And.intro hpB hpO))
     have l1 : pA < 32 := by omega
     have l2 : pB < 32 := by omega
     have l3 : pO < 16 := by omega
     obtain ⟨B1, hB1e⟩ : ∃ B1, B1 = B ++ zb9 last 2 := ⟨_, rfl⟩
     rw [← hB1e] at HW
     have hB1l : B1.length ≤ 34359738400 := by rw [hB1e, List.length_append, zaj]; omega
     have HB1E := Lib.hid hB1e
     have HP1 := Lib.hid (zaA HW.out 5 pA (by omega) (by omega) l1)
     clear hown hnO hpA hpB hpO HTO hB1e
     go_wp2_with fail
     refine HP1.out.mono ?_
     rintro e x1 ⟨rfl, hnx1⟩
     have e1 := hnx1.cell c11 HX1.out
     have HP2 := Lib.hid (zaA hnx1 5 pB (by rw [List.length_append, zac]; omega) (by omega) l2)
     clear hnx1 HP1
     go_wp2_with fail
     refine HP2.out.mono ?_
     rintro e x2 ⟨rfl, hnx2⟩
     have e2 := hnx2.cell c11 HX1.out
     have HP3 := Lib.hid (zaA hnx2 4 pO (by rw [List.length_append, List.length_append, zac, zac]; omega) (by omega) l3)
     clear hnx2 HP2 e1
     go_wp2_with fail
     refine HP3.out.mono ?_
     rintro e x3 ⟨rfl, hnx3⟩
     have HDYN := Lib.hid (show DynOk la lb own D3 R ts from by
       have h := dyn_ok (ts := ts) (ca := iL (zbu (cntV ts).1)) (cb := iL (zbu (cntV ts).2)) (cc := iL (zbu (cntR R))) HG1.out (by rw [zaJ, zbt]; exact HCI.out.la) (by
         rw [zaN]
         have h1 := zcI (cntV ts).1 (by rw [HCI.out.la]; decide) 256
         have h2 := HCI.out.e
         omega) HG2.out (by rw [zaJ, zbt]; exact HCI.out.lb) HG3.out (by rw [zaJ, zbt]; exact HCR.out.1) (by
         rw [← HLA.out, ← HLB.out, ← HRE.out]
         intro x hx
         rw [zaN]
         have h1 := zcI (cntR R) (by rw [HCR.out.1]; decide) x.1
         have h2 := HCR.out.2.2 x hx
         omega) (fun t ht => (HCN.out t ht).bump (by rw [HCI.out.la]; decide) (by rw [HCI.out.lb]; decide))
       rw [← HLA.out, ← HLB.out, ← HOW.out, ← HRE.out] at h
       exact h)
     have e3 := hnx3.cell c11 HX1.out
     obtain ⟨B4, hB4e⟩ : ∃ B4, B4 = ((B1 ++ putL pA false 5 5) ++ putL pB false 5 5) ++ putL pO false 4 4 := ⟨_, rfl⟩
     rw [← hB4e] at hnx3
     have hB4l : B4.length ≤ 34359738500 := by rw [hB4e, List.length_append, List.length_append, List.length_append, zac, zac, zac]; omega
     have HB4E := Lib.hid hB4e
     have HNX := Lib.hid hnx3
     have hcw := HOWN.out.2.1
     have hcwm := HOWN.out.2.2.1
     unfold maxLen at hcwm
     have hwwr : w10.heap.size ≤ wA.heap.size := hs11
     have HOWS := Lib.hid (show ∀ x, aw = some x → ¬ S1 x.block from fun x hx h1 => by
       have a1 := HOB.out x hx
       have a2 := HS1.out _ h1
       omega)
     have HO8 := Lib.hid HDYN.out.o8
     clear hnx3 HP3 e2 hB4e
     go_wp2_with fail
     go_loopw [101] (fun v wz => ∃ k : Nat, v = .int .i64 k ∧ k ≤ nO ∧ Hid (zab wA S1 wb false (B4 ++ ownB (own.take k)) wz)) (fun v _ => nO - (intOf v).toNat)
     case atStart => exact ⟨0, rfl, Nat.zero_le _, by rw [List.take_zero, ownB, List.append_nil]; exact HNX⟩
     case round =>
       obtain ⟨k, rfl, hk, HK⟩ := hrel
       have ck := HK.out.cell c11 HX1.out
       by_cases hkn : k < nO
       case pos =>
         have hcd3 : decide ((k : Int) < (nO : Int)) = true := decide_eq_true (by omega)
         have hki : (k : Int) < (nO : Int) := by omega
         have hrow : Row wr 1 aw nO cw (natV own) := by
           obtain ⟨S5, q5, k5, s5⟩ := HK.out
           exact HOWN.out.keeps k5 HOWS.out
         obtain ⟨bb, off, rfl, hbb, hcc⟩ := hrow.at (enc := fun x : Nat => .int .i64 x) 0 k hkn
         have z0 := hcc k hkn
         have hx8 : own.getD k 0 < 8 := by
           rw [List.getD_eq_getElem?_getD, List.getElem?_eq_getElem (by rw [← HNO.out]; exact hkn)]
           exact HO8.out _ (List.getElem_mem _)
         have HTK := Lib.hid (show ownB (own.take (k + 1)) = ownB (own.take k) ++ putL (own.getD k 0) false 3 3 from by
           rw [List.take_add_one, List.getElem?_eq_getElem (by rw [← HNO.out]; exact hkn)]
           rw [show own.getD k 0 = own[k]'(by rw [← HNO.out]; exact hkn) from by rw [List.getD_eq_getElem?_getD, List.getElem?_eq_getElem (by rw [← HNO.out]; exact hkn)]; rfl]
           exact ownB_app _ _)
         have hln : (B4 ++ ownB (own.take k)).length ≤ 34359738600 := by
           rw [List.length_append, zcd, List.length_take]; omega
         have HP := Lib.hid (zaA HK.out 3 (own.getD k 0) (by omega) (by omega) hx8)
         generalize own.getD k 0 = x at z0 hx8 HTK HP
         clear hcc hrow
         go_wp2_with fail
         refine HP.out.mono ?_
         rintro e y1 ⟨rfl, hny⟩
         have HNY := Lib.hid (show zab wA S1 wb false (B4 ++ ownB (own.take (k + 1))) y1 from by rw [HTK.out, ← List.append_assoc]; exact hny)
         clear hny HP
         go_wp2_with fail
         go_roundw
         case rel => exact ⟨k + 1, by go_num, by omega, HNY⟩
         case measure => simp [intOf]; omega
       have hke : k = nO := by omega
       subst hke
       have hcd3 : decide ((k : Int) < (k : Int)) = false := decide_eq_false (by omega)
       obtain ⟨wy, hwy⟩ : ∃ wy, wy = wr := ⟨_, rfl⟩
       subst hwy
       have hk0 := HK.out
       rw [List.take_of_length_le (by rw [← HNO.out]; exact Nat.le_refl _)] at hk0
       obtain ⟨B5, hB5e⟩ : ∃ B5, B5 = B4 ++ ownB own := ⟨_, rfl⟩
       rw [← hB5e] at hk0
       have hB5l : B5.length ≤ 34359738600 := by rw [hB5e, List.length_append, zcd, ← HNO.out]; omega
       have HB5E := Lib.hid hB5e
       have hkS : ∀ b, b < wA.heap.size → ¬ S1 b → ∀ o, wA.heap[b]? = some o → wy.heap[b]? = some o := fun b hb hS o ho => by
         obtain ⟨S5, q5, k5, s5⟩ := hk0
         exact k5.obj ho hS
       have hnS : ∀ b, w1.heap.size ≤ b → ¬ S1 b := fun b hb h1 => by have := HS1.out _ h1; omega
       have hO3y : OutR wy o3 D3 := hkS o3 HO3.out.lt (hnS _ (by omega)) _ HO3.out
       have hrow3 : Row wy 1 (some ⟨o3, 0, none⟩) 19 19 ((iL D3).map (Value.int .i64)) := by
         have h := hO3y.row (by rw [HD3.out]; decide)
         rw [HD3.out, zfs] at h
         exact h
       have HNW := Lib.hid (zeI 320 zbp (some ⟨o3, 0, none⟩) 19 19 (iL D3) wy hrow3 HDYN.out.rc (by decide) (fun h => by cases h))
       have HK5 := Lib.hid hk0
       clear hk0 hB5e HK hO3y hrow3
       go_wp2_with fail
       refine HNW.out.mono ?_
       rintro e wz ⟨pt, rfl, hT, hbz⟩
       have hk5 := HK5.out
       obtain ⟨S2, q2, k2, s2⟩ := hk5
       have hS2 : ∀ b, S2 b → b < wy.heap.size := fun b hb => (q2.lt b hb).2
       have hsy := k2.size
       have hsz := hbz.size
       have hS12 : ∀ b, b < wA.heap.size → ¬ S1 b → ¬ S2 b := fun b hb hS h2 => by
         rcases s2 b h2 with h3 | h3
         · exact hS h3
         · omega
       have kz : zaa S1 wA wz := k2.trans (zaa.of_below hbz fun b hb => hb) (fun b hb => .inr (by omega))
       have cz : wz.cell? ⟨B0, 0, none⟩ = some (.pointer (some ⟨wb, 0, none⟩)) := kz.cell c11 HX1.out
       have HX2 := Lib.hid (hS12 B0 (by omega) HX1.out)
       have hB0z : B0 < wz.heap.size := by omega
       have HRZ := Lib.hid (show Row wz 2 a7 i cp7 (prV R) from HRW.out.keeps kz (fun x hx h1 => by have a1 := (HA7.out x hx).1; have a2 := HS1.out _ h1; omega))
       have HA7S := Lib.hid (show ∀ x, a7 = some x → ¬ S2 x.block from fun x hx => by
         have a1 := HA7.out x hx
         exact hS12 _ (by omega) (hnS _ (by omega)))
       have HTSZ := Lib.hid (HR11.out.keeps kz HA1.out)
       have HO1Z := Lib.hid (show OutR wz o1 D1 from HO1.out.keep kz (hnS _ (by omega)))
       have HO2Z := Lib.hid (show OutR wz o2 D2 from HO2.out.keep kz (hnS _ (by omega)))
       have HT := Lib.hid hT
       have HBT := Lib.hid (show ∀ b, (wy.heap.size ≤ b ∧ b < wz.heap.size) → ¬ S2 b ∧ b < wz.heap.size from fun b hb => ⟨fun h2 => by have := hS2 b h2; omega, hb.2⟩)
       have HE2 := Lib.hid (fun (B' : List Bool) (w' : World) (hn : zab wz S2 wb false B' w') => HE11.out _ _ (zab.trans kz s2 hn))
       have HNZ := Lib.hid (zab.refl (q2.blw hbz))
       have HSZ := Lib.hid hS2
       have HS12 := Lib.hid hS12
       have HVAL := Lib.hid (lensR_val R HBACK.out)
       have hc15 : ∀ s, lenN (iL D3) s ≤ 15 := zcw (zar HDYN.out.rc).2.2.1
       have HRL := Lib.hid (show ∀ j, (runB (iL D3) (R.take j)).length ≤ 7000 from fun j => by
         have h1 := runB_le hc15 (R.take j) (fun x hx => (HVAL.out x (List.mem_of_mem_take hx)).2)
         rw [List.length_take] at h1
         have h2 := HNN.out
         omega)
       clear q2 k2 s2 hS2 hkS hnS hS12 kz c11 hT hbz HK5 HNX HE11 HNW HOWN HOB HW
       go_wp2_with fail
       go_loopw [118] (fun v wq => ∃ j : Nat, v = .int .i64 j ∧ j ≤ i ∧ Hid (zab wz S2 wb false (B5 ++ runB (iL D3) (R.take j)) wq)) (fun v _ => i - (intOf v).toNat)
       case atStart => exact ⟨0, rfl, Nat.zero_le _, by rw [List.take_zero, runB, List.append_nil]; exact HNZ⟩
       case round =>
         obtain ⟨j, rfl, hj, HWJ⟩ := hrel
         by_cases hji : j < i
         case pos =>
           have hcd4 : decide ((j : Int) < (i : Int)) = true := decide_eq_true (by omega)
           have hjI : (j : Int) < (i : Int) := by omega
           obtain ⟨⟨s, v⟩, hsv⟩ : ∃ p, R[j]? = some p := ⟨_, List.getElem?_eq_getElem (by rw [← HNN.out]; exact hji)⟩
           have hmem := List.mem_of_getElem? hsv
           obtain ⟨S3, q3, k3, s3⟩ := HWJ.out
           have hrow : Row wr 2 a7 i cp7 (prV R) := HRZ.out.keeps k3 HA7S.out
           obtain ⟨bb, off, ha7, hbb, hcc⟩ := hrow.2.2.2.2 (by omega)
           subst ha7
           obtain ⟨t0, t1⟩ := prV_at R j s v hsv
           have z0 := hcc _ _ t0
           have z1 := hcc _ _ t1
           rw [← Nat.add_assoc] at z1
           have cj := k3.cell cz HX2.out
           have hS3 : ∀ b, b < wz.heap.size → ¬ S2 b → ¬ S3 b := fun b hb hn h1 => by
             rcases s3 b h1 with h2 | h2
             · exact hn h2
             · omega
           have hsj := k3.size
           have hlt3 : ∀ b, S3 b → b < wr.heap.size := fun b hb => (q3.lt b hb).2
           have hk3 : ∀ o, zaa (fun _ => False) wr (wr.alloc o) := fun o => (zaa.refl _ wr).alloc o
           obtain ⟨o, ho⟩ : ∃ o : Obj, o = .cells #[.int .i64 s, .int .i64 v] 89 := ⟨_, rfl⟩
           have hnew : (wr.alloc o).heap[wr.heap.size]? = some (.cells #[.int .i64 s, .int .i64 v] 89 (0, 0)) := by rw [ho]; exact heap_alloc_new wr _
           have HNi := Lib.hid (zab.refl (q3.alloc o))
           have HEND := Lib.hid (fun (B' : List Bool) (W' : World) (hn : zab (wr.alloc o) S3 wb false B' W') => zab.trans (k3.trans (hk3 o) (fun _ h => h.elim)) s3 hn)
           have HCE := Lib.hid (fun (B' : List Bool) (W' : World) (hn : zab (wr.alloc o) S3 wb false B' W') => hn.cell ((hk3 o).cell cj id) (hS3 _ hB0z HX2.out))
           have HC0 := Lib.hid (fun (B' : List Bool) (W' : World) (hn : zab (wr.alloc o) S3 wb false B' W') => hn.cell (b := wr.heap.size) (k := 0) (by rw [cell_of_row _ _ 0 _ _ _ hnew]; rfl) (fun h => by have := hlt3 _ h; omega))
           have HC1 := Lib.hid (fun (B' : List Bool) (W' : World) (hn : zab (wr.alloc o) S3 wb false B' W') => hn.cell (b := wr.heap.size) (k := 1) (by rw [cell_of_row _ _ 1 _ _ _ hnew]; rfl) (fun h => by have := hlt3 _ h; omega))
           have HTi := Lib.hid ((HT.out.keeps k3 (fun b hb => (HBT.out b hb).1)).mono (zam wr o))
           have hwi : (wr.alloc o).heap.size = wr.heap.size + 1 := zae wr o
           have HBTi := Lib.hid (show ∀ b, (wy.heap.size ≤ b ∧ b < wz.heap.size) → ¬ S3 b ∧ b < (wr.alloc o).heap.size from fun b hb => by
             obtain ⟨h1, h2⟩ := HBT.out b hb
             exact ⟨hS3 b h2 h1, by omega⟩)
           have hsL := HRL.out j
           obtain ⟨Bj, hBj⟩ : ∃ Bj, Bj = B5 ++ runB (iL D3) (R.take j) := ⟨_, rfl⟩
           have hBjl : Bj.length ≤ 34359746000 := by rw [hBj, List.length_append]; omega
           have HSN := Lib.hid (show B5 ++ runB (iL D3) (R.take (j + 1)) = Bj ++ (zaU (iL D3) s (lenN (iL D3) s) ++ putL v false (exB s) (exB s)) from by
             rw [List.take_add_one, hsv, hBj, List.append_assoc]
             exact congrArg (B5 ++ ·) (runB_app _ _ _ _))
           rw [← hBj] at HNi
           have hs19 := HSYM.out (s, v) hmem
           have hcs : 0 < (iL D3).getD s 0 := by rw [zaN]; have := HDYN.out.cr (s, v) hmem; dsimp only at this; omega
           obtain ⟨hv1, hv2⟩ := HVAL.out (s, v) hmem
           dsimp only at hs19 hv1 hv2
           have hcl : (zaU (iL D3) s (lenN (iL D3) s)).length ≤ 15 := by rw [zap]; exact hc15 s
           have HP1 := Lib.hid (zb4 (s := s) HNi.out HTi.out HBTi.out (by omega) (by rw [zaJ, HD3.out]; exact hs19) hcs)
           have HEX := Lib.hid (fun W => extra_any s W)
           have hv128 : v < 128 := Nat.lt_of_lt_of_le hv1 (Nat.pow_le_pow_right (by omega) hv2 : 2 ^ exB s ≤ 2 ^ 7)
           generalize zaU (iL D3) s (lenN (iL D3) s) = CL at *
           generalize exB s = E at *
           rw [ho] at HNi HEND HCE HC0 HC1 HP1
           have f0 := HC0.out _ _ HNi.out
           have fE := HCE.out _ _ HNi.out
           clear hcc hrow t0 t1 hS3 hk3 hlt3 hnew hwi q3 k3 s3 HWJ hsL HTi HBTi ho hBj hcs hsv hmem cj
           go_wp2_with fail
           refine HP1.out.mono ?_
           rintro e y1 ⟨rfl, hn1⟩
           have fE1 := HCE.out _ _ hn1
           have f01 := HC0.out _ _ hn1
           have f11 := HC1.out _ _ hn1
           have HP2 := Lib.hid (fun (W : World) (hn : zab (wr.alloc (.cells #[.int .i64 s, .int .i64 v] 89)) S3 wb false (Bj ++ CL) W) => zaA hn E v (by rw [List.length_append]; omega) (by omega) hv1)
           have HN1 := Lib.hid hn1
           clear hn1 HP1 f0 fE
           go_wp2_with fail
           have e0 : y1.drew.cell? ⟨B0, 0, none⟩ = some (.pointer (some ⟨wb, 0, none⟩)) := fE1
           have e1 : y1.drew.cell? ⟨wr.heap.size, 0, none⟩ = some (.int .i64 s) := f01
           have e2 : y1.drew.cell? ⟨wr.heap.size, 1, none⟩ = some (.int .i64 v) := f11
           have HN1D := Lib.hid (HN1.out.blw ((Below.refl _ _).drew))
           have iw : IntKind.u32.wrap (v : Int) = (v : Int) := IntWalk.u32_in _ (by omega)
           clear hm19 c1 hs2 ho1 hs3 ho2 hs4 hsA hs6 hs7 hcm7 HB8 hszr hcp7 ho3 hs9 hs8 hoc hob hobl hs10 hs11 hs1w hlo hcw hk hkn hcd3 ck hsy hsz cz hB0z hc15 fE1 f01 f11
           go_region_held3 (fun w' => w'.cell? ⟨B0, 0, none⟩ = some (.pointer (some ⟨wb, 0, none⟩)) ∧ w'.cell? ⟨wr.heap.size, 0, none⟩ = some (.int .i64 s) ∧ w'.cell? ⟨wr.heap.size, 1, none⟩ = some (.int .i64 v)) (first | assumption | exact ⟨e0, e1, e2⟩ | exact ⟨HCE.out _ _ hn2, HC0.out _ _ hn2, HC1.out _ _ hn2⟩)
             (first
               | (go_at_call 47; refine (HEX.out _).mono ?_; rintro e wX ⟨rfl, rfl⟩)
               | (go_at_call 34; refine (HP2.out _ HN1D.out).mono ?_; rintro e y2 ⟨rfl, hn2⟩))
           have HN2 := Lib.hid (show zab wz S2 wb false (B5 ++ runB (iL D3) (R.take (j + 1))) y2 from by
             have h := HEND.out _ _ hn2
             rw [HSN.out, ← List.append_assoc]
             exact h)
           clear hn2 HEND HP2 HN1 HN1D HSN
           go_wp2_with fail
           go_roundw
           case rel => exact ⟨j + 1, by go_num, by omega, HN2⟩
           case measure => simp [intOf]; omega
         have hje : j = i := by omega
         subst hje
         have hcd4 : decide ((j : Int) < (j : Int)) = false := decide_eq_false (by omega)
         have ho1w : w1.heap.size ≤ o1 := by omega
         have ho2w : w1.heap.size ≤ o2 := by omega
         clear hm19 c1 hs2 ho1 hs3 ho2 hs4 hsA hs6 hs7 hcm7 HB8 hszr hcp7 ho3 hs9 hs8 hoc hob hobl hs10 hs11 hcw hk hkn hcd3 ck hc15 hcd4 hji hj hcwm hwwr i1 i2 i3 l1 l2 l3 hB1l hB4l hR316 hi hlt2 hcd hcd2 hk19 e3 hB1
         obtain ⟨wv, hwv⟩ : ∃ wv, wv = wr := ⟨_, rfl⟩
         subst hwv
         have hk0 := HWJ.out
         rw [List.take_of_length_le (by rw [← HNN.out]; exact Nat.le_refl _)] at hk0
         have hB6l : (B5 ++ runB (iL D3) R).length ≤ 34359746000 := by
           have h := HRL.out R.length
           rw [List.take_of_length_le (Nat.le_refl _)] at h
           rw [List.length_append]; omega
         obtain ⟨B6, hB6e⟩ : ∃ B6, B6 = B5 ++ runB (iL D3) R := ⟨_, rfl⟩
         rw [← hB6e] at hk0 hB6l
         have HB6E := Lib.hid hB6e
         have cv := HWJ.out.cell cz HX2.out
         obtain ⟨S3, q3, k3, s3⟩ := hk0
         have hsv := k3.size
         have HA2 := Lib.hid (show ∀ x, a = some x → ¬ S2 x.block from fun x hx => HS12.out _ (by have := HAL1.out x hx; omega) (HA1.out x hx))
         have hnS2 : ∀ b, w1.heap.size ≤ b → b < wA.heap.size → ¬ S2 b := fun b hb hb2 => HS12.out b hb2 (fun h1 => by have := HS1.out _ h1; omega)
         have hO1v : OutR wv o1 D1 := HO1Z.out.keep k3 (hnS2 _ (by omega) HO1.out.lt)
         have hO2v : OutR wv o2 D2 := HO2Z.out.keep k3 (hnS2 _ (by omega) HO2.out.lt)
         have hrA : Row wv 1 (some ⟨o1, 0, none⟩) nA 286 ((iL la).map (Value.int .i64)) := by
           have h := zcS (least := 257) (n := 286) (w := wv) (a := some ⟨o1, 0, none⟩) (cap := 286) (l := D1) (by have h := hO1v.row (by rw [HD1.out]; decide); rwa [HD1.out] at h) (by decide)
           rw [← HLA.out, ← HNA.out, zfs] at h
           exact h
         have hrB : Row wv 1 (some ⟨o2, 0, none⟩) nB 30 ((iL lb).map (Value.int .i64)) := by
           have h := zcS (least := 1) (n := 30) (w := wv) (a := some ⟨o2, 0, none⟩) (cap := 30) (l := D2) (by have h := hO2v.row (by rw [HD2.out]; decide); rwa [HD2.out] at h) (by decide)
           rw [← HLB.out, ← HNB.out, zfs] at h
           exact h
         have HNA4 := Lib.hid (zeI 320 zbp (some ⟨o1, 0, none⟩) nA 286 (iL la) wv hrA HDYN.out.ra (by omega) (fun h => by cases h))
         have HRB4 := Lib.hid hrB
         clear hO1v hO2v hrA hrB HNZ HWJ hB6e
         go_wp2_with fail
         refine HNA4.out.mono ?_
         rintro e u1 ⟨p3, rfl, hT3, hb3⟩
         have HNB4 := Lib.hid (zeI 320 zbp (some ⟨o2, 0, none⟩) nB 30 (iL lb) u1 (HRB4.out.mono hb3) HDYN.out.rb (by omega) (fun h => by cases h))
         go_wp2_with fail
         refine HNB4.out.mono ?_
         rintro e u2 ⟨p4, rfl, hT4, hb4⟩
         have hu1 := hb3.size
         have hu2 := hb4.size
         have hb14 : Below wv.heap.size wv u2 := hb3.trans (hb4.mono hu1)
         have c4 := zag hb14 (World.block_lt_of_cell? wv _ cv) cv
         have q4 := q3.blw hb14
         have k4 : zaa S2 wz u2 := k3.trans (zaa.of_below hb14 fun b hb => hb) (fun b hb => .inr (by omega))
         have s4 : ∀ b, S3 b → b < wv.heap.size := fun b hb => (q3.lt b hb).2
         have t1 : Row u2 3 a ts.length cap (tokV ts) := HTSZ.out.keeps k4 HA2.out
         have t2 : ∀ x, a = some x → ¬ S3 x.block := fun x hx h1 => (s3 _ h1).elim (HA2.out x hx) (fun h2 => by have := HAL1.out x hx; omega)
         have t3 := hT3.mono hb4
         have t4 : ∀ b, (wv.heap.size ≤ b ∧ b < u1.heap.size) → ¬ S3 b ∧ b < u2.heap.size := fun b hb => ⟨fun h1 => absurd (s4 b h1) (Nat.not_lt.2 hb.1), Nat.lt_of_lt_of_le hb.2 hu2⟩
         have t5 : ∀ b, (u1.heap.size ≤ b ∧ b < u2.heap.size) → ¬ S3 b ∧ b < u2.heap.size := fun b hb => ⟨fun h1 => absurd (s4 b h1) (Nat.not_lt.2 (Nat.le_trans hu1 hb.1)), hb.2⟩
         have t6 : ∀ t ∈ ts, t.may ∧ CodT (iL la) (iL lb) t := fun t ht => ⟨HMAY.out t ht, HDYN.out.ct t ht⟩
         have t7 : 0 < (iL la).getD 256 0 := by rw [zaN]; have := HDYN.out.e; omega
         have t8 : ts.length ≤ 100000 := by rw [← HLN.out]; omega
         have t9 : B6.length < 68719476736 := by omega
         have hTK := zeU q4 t1 t2 t3 t4 hT4 t5 t6 t7 t8 t9
         rw [← HLN.out] at hTK
         have HTK := Lib.hid hTK
         clear hTK t1 t2 t3 t4 t5 t6 t7 t8 t9
         unfold wrA at HTK
         have hl15 : ∀ s, lenN (iL la) s ≤ 15 := zcw (zar HDYN.out.ra).2.2.1
         have hd15 : ∀ s, lenN (iL lb) s ≤ 15 := zcw (zar HDYN.out.rb).2.2.1
         have htk := tokB_le hl15 hd15 HMAY.out
         have hbits : B6 ++ tokB (iL la) (iL lb) ts = B ++ zbh last la lb own D3 R ts := by
           obtain ⟨q1, q2, q3⟩ := HPA.out
           rw [HB6E.out, HB5E.out, HB4E.out, HB1E.out, q1, q2, q3, HNA.out, HNB.out, HNO.out]
           unfold zbh
           simp only [List.append_assoc]
         have hzl : (zbh last la lb own D3 R ts).length ≤ 60 * b.length + 8000 := by
           have h := congrArg List.length hbits
           rw [List.length_append, List.length_append, HB6E.out, List.length_append, HB5E.out, List.length_append, HB4E.out, List.length_append, List.length_append, List.length_append, HB1E.out, List.length_append, zaj, zac, zac, zac, zcd, ← HNO.out] at h
           have h2 := HRL.out R.length
           rw [List.take_of_length_le (Nat.le_refl _)] at h2
           have h3 := HLN.out
           omega
         have HEND := Lib.hid (fun (u3 : World) (hn : zab u2 S3 wb false (B6 ++ tokB (iL la) (iL lb) ts) u3) => show zdc w S wb B 2 last b (.returned (.tuple #[])) u3 from by
           have h := HE2.out _ _ (zab.trans k4 s3 hn)
           rw [hbits] at h
           exact ⟨rfl, zbh last la lb own D3 R ts, ⟨.inr (.inr ⟨rfl, ts, la, lb, own, D3, R, HEXP.out.1, HDYN.out, rfl⟩), .inr (.inr ⟨rfl, la, lb, own, D3, R, ⟨D1, D2, by rw [← HEXP.out.2]; exact HLX1.out, by rw [← HEXP.out.2]; exact HLX2.out, HLA.out, HLB.out, HRE.out, HLX3.out, HOW.out⟩, congrArg (zbh last la lb own D3 R) HEXP.out.2⟩)⟩, hzl, h⟩)
         clear q3 k3 s3 q4 k4 s4 hb14 hT3 hT4 hb3 hb4 cv hbits hzl htk hl15 hd15 hnS2 HNA4 HNB4 HRB4
         go_wp2_with fail
         refine HTK.out.mono ?_
         rintro e u3 ⟨rfl, hn5⟩
         have HN5 := Lib.hid (HEND.out _ hn5)
         clear hn5 HTK HEND
         go_wp2_with fail
         go_end0
         exact HN5.out
def zdE (w : World) (b : List UInt8) (e : Ending) (w' : World) : Prop :=
 Below w.heap.size w w' ∧ ∃ (n : Nat) (a : Option Addr) (c : Nat), e = .returned (.tuple #[.slice a n c, .int .i64 0]) ∧ (∃ m, zcp b 0 m ∧ n ≤ m) ∧ (∃ m, zcp b 1 m ∧ n ≤ m) ∧ ∃ m, zcp b 2 m ∧ n ≤ m
theorem deflate_min {w : World} {n cap : Nat} {a : Option Addr} {b : List UInt8} (hr : Row w 1 a n cap (b.map fun x => .int .u8 x.toNat)) (hal : ∀ x, a = some x → x.block < w.heap.size) (hb : n ≤ 65535) :
   Calls Tryz.prog 7 #[.slice a n cap, .int .i64 3] w (zdE w b) := by
 have hbA := zam w (.cells #[.slice a n cap] 22)
 have hsA := zae w (.cells #[.slice a n cap] 22)
 have hl := hr.len1
 have hc : (w.alloc (.cells #[.slice a n cap] 22)).cell? ⟨w.heap.size, 0, none⟩ = some (.slice a n cap) := by
   rw [cell_of_row _ _ 0 _ _ _ (heap_alloc_new w _)]; rfl
 have HP := Lib.hid (fun (k : Nat) (hk : k ≤ 2) (W : World) (h : Below (w.alloc (.cells #[.slice a n cap] 22)).heap.size (w.alloc (.cells #[.slice a n cap] 22)) W) => pack_any (w := W) (kind := k) hk (fun _ => dyn_any) ((hr.mono hbA).mono h) (fun x hx => by have := hal x hx; have := h.size; omega) (zag h (by omega) hc) hb)
 have HB := Lib.hid hbA
 have d2 : decide ((n : Int) > 16777216) = false := decide_eq_false (by omega)
 have HL := Lib.hid hl
 have HC := Lib.hid hc
 clear hr hal hbA hl
 go_enter Tryz.func7, Tryz.ntmps7
 go_upto_region 1 with fail
 generalize w.alloc (.cells #[.slice a n cap] 22) = w0 at HP HB HC hc hsA ⊢
 obtain ⟨cb, hcb⟩ : ∃ cb, cb = w.heap.size := ⟨_, rfl⟩
 rw [← hcb] at HP HC hc hsA ⊢
 have HCB := Lib.hid hcb
 clear hcb
 go_wp2_with fail
 refine (HP.out 0 (by omega) _ (Below.refl _ _)).mono ?_
 rintro e w1 ⟨hb1, bs0, v0, Z0, rfl, hO0, hZ0, hw0, hl0⟩
 obtain ⟨a0, c0, rfl, hR0, -⟩ := Row.of_owns hO0
 have HO0 := Lib.hid hO0
 have HF0 := Lib.hid (And.intro hZ0 (And.intro hw0 hl0))
 have HB1 := Lib.hid hb1
 have q1 := zag hb1 (by omega) hc
 clear hb1 hO0 hZ0 hw0 hl0 hR0 hc
 go_wp2_with fail
 refine (HP.out 1 (by omega) _ HB1.out).mono ?_
 rintro e w2 ⟨hb2, bs1, v1, Z1, rfl, hO1, hZ1, hw1, hl1⟩
 obtain ⟨a1, c1, rfl, hR1, -⟩ := Row.of_owns hO1
 have HO1 := Lib.hid hO1
 have HF1 := Lib.hid (And.intro hZ1 (And.intro hw1 hl1))
 have HO0 := Lib.hid (zaf HO0.out hb2)
 have HB2 := Lib.hid (HB1.out.trans (hb2.mono HB1.out.size))
 have q2 := zag HB2.out (by omega) HC.out
 have hs1 := HB1.out.size
 clear hb2 hO1 hZ1 hw1 hl1 hR1 q1
 go_wp2_with fail
 refine (HP.out 2 (by omega) _ HB2.out).mono ?_
 rintro e w3 ⟨hb3, bs2, v2, Z2, rfl, hO2, hZ2, hw2, hl2⟩
 obtain ⟨a2, c2, rfl, hR2, -⟩ := Row.of_owns hO2
 have HF2 := Lib.hid (And.intro hZ2 (And.intro hw2 hl2))
 have HO0 := Lib.hid (zaf HO0.out hb3)
 have HO1 := Lib.hid (zaf HO1.out hb3)
 have HB3 := Lib.hid (HB2.out.trans (hb3.mono HB2.out.size))
 have hs2 := HB2.out.size
 have hs3 := hb3.size
 have m0 : bs0.length ≤ 1000000000 := by have h := HF0.out.2.1.1; have h2 := HF0.out.2.2; rw [HL.out] at h2; omega
 have m1 : bs1.length ≤ 1000000000 := by have h := HF1.out.2.1.1; have h2 := HF1.out.2.2; rw [HL.out] at h2; omega
 have m2 : bs2.length ≤ 1000000000 := by have h := hw2.1; rw [HL.out] at hl2; omega
 have hnew := heap_alloc_new w3 (.cells #[.slice a0 bs0.length c0, .slice a1 bs1.length c1, .slice a2 bs2.length c2] 22)
 have hbN := zam w3 (.cells #[.slice a0 bs0.length c0, .slice a1 bs1.length c1, .slice a2 bs2.length c2] 22)
 have HMIN := Lib.hid (min3_any (w := w3.alloc (.cells #[.slice a0 bs0.length c0, .slice a1 bs1.length c1, .slice a2 bs2.length c2] 22)) (g := w3.heap.size) (by rw [cell_of_row _ _ 0 _ _ _ hnew]; rfl) (by rw [cell_of_row _ _ 1 _ _ _ hnew]; rfl) (by rw [cell_of_row _ _ 2 _ _ _ hnew]; rfl) m0 m1 m2)
 have HBN := Lib.hid (show Below w.heap.size w (w3.alloc (.cells #[.slice a0 bs0.length c0, .slice a1 bs1.length c1, .slice a2 bs2.length c2] 22)) from HB.out.trans ((HB3.out.trans (hbN.mono HB3.out.size)).mono HB.out.size))
 have hb0 : w.heap.size ≤ w0.heap.size := HB.out.size
 have HR0 := Lib.hid (zaD (base' := w.heap.size) (zaf HO0.out hbN) (by omega))
 have HR1 := Lib.hid (zaD (base' := w.heap.size) (zaf HO1.out hbN) (by omega))
 have HR2 := Lib.hid (zaD (base' := w.heap.size) (zaf (zaD (base' := w.heap.size) hO2 (by omega)) hbN) (by omega))
 clear hb3 hO2 hZ2 hw2 hl2 hR2 q2 hnew hbN HO0 HO1 HP HB1 HB2 HB3
 go_wp2_with fail
 have HN0 := Lib.hid (show zcp b 0 bs0.length from ⟨Z0, HF0.out.1, HF0.out.2.1.1⟩)
 have HN1 := Lib.hid (show zcp b 1 bs1.length from ⟨Z1, HF1.out.1, HF1.out.2.1.1⟩)
 have HN2 := Lib.hid (show zcp b 2 bs2.length from ⟨Z2, HF2.out.1, HF2.out.2.1.1⟩)
 refine HMIN.out.mono ?_
 rintro e w4 ⟨rfl, ⟨rfl, g1, g2⟩ | ⟨rfl, g1, g2⟩ | ⟨rfl, g1, g2⟩⟩
 · have HEND := Lib.hid (show zdE w b (.returned (.tuple #[.slice a0 bs0.length c0, .int .i64 0])) _ from ⟨HBN.out, bs0.length, _, _, rfl, ⟨_, HN0.out, Nat.le_refl _⟩, ⟨_, HN1.out, g1⟩, ⟨_, HN2.out, g2⟩⟩)
   clear g1 g2
   go_wp2_with fail
   go_ret2
   exact HEND.out
 · have HEND := Lib.hid (show zdE w b (.returned (.tuple #[.slice a1 bs1.length c1, .int .i64 0])) _ from ⟨HBN.out, bs1.length, _, _, rfl, ⟨_, HN0.out, g1⟩, ⟨_, HN1.out, Nat.le_refl _⟩, ⟨_, HN2.out, g2⟩⟩)
   clear g1 g2
   go_wp2_with fail
   go_ret2
   exact HEND.out
 · have HEND := Lib.hid (show zdE w b (.returned (.tuple #[.slice a2 bs2.length c2, .int .i64 0])) _ from ⟨HBN.out, bs2.length, _, _, rfl, ⟨_, HN0.out, g1⟩, ⟨_, HN1.out, g2⟩, ⟨_, HN2.out, Nat.le_refl _⟩⟩)
   clear g1 g2
   go_wp2_with fail
   go_ret2
   exact HEND.out
def OneEnd (w : World) (b : List UInt8) (kind : Nat) (e : Ending) (w' : World) : Prop :=
 Below w.heap.size w w' ∧ ∃ (n : Nat) (a : Option Addr) (c : Nat), e = .returned (.tuple #[.slice a n c, .int .i64 0]) ∧ zcp b kind n
theorem deflate_kind {w : World} {n cap kind : Nat} {a : Option Addr} {b : List UInt8} (hk : kind ≤ 2) (hr : Row w 1 a n cap (b.map fun x => .int .u8 x.toNat)) (hal : ∀ x, a = some x → x.block < w.heap.size) (hb : n ≤ 65535) :
   Calls Tryz.prog 7 #[.slice a n cap, .int .i64 kind] w (OneEnd w b kind) := by
 refine (zcz hk (fun _ => dyn_any) hr hal hb).mono ?_
 rintro e w' ⟨hb, bs, v, Z, k, rfl, hO, -, hkk, hZ, hw, -⟩
 obtain rfl := hkk hk
 obtain ⟨a, c, rfl, -, -⟩ := Row.of_owns hO
 exact ⟨hb, bs.length, a, c, rfl, Z, hZ, hw.1⟩
def zdm (n : Int) : Int := if n < 0 ∨ 16777216 < n then 0 else n + 5 * max 1 ((n + 65534) / 65535)
def BdEnd (w : World) (n : Int) (e : Ending) (w' : World) : Prop := e = .returned (.int .i64 (zdm n)) ∧ Below w.heap.size w w'
theorem bound_any (n : Int) (w : World) : Calls Tryz.prog 4 #[.int .i64 n] w (BdEnd w n) := by
 unfold BdEnd
 by_cases h : n < 0 ∨ 16777216 < n
 · rw [show zdm n = 0 from if_pos h]
   have hd : decide (n < 0) = true ∨ (decide (n < 0) = false ∧ decide (n > 16777216) = true) := by
     by_cases h1 : n < 0
     · exact .inl (decide_eq_true h1)
     · exact .inr ⟨decide_eq_false h1, decide_eq_true (by omega)⟩
   clear h
   rcases hd with h1 | ⟨h1, h2⟩ <;> (
     go_enter Tryz.func4, Tryz.ntmps4
     go_wp2_with fail
     go_ret
     exact ⟨rfl, Below.refl _ _⟩)
 · have h1 : decide (n < 0) = false := decide_eq_false (by omega)
   have h2 : decide (n > 16777216) = false := decide_eq_false (by omega)
   have HV := Lib.hid (show n + 5 * max 1 ((n + 65535 - 1) / 65535) = zdm n from by rw [show n + 65535 - 1 = n + 65534 by omega]; exact (if_neg h).symm)
   have hn0 : 0 ≤ n := by omega
   have hn1 : n ≤ 16777216 := by omega
   clear h
   go_enter Tryz.func4, Tryz.ntmps4
   go_wp2_with fail
   go_ret
   exact ⟨zaK HV.out, Below.refl _ _⟩
theorem zeH (n : Int) (w : World) : Calls Tryz.prog 5 #[.int .i64 n] w (BdEnd w n) := by
 unfold BdEnd
 by_cases h : n < 0 ∨ 16777216 < n
 · rw [show zdm n = 0 from if_pos h]
   have hd : decide (n < 0) = true ∨ (decide (n < 0) = false ∧ decide (n > 16777216) = true) := by
     by_cases h1 : n < 0
     · exact .inl (decide_eq_true h1)
     · exact .inr ⟨decide_eq_false h1, decide_eq_true (by omega)⟩
   clear h
   rcases hd with h1 | ⟨h1, h2⟩ <;> (
     go_enter Tryz.func5, Tryz.ntmps5
     go_wp2_with fail
     go_ret
     exact ⟨rfl, Below.refl _ _⟩)
 · obtain ⟨q, hq⟩ : ∃ q : Nat, n / 65535 = (q : Int) := ⟨(n / 65535).toNat, by omega⟩
   obtain ⟨r, hr⟩ : ∃ r : Nat, n % 65535 = (r : Int) := ⟨(n % 65535).toNat, by omega⟩
   have h1 : decide (n < 0) = false := decide_eq_false (by omega)
   have h2 : decide (n > 16777216) = false := decide_eq_false (by omega)
   have hq2 : (q : Int) ≤ 300 := by omega
   have HV := Lib.hid (show zdm n = n + 5 * max 1 ((n + 65534) / 65535) from if_neg h)
   have hn0 : 0 ≤ n := by omega
   have hn1 : n ≤ 16777216 := by omega
   have HQR := Lib.hid (And.intro hq hr)
   clear h
   by_cases hr0 : 0 < r
   · have d1 : decide ((r : Int) > 0) = true := decide_eq_true (by omega)
     go_enter Tryz.func5, Tryz.ntmps5
     go_wp2_with fail
     go_ret
     exact ⟨zaK (by rw [HV.out]; have := HQR.out; omega), Below.refl _ _⟩
   · have d1 : decide ((r : Int) > 0) = false := decide_eq_false (by omega)
     by_cases hz : n = 0
     · have d2 : (n == 0) = true := by rw [hz]; rfl
       go_enter Tryz.func5, Tryz.ntmps5
       go_wp2_with fail
       go_ret
       exact ⟨zaK (by rw [HV.out]; have := HQR.out; omega), Below.refl _ _⟩
     · have d2 : (n == 0) = false := by rw [beq_eq_false_iff_ne]; exact hz
       go_enter Tryz.func5, Tryz.ntmps5
       go_wp2_with fail
       go_ret
       exact ⟨zaK (by rw [HV.out]; have := HQR.out; omega), Below.refl _ _⟩
end Go.Proofs.YtngjbhejfojpbaaGreat
namespace Go.Proofs.YtngjbhejfojpbaaGreat
open Go.RowKit
structure BelowW (W : World) where
 w : World
 h : Below W.heap.size W w
instance BelowW.there (W : World) : Nonempty (BelowW W) := ⟨⟨W, Below.refl _ _⟩⟩
theorem BelowW.cell {W : World} {b o : Nat} {v : Value} (hc : W.cell? ⟨b, o, none⟩ = some v) (p : BelowW W) : p.w.cell? ⟨b, o, none⟩ = some v := cell?_keep p.h hc
end Go.Proofs.YtngjbhejfojpbaaGreat
namespace Go.Proofs.YtngjbhejfojpbaaGreat
open Go.RowKit Go.Sort
theorem bound_small {n : Nat} (h : n ≤ 1500) : zdm (n : Int) = (n : Int) + 5 := by
 unfold zdm
 rw [if_neg (by omega)]
 omega
theorem least_le {b : List UInt8} {n m k : Nat} (h : (∃ m, zcp b 0 m ∧ n ≤ m) ∧ (∃ m, zcp b 1 m ∧ n ≤ m) ∧ ∃ m, zcp b 2 m ∧ n ≤ m) (hk : k ≤ 2) (hm : zcp b k m) : n ≤ m := by
 obtain ⟨⟨m0, p0, g0⟩, ⟨m1, p1, g1⟩, m2, p2, g2⟩ := h
 have hk3 : k = 0 ∨ k = 1 ∨ k = 2 := by omega
 rcases hk3 with rfl | rfl | rfl
 · rw [hm.one p0]; exact g0
 · rw [hm.one p1]; exact g1
 · rw [hm.one p2]; exact g2
set_option maxRecDepth 20000 in
theorem law_dleast {w : World} {a : Option Addr} {cap : Nat} {b : List UInt8} (hr : Row w 1 a b.length cap (b.map fun x => .int .u8 x.toNat)) (hal : ∀ x, a = some x → x.block < w.heap.size) (n : Int) :
   Calls Tryz.prog 3 #[.slice a b.length cap, .int .i64 n] w fun e w' => e = .returned (.bool true) ∧ Below w.heap.size w w' := by
 have HW := Lib.hid (fun W => works7_any W)
 have hni : (b.length : Int) ≤ 9223372036854775807 := hr.i64
 by_cases h1 : 1500 < b.length
 · have d1 : decide ((b.length : Int) > 1500) = true := decide_eq_true (by omega)
   clear hr
   generalize b.length = L at *
   go_enter Tryz.func3, Tryz.ntmps3
   go_wp2_with (go_at_call 6; refine (HW.out _).mono ?_; rintro e w1 ⟨rfl, hb⟩)
   go_ret
   exact ⟨rfl, hb⟩
 have d1 : decide ((b.length : Int) > 1500) = false := decide_eq_false (by omega)
 have HB1 := Lib.hid (fun W => bound_any n W)
 have HB2 := Lib.hid (fun W => zeH n W)
 have HB3 := Lib.hid (fun W => zeH (b.length : Int) W)
 have HBS := Lib.hid (bound_small (n := b.length) (by omega))
 have HM := Lib.hid (fun W (h : Below w.heap.size w W) => deflate_min (hr.mono h) (fun x hx => Nat.lt_of_lt_of_le (hal x hx) h.size) (by omega))
 have HK := Lib.hid (fun W (h : Below w.heap.size w W) (k : Nat) (hk : k ≤ 2) => deflate_kind hk (hr.mono h) (fun x hx => Nat.lt_of_lt_of_le (hal x hx) h.size) (by omega))
 have HL := Lib.hid (show b.length ≤ 1500 by omega)
 unfold BdEnd at HB1 HB2 HB3
 obtain ⟨L, hL⟩ : ∃ L, L = b.length := ⟨_, rfl⟩
 rw [← hL] at HB3 HBS HM HK HL d1 hni ⊢
 rw [HBS.out] at HB3
 have HLL := Lib.hid hL
 clear hr hal h1 hL
 generalize zdm n = X at *
 go_enter Tryz.func3, Tryz.ntmps3
 go_wp2_with fail
 refine (HB1.out _).mono ?_
 rintro e w1 ⟨rfl, hb1⟩
 have HA1 := Lib.hid hb1
 clear hb1 HB1
 go_wp2_with fail
 refine (HB2.out _).mono ?_
 rintro e w2 ⟨rfl, hb2⟩
 have HA2 := Lib.hid (HA1.out.trans (hb2.mono HA1.out.size))
 clear hb2 HB2 HA1
 have hxx : (X != X) = false := by simp
 go_wp2_with fail
 refine (HM.out _ HA2.out).mono ?_
 rintro e w3 ⟨hb3, N, aN, cN, rfl, hN⟩
 have HA3 := Lib.hid (HA2.out.trans (hb3.mono HA2.out.size))
 have HN := Lib.hid hN
 have hN5 : N ≤ L + 5 := by
   obtain ⟨m, hm, hle⟩ := hN.1
   have := hm.stored
   have := HLL.out
   omega
 clear hb3 HA2 HM hN hxx
 have d2 : decide ((N : Int) > (L : Int) + 5) = false := decide_eq_false (by omega)
 have HN5 := Lib.hid hN5
 clear hN5
 go_wp2_with fail
 refine (HB3.out _).mono ?_
 rintro e w4 ⟨rfl, hb4⟩
 have HA4 := Lib.hid (HA3.out.trans (hb4.mono HA3.out.size))
 clear hb4 HA3
 go_wp2_with fail
 go_loopw [7] (fun v wr => ∃ k : Nat, v = .int .i64 k ∧ k ≤ 3 ∧ Hid (Below w.heap.size w wr)) (fun v _ => 3 - (intOf v).toNat)
 case atStart => exact ⟨0, rfl, by omega, HA4⟩
 case round =>
   obtain ⟨k, rfl, hk, HA⟩ := hrel
   by_cases hlt : k < 3
   case neg =>
     have dk : decide ((k : Int) < 3) = false := decide_eq_false (by omega)
     go_wp2_with (go_at_call 6; refine (HW.out _).mono ?_; rintro e w5 ⟨rfl, hb5⟩; have HA5 := Lib.hid (HA.out.trans (hb5.mono HA.out.size)); clear hb5)
     go_ret
     exact ⟨rfl, HA5.out⟩
   have dk : decide ((k : Int) < 3) = true := decide_eq_true (by omega)
   go_wp2_with fail
   refine (HK.out _ HA.out k (by omega)).mono ?_
   rintro e w5 ⟨hb5, m, aM, cM, rfl, hP⟩
   have HA5 := Lib.hid (HA.out.trans (hb5.mono HA.out.size))
   have hle := least_le HN.out (by omega) hP
   have dm : decide ((m : Int) < (N : Int)) = false := decide_eq_false (by omega)
   have HP := Lib.hid hP
   have HLE := Lib.hid hle
   clear hb5 HA hP hle
   by_cases h0 : k = 0
   · subst h0
     have hm : m = L + 5 := by have := HP.out.stored; have := HLL.out; omega
     have dm2 : decide ((m : Int) > (L : Int) + 5) = false := decide_eq_false (by omega)
     clear hm
     go_wp2_with fail
     refine (HB3.out _).mono ?_
     rintro e w6 ⟨rfl, hb6⟩
     have HA6 := Lib.hid (HA5.out.trans (hb6.mono HA5.out.size))
     clear hb6 HA5
     go_wp2_with fail
     go_roundw
     case rel => exact ⟨1, rfl, by omega, HA6⟩
     case measure => simp [intOf]
   · have dz : ((k : Int) == 0) = false := by rw [beq_eq_false_iff_ne]; omega
     go_wp2_with fail
     go_roundw
     case rel => exact ⟨k + 1, by go_num, by omega, HA5⟩
     case measure => simp [intOf]; omega
end Go.Proofs.YtngjbhejfojpbaaGreat
namespace Go.Proofs.YtngjbhejfojpbaaGreat
open Go.RowKit Go.ChangeShapes Go.WideShapes
theorem bytes_z {H : Type} {enc : TypeId × Value → H} {w : World} {a : Option Addr} {n cap : Nat} {d : DataW H} {p : List MemPlace} (h : DataW.Trod enc Tryz.prog w 0 (fun _ => true) true 22 (.slice a n cap) d p) :
   ∃ bs : List UInt8, bs.length = n ∧ Row w 1 a bs.length cap (bs.map fun x => .int .u8 x.toNat) := by
 obtain ⟨fuel, hf⟩ := h
 rcases open_ints Tryz.underlying22 Tryz.underlying5 (by kernel_rfl) hf with ⟨hcs, _⟩ | ⟨x, l, c, zs, hcs, _, hl, hm, hz, _, hcell, hwz⟩
 · simp [Value.cells] at hcs
   obtain ⟨rfl, rfl, rfl⟩ := hcs
   exact ⟨[], rfl, Row.nil w 1⟩
 · simp [Value.cells] at hcs
   obtain ⟨rfl, rfl, rfl⟩ := hcs
   exact row_bytes (w := w) (a := some x) (len := n) (cap := cap) (zs := zs) (.inr ⟨x, rfl, hl, hm, by simpa using hz, hcell, hwz⟩)
theorem al_z {P : Program} {w : World} {base : Nat} {t e : TypeId} {a : Option Addr} {n cap : Nat} (ht : P.underlying t = some (.slice e)) (h : Value.okWide P w .any base t (.slice a n cap)) : ∀ x, a = some x → x.block < w.heap.size := fun x hx => by
 subst hx
 simp only [Value.okWide, ht, Cell.okWide, Cell.ok, World.has] at h
 obtain ⟨-, -, -, -, row, cells, hs, -⟩ := h
 unfold World.shape? at hs
 rcases Nat.lt_or_ge x.block w.heap.size with h1 | h1
 · exact h1
 · rw [Array.getElem?_eq_none h1] at hs; simp at hs
end Go.Proofs.YtngjbhejfojpbaaGreat
