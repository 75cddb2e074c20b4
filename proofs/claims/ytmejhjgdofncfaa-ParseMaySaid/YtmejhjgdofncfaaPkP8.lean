/-
  Our texts Scope to Num4, in one.
-/
import Derived.Test.YtmejhjgdofncfaaPkP7
import Derived.ScopeJumps
import Derived.WalkMore
import Derived.Deep.LoopGhost
/-
  A scope in which the run jumps back to one label: the relation at every jump bears a number, which every pass lowers.
-/
namespace Go.Proofs.Ytmejhjgdofncfaa
open Go

/-- From a pass at one number to the first way. -/
theorem jump_mono {P : Program} {Q : Exit → Act → World → Prop} {a : Act} {w : World} {c : Code} {l : Nat} {J J' : Act → World → Prop} (h : c.wp P (Exit.jump l J Q) a w) (hJ : ∀ a w, J a w → J' a w) : c.wp P (Exit.jump l J' Q) a w := by
  refine wp_mono h ?_
  intro e a' w' hq
  cases e with
  | goto l' => exact ⟨hq.1, hJ _ _ hq.2⟩
  | normal => exact hq
  | exit id => exact hq
  | ret => exact hq
  | panic ch => exact hq
  | outgrown => exact hq
theorem wp_scope_ghost {P : Program} {Q : Exit → Act → World → Prop} {a : Act} {w : World} {c body : Code} (l : Nat) (I : Nat → Act → World → Prop) (hf : findLabel c l = some (Code.skip.seq body))
    (first : (∀ n a w, I n a w → body.wp P (Exit.jump l (fun a w => ∃ n, I n a w) Q) a w) → c.wp P (Exit.jump l (fun a w => ∃ n, I n a w) Q) a w)
    (pass : ∀ n a w, I n a w → body.wp P (Exit.jump l (fun a' w' => ∃ n', n' < n ∧ I n' a' w') Q) a w) : (Code.scope c).wp P Q a w := by
  refine wp_scope_jumps l (fun a w => ∃ n, I n a w) (fun a w => leastOf (fun n => I n a w)) hf (first fun n a w hI => jump_mono (pass n a w hI) fun a w ⟨n', _, h⟩ => ⟨n', h⟩) ?_
  intro a w hI
  refine wp_seq (wp_skip ?_)
  refine wp_mono (pass _ a w (leastOf_spec hI).1) ?_
  intro e a' w' hq
  cases e with
  | goto l' =>
    obtain ⟨h1, n', hlt, hI'⟩ := hq
    exact ⟨h1, ⟨n', hI'⟩, Nat.lt_of_le_of_lt ((leastOf_spec ⟨n', hI'⟩).2 n' hI') hlt⟩
  | normal => exact hq
  | exit id => exact hq
  | ret => exact hq
  | panic ch => exact hq
  | outgrown => exact hq
end Go.Proofs.Ytmejhjgdofncfaa
/-
  Walks of layer 9: may a number be; millionths; the number of a text.
-/
namespace Go.Proofs.Ytmejhjgdofncfaa
open Go.RowKit

/-- A value that has no parts. -/
def valC (k n : Int) (s : ByteArray) : Array Value := #[.int .i64 k, .int .i64 n, .string s, .slice none 0 0]
def noStr : ByteArray := ⟨#[]⟩

theorem size_app (a b : ByteArray) : (a ++ b).size = a.size + b.size := ByteArray.size_append
theorem bl_app (a b : ByteArray) : bl (a ++ b) = bl a ++ bl b := by unfold bl; rw [ByteArray.data_append, Array.toList_append]

set_option maxHeartbeats 1000000 in
theorem millionths_any (s : ByteArray) (w : World) (hs : s.size ≤ 4611686018427387904) (hd : (bl s).all isDg = true) :
    Calls Try.prog 65 #[.string s] w fun e w' => e = .returned (.int .i64 (mil (bl s) : Nat)) ∧ Below w.heap.size w w' := by
  have hD := fun W => digits_any ((s ++ ⟨#[48, 48, 48, 48, 48, 48]⟩).extract 0 6) W
  have hb : bl ((s ++ ⟨#[48, 48, 48, 48, 48, 48]⟩).extract 0 6) = (bl s ++ List.replicate 6 48).take 6 := by rw [bl_to, bl_app]; rfl
  have hlt := mil_lt (bl s) hd
  have hv : digitsV ((bl s ++ List.replicate 6 48).take 6) = (((mil (bl s) : Nat) : Int), 0) := by
    refine digitsV_ok ?_ ?_ ?_
    · intro e; have := congrArg List.length e; simp at this
    · rw [List.all_eq_true]
      intro x hx
      have hx := List.mem_of_mem_take hx
      rw [List.mem_append] at hx
      rcases hx with hx | hx
      · exact List.all_eq_true.1 hd x hx
      · rw [List.mem_replicate] at hx; rw [hx.2]; rfl
    · show mil (bl s) ≤ _; omega
  rw [hb, hv] at hD
  have HD := Lib.hid hD
  have hsz : (s ++ ⟨#[48, 48, 48, 48, 48, 48]⟩).size = s.size + 6 := by rw [size_app]; rfl
  clear hD hb hv hd
  go_enter Try.func65, Try.ntmps65
  go_wp2_with (go_at_call 64; refine (HD.out _).mono ?_; rintro e w' ⟨rfl, hb⟩)
  go_ret
  exact ⟨rfl, hb⟩

/-- Is a text empty, and a row? -/
def bareV (s : ByteArray) (m : Nat) : Bool := decide (bl s = []) && decide (m = 0)
set_option maxHeartbeats 4000000 in
theorem check_any (k n : Int) (s : ByteArray) (a : Option Addr) (m c : Nat) (w : World) (hm : (m : Int) ≤ 9223372036854775807) :
    Calls Try.prog 66 #[.agg #[.int .i64 k, .int .i64 n, .string s, .slice a m c]] w fun e w' => e = .returned (.int .i64 (checkV k n (bareV s m))) ∧ Below w.heap.size w w' := by
  obtain ⟨V, hV⟩ : ∃ V, V = checkV k n (bareV s m) := ⟨_, rfl⟩
  rw [← hV]
  unfold checkV at hV
  by_cases hk : k = 2 ∨ k = 3
  · obtain ⟨L, hL⟩ : ∃ L : Int, L = if k = 2 then 2147483647 else 2147483647000000 := ⟨_, rfl⟩
    have hk2 : (k == 2) = decide (k = 2) := by by_cases h : k = 2 <;> simp [h]
    by_cases h1 : n < -L
    · have HV := Lib.hid (show V = 2 by rw [hV, if_neg]; rintro ⟨-, h | h⟩ <;> (rw [h.1] at hL; simp at hL; omega))
      have HB := Lib.hid (belowA w (.cells #[.int .i64 k, .int .i64 n, .string s, .slice a m c] 27))
      clear hV hk2
      rcases hk with rfl | rfl <;> (simp at hL; subst hL)
      all_goals
        go_enter Try.func66, Try.ntmps66
        go_wp2
        go_ret
        exact ⟨ret_int HV.out.symm, HB.out⟩
    · have h1d : decide (n < -L) = false := by simpa using h1
      by_cases h2 : L < n
      · have HV := Lib.hid (show V = 2 by rw [hV, if_neg]; rintro ⟨-, h | h⟩ <;> (rw [h.1] at hL; simp at hL; omega))
        have HB := Lib.hid (belowA w (.cells #[.int .i64 k, .int .i64 n, .string s, .slice a m c] 27))
        clear hV hk2 h1
        rcases hk with rfl | rfl <;> (simp at hL; subst hL)
        all_goals
          go_enter Try.func66, Try.ntmps66
          go_wp2
          go_ret
          exact ⟨ret_int HV.out.symm, HB.out⟩
      · have h2d : decide (L < n) = false := by simpa using h2
        by_cases h3 : s.toList = []
        · by_cases h4 : m = 0
          · have HV := Lib.hid (show V = 0 by
              rw [hV, if_pos]
              refine ⟨by unfold bareV; rw [← toL, h3, h4]; rfl, ?_⟩
              rcases hk with h | h <;> rw [h] at hL <;> simp at hL
              · exact .inl ⟨h, by omega, by omega⟩
              · exact .inr ⟨h, by omega, by omega⟩)
            have HB := Lib.hid (belowA w (.cells #[.int .i64 k, .int .i64 n, .string s, .slice a m c] 27))
            have h3e : s.toList.isEmpty = true := by rw [h3]; rfl
            clear hV hk2 h1 h2
            subst h4
            rcases hk with rfl | rfl <;> (simp at hL; subst hL)
            all_goals
              go_enter Try.func66, Try.ntmps66
              go_wp2
              go_ret
              exact ⟨ret_int HV.out.symm, HB.out⟩
          · have HV := Lib.hid (show V = 2 by rw [hV, if_neg]; rintro ⟨h, -⟩; unfold bareV at h; simp at h; exact h4 h.2)
            have HB := Lib.hid (belowA w (.cells #[.int .i64 k, .int .i64 n, .string s, .slice a m c] 27))
            have h3e : s.toList.isEmpty = true := by rw [h3]; rfl
            have h4' : (0 : Int) < m := by omega
            have h4'' : 0 < m := by omega
            clear hV hk2 h1 h2 h4
            rcases hk with rfl | rfl <;> (simp at hL; subst hL)
            all_goals
              go_enter Try.func66, Try.ntmps66
              go_wp2
              go_ret
              exact ⟨ret_int HV.out.symm, HB.out⟩
        · have HV := Lib.hid (show V = 2 by rw [hV, if_neg]; rintro ⟨h, -⟩; unfold bareV at h; rw [← toL] at h; simp at h; exact h3 h.1)
          have HB := Lib.hid (belowA w (.cells #[.int .i64 k, .int .i64 n, .string s, .slice a m c] 27))
          have h3e : s.toList.isEmpty = false := by simpa using h3
          clear hV hk2 h1 h2
          rcases hk with rfl | rfl <;> (simp at hL; subst hL)
          all_goals
            go_enter Try.func66, Try.ntmps66
            go_wp2
            go_ret
            exact ⟨ret_int HV.out.symm, HB.out⟩
  · have HV := Lib.hid (show V = 2 by rw [hV, if_neg]; rintro ⟨-, h | h⟩ <;> exact hk (by omega))
    have HB := Lib.hid (belowA w (.cells #[.int .i64 k, .int .i64 n, .string s, .slice a m c] 27))
    have hk2 : (k == 2) = false := by rw [beq_eq_false_iff_ne]; omega
    have hk3 : (k == 3) = false := by rw [beq_eq_false_iff_ne]; omega
    clear hV hk
    go_enter Try.func66, Try.ntmps66
    go_wp2
    go_ret
    exact ⟨ret_int HV.out.symm, HB.out⟩
end Go.Proofs.Ytmejhjgdofncfaa
/-
  The walk of num.Parse: the number of a text.
-/
namespace Go.Proofs.Ytmejhjgdofncfaa
open Go.RowKit

theorem infoVal : (Try.prog.info? 27).map (·.size) = some 4 := by kernel_rfl

theorem results_val {P : Program} {fn : Func} {p u : Tmp} {ty : TypeId} (h : fn.results = #[.cell p ty, .tmp u]) (tmps : Array Value) (w : World) (g : Nat) (t : TypeId) (cs : Array Value) (fr : Nat × Nat) (d : TypeDesc)
    (hp : tmps.getD p undef = .pointer (some ⟨g, 0, none⟩)) (hg : w.heap[g]? = some (.cells cs t fr))
    (hu : P.underlying ty = some d) (hd : (match d with | .struct _ | .array _ _ => true | _ => false) = true) (hi : (P.info? ty).map (·.size) = some cs.size) (v : Value) (hv : tmps.getD u undef = v) :
    (results fn tmps).run P w = .ok (.tuple #[.agg cs, v]) w := by
  rw [results_cell_tmp h, hp, hv]
  simp [asAddr, Result.andThen, run_loadVar_row w g t ty cs fr d hg hu hd hi]

/-- Four cells of a block are set. -/
theorem set4 {w : World} {b : Nat} {x0 x1 x2 x3 : Value} {t : TypeId} (h : w.heap[b]? = some (.cells #[x0, x1, x2, x3] t (0, 0))) (y0 y1 y2 y3 : Value) :
    ((((w.setCell ⟨b, 0, none⟩ y0).setCell ⟨b, 1, none⟩ y1).setCell ⟨b, 2, none⟩ y2).setCell ⟨b, 3, none⟩ y3).heap[b]? = some (.cells #[y0, y1, y2, y3] t (0, 0)) := by
  rw [heap_setCell_same _ _ 3 _ _ _ (heap_setCell_same _ _ 2 _ _ _ (heap_setCell_same _ _ 1 _ _ _ (heap_setCell_same w _ 0 _ _ _ h)))]; rfl
theorem below_set4 {B : Nat} {w0 w : World} (h : Below B w0 w) {b : Nat} (hb : B ≤ b) (y0 y1 y2 y3 : Value) :
    Below B w0 ((((w.setCell ⟨b, 0, none⟩ y0).setCell ⟨b, 1, none⟩ y1).setCell ⟨b, 2, none⟩ y2).setCell ⟨b, 3, none⟩ y3) :=
  (((h.setCell hb _).setCell hb _).setCell hb _).setCell hb _

theorem cells4 {w : World} {b : Nat} {x0 x1 x2 x3 : Value} {t : TypeId} (h : w.heap[b]? = some (.cells #[x0, x1, x2, x3] t (0, 0))) :
    (w.cell? ⟨b, 0, none⟩ = some x0 ∧ w.cell? ⟨b, 1, none⟩ = some x1 ∧ w.cell? ⟨b, 2, none⟩ = some x2 ∧ w.cell? ⟨b, 3, none⟩ = some x3) ∧
    (w.frozen? ⟨b, 0, none⟩ = false ∧ w.frozen? ⟨b, 1, none⟩ = false ∧ w.frozen? ⟨b, 2, none⟩ = false ∧ w.frozen? ⟨b, 3, none⟩ = false) := by
  refine ⟨⟨?_, ?_, ?_, ?_⟩, frozen_of_row w b 0 _ _ h, frozen_of_row w b 1 _ _ h, frozen_of_row w b 2 _ _ h, frozen_of_row w b 3 _ _ h⟩
  · rw [cell_of_row w b 0 _ _ _ h]; rfl
  · rw [cell_of_row w b 1 _ _ _ h]; rfl
  · rw [cell_of_row w b 2 _ _ _ h]; rfl
  · rw [cell_of_row w b 3 _ _ _ h]; rfl

def ParseEnd (V : Int × Int × Int) (w : World) (e : Ending) (w' : World) : Prop := e = .returned (.tuple #[.agg (valC V.1 V.2.1 noStr), .int .i64 V.2.2]) ∧ Below w.heap.size w w'

theorem digits0 (l : List UInt8) (h : l.all isDg = true) : digitsV (48 :: l) = if 2147483647 < valD l then (0, 5) else (((valD l : Nat) : Int), 0) := by
  have hv : valD (48 :: l) = valD l := valD_zl 1 l
  have ha : (48 :: l).all isDg = true := by rw [List.all_cons, h]; rfl
  by_cases ho : 2147483647 < valD l
  · rw [if_pos ho, digitsV_over (by simp) ha (by rw [hv]; exact ho)]
  · rw [if_neg ho, digitsV_ok (by simp) ha (by rw [hv]; omega), hv]

theorem hd1_true {s : ByteArray} {c : UInt8} (h : hd1 s c = true) : (bl s).head? = some c ∧ 1 ≤ s.size := by
  unfold hd1 at h
  have h2 : (bl s).head? = some c := by simpa using h
  refine ⟨h2, ?_⟩
  have : bl s ≠ [] := by intro e; rw [e] at h2; simp at h2
  have h3 := List.length_pos_iff.2 this
  rw [bl_len] at h3; exact h3
theorem hd1_false {s : ByteArray} {c : UInt8} (h : hd1 s c = false) : (bl s).head? ≠ some c := by
  unfold hd1 at h; simpa using h

/-- What stands behind the sign. -/
theorem body_from {s : ByteArray} (h : (bl s).head? = some 45 ∨ (bl s).head? = some 43) (_h1 : 1 ≤ s.size) : bl (s.extract 1 s.size) = bodyOf (bl s) := by
  unfold bodyOf; rw [if_pos h, bl_from, List.drop_one]

set_option maxRecDepth 8000 in
set_option maxHeartbeats 8000000 in
theorem parse_any (s : ByteArray) (w : World) (hs : s.size ≤ 100000) :
    Calls Try.prog 46 #[.string s] w (ParseEnd (parseV (bl s)) w) := by
  have hbx : (w.alloc (.cells #[.int .i64 0, .int .i64 0, .string ⟨#[]⟩, .slice none 0 0] 27)).heap[w.heap.size]? = some (.cells #[.int .i64 0, .int .i64 0, .string ⟨#[]⟩, .slice none 0 0] 27 (0, 0)) := heapA_new _ rfl
  have hB0 := belowA w (.cells #[.int .i64 0, .int .i64 0, .string ⟨#[]⟩, .slice none 0 0] 27)
  have HBX := Lib.hid hbx
  have HB0 := Lib.hid hB0
  obtain ⟨V, hV⟩ : ∃ V, V = parseV (bl s) := ⟨_, rfl⟩
  rw [← hV]
  have HV := Lib.hid hV
  clear hV hbx hB0
  obtain ⟨c1, hc1⟩ : ∃ c, hd1 s 45 = c := ⟨_, rfl⟩
  obtain ⟨c2, hc2⟩ : ∃ c, hd1 s 43 = c := ⟨_, rfl⟩
  have HP1 := Lib.hid (fun W => pre_any s 45 W (by omega))
  have HP2 := Lib.hid (fun W => pre_any s 43 W (by omega))
  rw [hc1] at HP1
  rw [hc2] at HP2
  have HC1 := Lib.hid hc1
  have HC2 := Lib.hid hc2
  clear hc1 hc2
  -- the three ways to a body
  cases c1
  case true =>
    have hz := (hd1_true HC1.out).2
    have HS := Lib.hid (show V = parseB (-1) (bl (s.extract 1 s.size)) by
      rw [HV.out, parseV, body_from (.inl (hd1_true HC1.out).1) hz]; unfold signOf; rw [if_pos (hd1_true HC1.out).1])
    have hsz : (s.extract 1 s.size).size ≤ 100000 := by rw [ByteArray.size_extract]; omega
    go_enter Try.func46, Try.ntmps46
    go_wp2_with (go_at_call 61; refine (HP1.out _).mono ?_; rintro e w' ⟨rfl, rfl⟩)
    go_quiet (fail)
    generalize s.extract 1 s.size = b at *
    go_wp2_with fail
    refine (cut_any b _ (by omega)).mono ?_
    rintro e w' ⟨F, R, rfl, h1, h2, h3, h4, q, rfl⟩
    have HK2 := Lib.hid (show (((w.alloc (.cells #[.int .i64 0, .int .i64 0, .string ⟨#[]⟩, .slice none 0 0] 27)).drewN nq).drewN q).heap[w.heap.size]? = some (.cells #[.int .i64 0, .int .i64 0, .string ⟨#[]⟩, .slice none 0 0] 27 (0, 0)) from HBX.out)
    have HB2 := Lib.hid (show Below w.heap.size w (((w.alloc (.cells #[.int .i64 0, .int .i64 0, .string ⟨#[]⟩, .slice none 0 0] 27)).drewN nq).drewN q) from below_drewN (below_drewN HB0.out nq) q)
    generalize (((w.alloc (.cells #[.int .i64 0, .int .i64 0, .string ⟨#[]⟩, .slice none 0 0] 27)).drewN nq).drewN q) = w2 at *
    have HF := Lib.hid h1
    have HR := Lib.hid h2
    obtain ⟨pt, hpt⟩ : ∃ pt, hasPt (bl b) = pt := ⟨_, rfl⟩
    rw [hpt]
    have HPT := Lib.hid hpt
    clear h1 h2 hpt
    have hw2 := HB2.out.size
    have HALF := Lib.hid (fun W => all_any F W)
    have HALR := Lib.hid (fun W => all_any R W)
    by_cases hz : F.size + R.size = 0
    · have HL := Lib.hid (show V = (0, 0, 11) by
        rw [HS.out]; unfold parseB; rw [if_pos (.inl (by rw [← HF.out, ← HR.out, bl_len, bl_len]; exact hz))])
      have hz0 : (((F.size : Int) + (R.size : Int)) == 0) = true := by rw [beq_iff_eq]; omega
      obtain ⟨⟨k0, k1, k2, k3⟩, f0, f1, f2, f3⟩ := cells4 HK2.out
      go_wp2
      refine bodyPost_ret (results_val rfl _ _ w.heap.size 27 _ (0, 0) _ rfl (set4 HK2.out _ _ _ _) Try.underlying27 rfl infoVal _ rfl) rfl ⟨?_, below_set4 HB2.out (Nat.le_refl _) _ _ _ _⟩
      rw [HL.out]
      rfl
    · have hz0 : (((F.size : Int) + (R.size : Int)) == 0) = false := by rw [beq_eq_false_iff_ne]; omega
      obtain ⟨cF, hcF⟩ : ∃ c, (bl F).all isDg = c := ⟨_, rfl⟩
      obtain ⟨cR, hcR⟩ : ∃ c, (bl R).all isDg = c := ⟨_, rfl⟩
      rw [hcF] at HALF
      rw [hcR] at HALR
      have HCF := Lib.hid hcF
      have HCR := Lib.hid hcR
      clear hcF hcR
      cases cF
      case false =>
        have HL := Lib.hid (show V = (0, 0, 11) by
          rw [HS.out]; unfold parseB; rw [if_pos (.inr (.inl (by rw [← HF.out]; exact HCF.out)))])
        go_wp2_with fail
        refine (HALF.out _).mono ?_
        rintro e w3 ⟨rfl, hb3⟩
        have h3k := block_keep hb3 HK2.out
        have HB3 := Lib.hid (HB2.out.trans (hb3.mono hw2))
        obtain ⟨⟨k0, k1, k2, k3⟩, f0, f1, f2, f3⟩ := cells4 h3k
        have HK3 := Lib.hid h3k
        clear h3k hb3
        go_wp2
        refine bodyPost_ret (results_val rfl _ _ w.heap.size 27 _ (0, 0) _ rfl (set4 HK3.out _ _ _ _) Try.underlying27 rfl infoVal _ rfl) rfl ⟨?_, below_set4 HB3.out (Nat.le_refl _) _ _ _ _⟩
        rw [HL.out]
        rfl
      go_wp2_with fail
      refine (HALF.out _).mono ?_
      rintro e w3 ⟨rfl, hb3⟩
      have HK3 := Lib.hid (block_keep hb3 HK2.out)
      have HB3 := Lib.hid (HB2.out.trans (hb3.mono hw2))
      clear hb3
      go_wp2_with fail
      refine (HALR.out _).mono ?_
      rintro e w4 ⟨rfl, hb4⟩
      have HK4 := Lib.hid (block_keep hb4 HK3.out)
      have HB4 := Lib.hid (HB3.out.trans (hb4.mono HB3.out.size))
      clear hb4
      cases cR
      case false =>
        have HL := Lib.hid (show V = (0, 0, 11) by
          rw [HS.out]; unfold parseB; rw [if_pos (.inr (.inr (by rw [← HR.out]; exact HCR.out)))])
        obtain ⟨⟨k0, k1, k2, k3⟩, f0, f1, f2, f3⟩ := cells4 HK4.out
        go_wp2
        refine bodyPost_ret (results_val rfl _ _ w.heap.size 27 _ (0, 0) _ rfl (set4 HK4.out _ _ _ _) Try.underlying27 rfl infoVal _ rfl) rfl ⟨?_, below_set4 HB4.out (Nat.le_refl _) _ _ _ _⟩
        rw [HL.out]
        rfl
      have hd0 : bl (⟨#[48]⟩ ++ F : ByteArray) = 48 :: bl F := by rw [bl_app]; rfl
      have hdig := fun W => digits_any (⟨#[48]⟩ ++ F) W
      rw [hd0, digits0 _ HCF.out] at hdig
      have HDIG := Lib.hid hdig
      have HL := Lib.hid (show V = if 2147483647 < valD (bl F) then (0, 0, 5) else if pt = false then (2, (-1 : Int) * (valD (bl F) : Nat), 0) else if 2147483647000000 < valD (bl F) * 1000000 + mil (bl R) then (0, 0, 5) else (3, (-1 : Int) * ((valD (bl F) * 1000000 + mil (bl R) : Nat) : Int), 0) by
        rw [HS.out]; unfold parseB
        rw [if_neg (by
          rintro (h | h | h)
          · rw [← HF.out, ← HR.out, bl_len, bl_len] at h; exact hz h
          · rw [← HF.out, HCF.out] at h; cases h
          · rw [← HR.out, HCR.out] at h; cases h), HPT.out, ← HF.out, ← HR.out])
      have HMIL := Lib.hid (fun W => millionths_any R W (by omega) HCR.out)
      have hml := mil_lt (bl R) HCR.out
      have hszF : (⟨#[48]⟩ ++ F : ByteArray).size = F.size + 1 := by rw [size_app, Nat.add_comm]; rfl
      clear hdig hd0
      generalize valD (bl F) = n at *
      generalize mil (bl R) = m at *
      by_cases hov : 2147483647 < n
      · rw [if_pos hov] at HDIG
        rw [if_pos hov] at HL
        clear hov
        go_wp2_with fail
        refine (HDIG.out _).mono ?_
        rintro e w5 ⟨rfl, hb5⟩
        have HK5 := Lib.hid (block_keep hb5 HK4.out)
        have HB5 := Lib.hid (HB4.out.trans (hb5.mono HB4.out.size))
        obtain ⟨⟨k0, k1, k2, k3⟩, f0, f1, f2, f3⟩ := cells4 HK5.out
        clear hb5
        go_wp2
        refine bodyPost_ret (results_val rfl _ _ w.heap.size 27 _ (0, 0) _ rfl (set4 HK5.out _ _ _ _) Try.underlying27 rfl infoVal _ rfl) rfl ⟨?_, below_set4 HB5.out (Nat.le_refl _) _ _ _ _⟩
        rw [HL.out]
        rfl
      rw [if_neg hov] at HDIG
      rw [if_neg hov] at HL
      have hn : (n : Int) ≤ 2147483647 := by omega
      clear hov
      go_wp2_with fail
      refine (HDIG.out _).mono ?_
      rintro e w5 ⟨rfl, hb5⟩
      have HK5 := Lib.hid (block_keep hb5 HK4.out)
      have HB5 := Lib.hid (HB4.out.trans (hb5.mono HB4.out.size))
      obtain ⟨⟨k0, k1, k2, k3⟩, f0, f1, f2, f3⟩ := cells4 HK5.out
      clear hb5
      cases pt
      case false =>
        rw [if_pos rfl] at HL
        go_wp2
        refine bodyPost_ret (results_val rfl _ _ w.heap.size 27 _ (0, 0) _ rfl (set4 HK5.out _ _ _ _) Try.underlying27 rfl infoVal _ rfl) rfl ⟨?_, below_set4 HB5.out (Nat.le_refl _) _ _ _ _⟩
        rw [HL.out]
        simp [valC, noStr]
      rw [if_neg (by decide)] at HL
      clear k0 k1 k2 k3 f0 f1 f2 f3
      go_wp2_with fail
      refine (HMIL.out _).mono ?_
      rintro e w6 ⟨rfl, hb6⟩
      have HK6 := Lib.hid (block_keep hb6 HK5.out)
      have HB6 := Lib.hid (HB5.out.trans (hb6.mono HB5.out.size))
      clear hb6
      have hw6 := (Array.getElem?_eq_some_iff.1 HK6.out).1
      have hck : checkV 3 (-((n : Int) * 1000000 + (m : Int))) (bareV ⟨#[]⟩ 0) = if 2147483647000000 < n * 1000000 + m then 2 else 0 := by
        unfold checkV
        by_cases hb : 2147483647000000 < n * 1000000 + m
        · rw [if_pos hb, if_neg]; rintro ⟨-, h | h⟩ <;> omega
        · rw [if_neg hb, if_pos]; exact ⟨rfl, .inr ⟨rfl, by omega, by omega⟩⟩
      have HCK := Lib.hid (fun W => check_any 3 (-((n : Int) * 1000000 + (m : Int))) ⟨#[]⟩ none 0 0 W (by omega))
      rw [hck] at HCK
      clear hck
      go_wp2_with fail
      refine (HCK.out _).mono ?_
      rintro e w7 ⟨rfl, hb7⟩
      have HK7 := Lib.hid (block_keep hb7 (heapA_old _ HK6.out))
      have hq7 := block_keep hb7 (heapA_new _ rfl)
      have HB7 := Lib.hid ((HB6.out.alloc (Nat.le_of_lt hw6) (.cells #[.int .i64 3, .int .i64 (-((n : Int) * 1000000 + (m : Int))), .string ⟨#[]⟩, .slice none 0 0] 27)).trans (hb7.mono (by rw [sizeA]; omega)))
      obtain ⟨⟨k0, k1, k2, k3⟩, f0, f1, f2, f3⟩ := cells4 HK7.out
      obtain ⟨⟨g0, g1, g2, g3⟩, -⟩ := cells4 hq7
      clear hb7 hq7
      by_cases hbig : 2147483647000000 < n * 1000000 + m
      · rw [if_pos hbig] at HL ⊢
        clear hbig
        go_wp2
        refine bodyPost_ret (results_val rfl _ _ w.heap.size 27 _ (0, 0) _ rfl (set4 HK7.out _ _ _ _) Try.underlying27 rfl infoVal _ rfl) rfl ⟨?_, below_set4 HB7.out (Nat.le_refl _) _ _ _ _⟩
        rw [HL.out]
        rfl
      · rw [if_neg hbig] at HL ⊢
        clear hbig
        go_wp2
        refine bodyPost_ret (results_val rfl _ _ w.heap.size 27 _ (0, 0) _ rfl (set4 HK7.out _ _ _ _) Try.underlying27 rfl infoVal _ rfl) rfl ⟨?_, below_set4 HB7.out (Nat.le_refl _) _ _ _ _⟩
        rw [HL.out]
        simp [valC, noStr]
  case false =>
  cases c2
  case true =>
    have hz := (hd1_true HC2.out).2
    have HS := Lib.hid (show V = parseB 1 (bl (s.extract 1 s.size)) by
      rw [HV.out, parseV, body_from (.inr (hd1_true HC2.out).1) hz]; unfold signOf; rw [if_neg (hd1_false HC1.out)])
    have hsz : (s.extract 1 s.size).size ≤ 100000 := by rw [ByteArray.size_extract]; omega
    go_enter Try.func46, Try.ntmps46
    go_wp2_with (go_at_call 61; first | (refine (HP1.out _).mono ?_; rintro e w' ⟨rfl, rfl⟩) | (refine (HP2.out _).mono ?_; rintro e w' ⟨rfl, rfl⟩))
    generalize s.extract 1 s.size = b at *
    go_wp2_with fail
    refine (cut_any b _ (by omega)).mono ?_
    rintro e w' ⟨F, R, rfl, h1, h2, h3, h4, q, rfl⟩
    have HK2 := Lib.hid (show ((w.alloc (.cells #[.int .i64 0, .int .i64 0, .string ⟨#[]⟩, .slice none 0 0] 27)).drewN q).heap[w.heap.size]? = some (.cells #[.int .i64 0, .int .i64 0, .string ⟨#[]⟩, .slice none 0 0] 27 (0, 0)) from HBX.out)
    have HB2 := Lib.hid (show Below w.heap.size w ((w.alloc (.cells #[.int .i64 0, .int .i64 0, .string ⟨#[]⟩, .slice none 0 0] 27)).drewN q) from below_drewN HB0.out q)
    generalize ((w.alloc (.cells #[.int .i64 0, .int .i64 0, .string ⟨#[]⟩, .slice none 0 0] 27)).drewN q) = w2 at *
    have HF := Lib.hid h1
    have HR := Lib.hid h2
    obtain ⟨pt, hpt⟩ : ∃ pt, hasPt (bl b) = pt := ⟨_, rfl⟩
    rw [hpt]
    have HPT := Lib.hid hpt
    clear h1 h2 hpt
    have hw2 := HB2.out.size
    have HALF := Lib.hid (fun W => all_any F W)
    have HALR := Lib.hid (fun W => all_any R W)
    by_cases hz : F.size + R.size = 0
    · have HL := Lib.hid (show V = (0, 0, 11) by
        rw [HS.out]; unfold parseB; rw [if_pos (.inl (by rw [← HF.out, ← HR.out, bl_len, bl_len]; exact hz))])
      have hz0 : (((F.size : Int) + (R.size : Int)) == 0) = true := by rw [beq_iff_eq]; omega
      obtain ⟨⟨k0, k1, k2, k3⟩, f0, f1, f2, f3⟩ := cells4 HK2.out
      go_wp2
      refine bodyPost_ret (results_val rfl _ _ w.heap.size 27 _ (0, 0) _ rfl (set4 HK2.out _ _ _ _) Try.underlying27 rfl infoVal _ rfl) rfl ⟨?_, below_set4 HB2.out (Nat.le_refl _) _ _ _ _⟩
      rw [HL.out]
      rfl
    · have hz0 : (((F.size : Int) + (R.size : Int)) == 0) = false := by rw [beq_eq_false_iff_ne]; omega
      obtain ⟨cF, hcF⟩ : ∃ c, (bl F).all isDg = c := ⟨_, rfl⟩
      obtain ⟨cR, hcR⟩ : ∃ c, (bl R).all isDg = c := ⟨_, rfl⟩
      rw [hcF] at HALF
      rw [hcR] at HALR
      have HCF := Lib.hid hcF
      have HCR := Lib.hid hcR
      clear hcF hcR
      cases cF
      case false =>
        have HL := Lib.hid (show V = (0, 0, 11) by
          rw [HS.out]; unfold parseB; rw [if_pos (.inr (.inl (by rw [← HF.out]; exact HCF.out)))])
        go_wp2_with fail
        refine (HALF.out _).mono ?_
        rintro e w3 ⟨rfl, hb3⟩
        have h3k := block_keep hb3 HK2.out
        have HB3 := Lib.hid (HB2.out.trans (hb3.mono hw2))
        obtain ⟨⟨k0, k1, k2, k3⟩, f0, f1, f2, f3⟩ := cells4 h3k
        have HK3 := Lib.hid h3k
        clear h3k hb3
        go_wp2
        refine bodyPost_ret (results_val rfl _ _ w.heap.size 27 _ (0, 0) _ rfl (set4 HK3.out _ _ _ _) Try.underlying27 rfl infoVal _ rfl) rfl ⟨?_, below_set4 HB3.out (Nat.le_refl _) _ _ _ _⟩
        rw [HL.out]
        rfl
      go_wp2_with fail
      refine (HALF.out _).mono ?_
      rintro e w3 ⟨rfl, hb3⟩
      have HK3 := Lib.hid (block_keep hb3 HK2.out)
      have HB3 := Lib.hid (HB2.out.trans (hb3.mono hw2))
      clear hb3
      go_wp2_with fail
      refine (HALR.out _).mono ?_
      rintro e w4 ⟨rfl, hb4⟩
      have HK4 := Lib.hid (block_keep hb4 HK3.out)
      have HB4 := Lib.hid (HB3.out.trans (hb4.mono HB3.out.size))
      clear hb4
      cases cR
      case false =>
        have HL := Lib.hid (show V = (0, 0, 11) by
          rw [HS.out]; unfold parseB; rw [if_pos (.inr (.inr (by rw [← HR.out]; exact HCR.out)))])
        obtain ⟨⟨k0, k1, k2, k3⟩, f0, f1, f2, f3⟩ := cells4 HK4.out
        go_wp2
        refine bodyPost_ret (results_val rfl _ _ w.heap.size 27 _ (0, 0) _ rfl (set4 HK4.out _ _ _ _) Try.underlying27 rfl infoVal _ rfl) rfl ⟨?_, below_set4 HB4.out (Nat.le_refl _) _ _ _ _⟩
        rw [HL.out]
        rfl
      have hd0 : bl (⟨#[48]⟩ ++ F : ByteArray) = 48 :: bl F := by rw [bl_app]; rfl
      have hdig := fun W => digits_any (⟨#[48]⟩ ++ F) W
      rw [hd0, digits0 _ HCF.out] at hdig
      have HDIG := Lib.hid hdig
      have HL := Lib.hid (show V = if 2147483647 < valD (bl F) then (0, 0, 5) else if pt = false then (2, (1 : Int) * (valD (bl F) : Nat), 0) else if 2147483647000000 < valD (bl F) * 1000000 + mil (bl R) then (0, 0, 5) else (3, (1 : Int) * ((valD (bl F) * 1000000 + mil (bl R) : Nat) : Int), 0) by
        rw [HS.out]; unfold parseB
        rw [if_neg (by
          rintro (h | h | h)
          · rw [← HF.out, ← HR.out, bl_len, bl_len] at h; exact hz h
          · rw [← HF.out, HCF.out] at h; cases h
          · rw [← HR.out, HCR.out] at h; cases h), HPT.out, ← HF.out, ← HR.out])
      have HMIL := Lib.hid (fun W => millionths_any R W (by omega) HCR.out)
      have hml := mil_lt (bl R) HCR.out
      have hszF : (⟨#[48]⟩ ++ F : ByteArray).size = F.size + 1 := by rw [size_app, Nat.add_comm]; rfl
      clear hdig hd0
      generalize valD (bl F) = n at *
      generalize mil (bl R) = m at *
      by_cases hov : 2147483647 < n
      · rw [if_pos hov] at HDIG
        rw [if_pos hov] at HL
        clear hov
        go_wp2_with fail
        refine (HDIG.out _).mono ?_
        rintro e w5 ⟨rfl, hb5⟩
        have HK5 := Lib.hid (block_keep hb5 HK4.out)
        have HB5 := Lib.hid (HB4.out.trans (hb5.mono HB4.out.size))
        obtain ⟨⟨k0, k1, k2, k3⟩, f0, f1, f2, f3⟩ := cells4 HK5.out
        clear hb5
        go_wp2
        refine bodyPost_ret (results_val rfl _ _ w.heap.size 27 _ (0, 0) _ rfl (set4 HK5.out _ _ _ _) Try.underlying27 rfl infoVal _ rfl) rfl ⟨?_, below_set4 HB5.out (Nat.le_refl _) _ _ _ _⟩
        rw [HL.out]
        rfl
      rw [if_neg hov] at HDIG
      rw [if_neg hov] at HL
      have hn : (n : Int) ≤ 2147483647 := by omega
      clear hov
      go_wp2_with fail
      refine (HDIG.out _).mono ?_
      rintro e w5 ⟨rfl, hb5⟩
      have HK5 := Lib.hid (block_keep hb5 HK4.out)
      have HB5 := Lib.hid (HB4.out.trans (hb5.mono HB4.out.size))
      obtain ⟨⟨k0, k1, k2, k3⟩, f0, f1, f2, f3⟩ := cells4 HK5.out
      clear hb5
      cases pt
      case false =>
        rw [if_pos rfl] at HL
        go_wp2
        refine bodyPost_ret (results_val rfl _ _ w.heap.size 27 _ (0, 0) _ rfl (set4 HK5.out _ _ _ _) Try.underlying27 rfl infoVal _ rfl) rfl ⟨?_, below_set4 HB5.out (Nat.le_refl _) _ _ _ _⟩
        rw [HL.out]
        simp [valC, noStr]
      rw [if_neg (by decide)] at HL
      clear k0 k1 k2 k3 f0 f1 f2 f3
      go_wp2_with fail
      refine (HMIL.out _).mono ?_
      rintro e w6 ⟨rfl, hb6⟩
      have HK6 := Lib.hid (block_keep hb6 HK5.out)
      have HB6 := Lib.hid (HB5.out.trans (hb6.mono HB5.out.size))
      clear hb6
      have hw6 := (Array.getElem?_eq_some_iff.1 HK6.out).1
      have hck : checkV 3 ((n : Int) * 1000000 + (m : Int)) (bareV ⟨#[]⟩ 0) = if 2147483647000000 < n * 1000000 + m then 2 else 0 := by
        unfold checkV
        by_cases hb : 2147483647000000 < n * 1000000 + m
        · rw [if_pos hb, if_neg]; rintro ⟨-, h | h⟩ <;> omega
        · rw [if_neg hb, if_pos]; exact ⟨rfl, .inr ⟨rfl, by omega, by omega⟩⟩
      have HCK := Lib.hid (fun W => check_any 3 ((n : Int) * 1000000 + (m : Int)) ⟨#[]⟩ none 0 0 W (by omega))
      rw [hck] at HCK
      clear hck
      go_wp2_with fail
      refine (HCK.out _).mono ?_
      rintro e w7 ⟨rfl, hb7⟩
      have HK7 := Lib.hid (block_keep hb7 (heapA_old _ HK6.out))
      have hq7 := block_keep hb7 (heapA_new _ rfl)
      have HB7 := Lib.hid ((HB6.out.alloc (Nat.le_of_lt hw6) (.cells #[.int .i64 3, .int .i64 ((n : Int) * 1000000 + (m : Int)), .string ⟨#[]⟩, .slice none 0 0] 27)).trans (hb7.mono (by rw [sizeA]; omega)))
      obtain ⟨⟨k0, k1, k2, k3⟩, f0, f1, f2, f3⟩ := cells4 HK7.out
      obtain ⟨⟨g0, g1, g2, g3⟩, -⟩ := cells4 hq7
      clear hb7 hq7
      by_cases hbig : 2147483647000000 < n * 1000000 + m
      · rw [if_pos hbig] at HL ⊢
        clear hbig
        go_wp2
        refine bodyPost_ret (results_val rfl _ _ w.heap.size 27 _ (0, 0) _ rfl (set4 HK7.out _ _ _ _) Try.underlying27 rfl infoVal _ rfl) rfl ⟨?_, below_set4 HB7.out (Nat.le_refl _) _ _ _ _⟩
        rw [HL.out]
        rfl
      · rw [if_neg hbig] at HL ⊢
        clear hbig
        go_wp2
        refine bodyPost_ret (results_val rfl _ _ w.heap.size 27 _ (0, 0) _ rfl (set4 HK7.out _ _ _ _) Try.underlying27 rfl infoVal _ rfl) rfl ⟨?_, below_set4 HB7.out (Nat.le_refl _) _ _ _ _⟩
        rw [HL.out]
        simp [valC, noStr]
  case false =>
    have HS := Lib.hid (show V = parseB 1 (bl s) by
      rw [HV.out, parseV, show bodyOf (bl s) = bl s from by unfold bodyOf; rw [if_neg (by rintro (h | h); exact hd1_false HC1.out h; exact hd1_false HC2.out h)]]; unfold signOf; rw [if_neg (hd1_false HC1.out)])
    have hsz := hs
    obtain ⟨b, hb⟩ : ∃ b, b = s := ⟨_, rfl⟩
    rw [← hb] at HS
    go_enter Try.func46, Try.ntmps46
    go_wp2_with (go_at_call 61; first | (refine (HP1.out _).mono ?_; rintro e w' ⟨rfl, rfl⟩) | (refine (HP2.out _).mono ?_; rintro e w' ⟨rfl, rfl⟩))
    subst hb
    go_wp2_with fail
    refine (cut_any b _ (by omega)).mono ?_
    rintro e w' ⟨F, R, rfl, h1, h2, h3, h4, q, rfl⟩
    have HK2 := Lib.hid (show ((w.alloc (.cells #[.int .i64 0, .int .i64 0, .string ⟨#[]⟩, .slice none 0 0] 27)).drewN q).heap[w.heap.size]? = some (.cells #[.int .i64 0, .int .i64 0, .string ⟨#[]⟩, .slice none 0 0] 27 (0, 0)) from HBX.out)
    have HB2 := Lib.hid (show Below w.heap.size w ((w.alloc (.cells #[.int .i64 0, .int .i64 0, .string ⟨#[]⟩, .slice none 0 0] 27)).drewN q) from below_drewN HB0.out q)
    generalize ((w.alloc (.cells #[.int .i64 0, .int .i64 0, .string ⟨#[]⟩, .slice none 0 0] 27)).drewN q) = w2 at *
    have HF := Lib.hid h1
    have HR := Lib.hid h2
    obtain ⟨pt, hpt⟩ : ∃ pt, hasPt (bl b) = pt := ⟨_, rfl⟩
    rw [hpt]
    have HPT := Lib.hid hpt
    clear h1 h2 hpt
    have hw2 := HB2.out.size
    have HALF := Lib.hid (fun W => all_any F W)
    have HALR := Lib.hid (fun W => all_any R W)
    by_cases hz : F.size + R.size = 0
    · have HL := Lib.hid (show V = (0, 0, 11) by
        rw [HS.out]; unfold parseB; rw [if_pos (.inl (by rw [← HF.out, ← HR.out, bl_len, bl_len]; exact hz))])
      have hz0 : (((F.size : Int) + (R.size : Int)) == 0) = true := by rw [beq_iff_eq]; omega
      obtain ⟨⟨k0, k1, k2, k3⟩, f0, f1, f2, f3⟩ := cells4 HK2.out
      go_wp2
      refine bodyPost_ret (results_val rfl _ _ w.heap.size 27 _ (0, 0) _ rfl (set4 HK2.out _ _ _ _) Try.underlying27 rfl infoVal _ rfl) rfl ⟨?_, below_set4 HB2.out (Nat.le_refl _) _ _ _ _⟩
      rw [HL.out]
      rfl
    · have hz0 : (((F.size : Int) + (R.size : Int)) == 0) = false := by rw [beq_eq_false_iff_ne]; omega
      obtain ⟨cF, hcF⟩ : ∃ c, (bl F).all isDg = c := ⟨_, rfl⟩
      obtain ⟨cR, hcR⟩ : ∃ c, (bl R).all isDg = c := ⟨_, rfl⟩
      rw [hcF] at HALF
      rw [hcR] at HALR
      have HCF := Lib.hid hcF
      have HCR := Lib.hid hcR
      clear hcF hcR
      cases cF
      case false =>
        have HL := Lib.hid (show V = (0, 0, 11) by
          rw [HS.out]; unfold parseB; rw [if_pos (.inr (.inl (by rw [← HF.out]; exact HCF.out)))])
        go_wp2_with fail
        refine (HALF.out _).mono ?_
        rintro e w3 ⟨rfl, hb3⟩
        have h3k := block_keep hb3 HK2.out
        have HB3 := Lib.hid (HB2.out.trans (hb3.mono hw2))
        obtain ⟨⟨k0, k1, k2, k3⟩, f0, f1, f2, f3⟩ := cells4 h3k
        have HK3 := Lib.hid h3k
        clear h3k hb3
        go_wp2
        refine bodyPost_ret (results_val rfl _ _ w.heap.size 27 _ (0, 0) _ rfl (set4 HK3.out _ _ _ _) Try.underlying27 rfl infoVal _ rfl) rfl ⟨?_, below_set4 HB3.out (Nat.le_refl _) _ _ _ _⟩
        rw [HL.out]
        rfl
      go_wp2_with fail
      refine (HALF.out _).mono ?_
      rintro e w3 ⟨rfl, hb3⟩
      have HK3 := Lib.hid (block_keep hb3 HK2.out)
      have HB3 := Lib.hid (HB2.out.trans (hb3.mono hw2))
      clear hb3
      go_wp2_with fail
      refine (HALR.out _).mono ?_
      rintro e w4 ⟨rfl, hb4⟩
      have HK4 := Lib.hid (block_keep hb4 HK3.out)
      have HB4 := Lib.hid (HB3.out.trans (hb4.mono HB3.out.size))
      clear hb4
      cases cR
      case false =>
        have HL := Lib.hid (show V = (0, 0, 11) by
          rw [HS.out]; unfold parseB; rw [if_pos (.inr (.inr (by rw [← HR.out]; exact HCR.out)))])
        obtain ⟨⟨k0, k1, k2, k3⟩, f0, f1, f2, f3⟩ := cells4 HK4.out
        go_wp2
        refine bodyPost_ret (results_val rfl _ _ w.heap.size 27 _ (0, 0) _ rfl (set4 HK4.out _ _ _ _) Try.underlying27 rfl infoVal _ rfl) rfl ⟨?_, below_set4 HB4.out (Nat.le_refl _) _ _ _ _⟩
        rw [HL.out]
        rfl
      have hd0 : bl (⟨#[48]⟩ ++ F : ByteArray) = 48 :: bl F := by rw [bl_app]; rfl
      have hdig := fun W => digits_any (⟨#[48]⟩ ++ F) W
      rw [hd0, digits0 _ HCF.out] at hdig
      have HDIG := Lib.hid hdig
      have HL := Lib.hid (show V = if 2147483647 < valD (bl F) then (0, 0, 5) else if pt = false then (2, (1 : Int) * (valD (bl F) : Nat), 0) else if 2147483647000000 < valD (bl F) * 1000000 + mil (bl R) then (0, 0, 5) else (3, (1 : Int) * ((valD (bl F) * 1000000 + mil (bl R) : Nat) : Int), 0) by
        rw [HS.out]; unfold parseB
        rw [if_neg (by
          rintro (h | h | h)
          · rw [← HF.out, ← HR.out, bl_len, bl_len] at h; exact hz h
          · rw [← HF.out, HCF.out] at h; cases h
          · rw [← HR.out, HCR.out] at h; cases h), HPT.out, ← HF.out, ← HR.out])
      have HMIL := Lib.hid (fun W => millionths_any R W (by omega) HCR.out)
      have hml := mil_lt (bl R) HCR.out
      have hszF : (⟨#[48]⟩ ++ F : ByteArray).size = F.size + 1 := by rw [size_app, Nat.add_comm]; rfl
      clear hdig hd0
      generalize valD (bl F) = n at *
      generalize mil (bl R) = m at *
      by_cases hov : 2147483647 < n
      · rw [if_pos hov] at HDIG
        rw [if_pos hov] at HL
        clear hov
        go_wp2_with fail
        refine (HDIG.out _).mono ?_
        rintro e w5 ⟨rfl, hb5⟩
        have HK5 := Lib.hid (block_keep hb5 HK4.out)
        have HB5 := Lib.hid (HB4.out.trans (hb5.mono HB4.out.size))
        obtain ⟨⟨k0, k1, k2, k3⟩, f0, f1, f2, f3⟩ := cells4 HK5.out
        clear hb5
        go_wp2
        refine bodyPost_ret (results_val rfl _ _ w.heap.size 27 _ (0, 0) _ rfl (set4 HK5.out _ _ _ _) Try.underlying27 rfl infoVal _ rfl) rfl ⟨?_, below_set4 HB5.out (Nat.le_refl _) _ _ _ _⟩
        rw [HL.out]
        rfl
      rw [if_neg hov] at HDIG
      rw [if_neg hov] at HL
      have hn : (n : Int) ≤ 2147483647 := by omega
      clear hov
      go_wp2_with fail
      refine (HDIG.out _).mono ?_
      rintro e w5 ⟨rfl, hb5⟩
      have HK5 := Lib.hid (block_keep hb5 HK4.out)
      have HB5 := Lib.hid (HB4.out.trans (hb5.mono HB4.out.size))
      obtain ⟨⟨k0, k1, k2, k3⟩, f0, f1, f2, f3⟩ := cells4 HK5.out
      clear hb5
      cases pt
      case false =>
        rw [if_pos rfl] at HL
        go_wp2
        refine bodyPost_ret (results_val rfl _ _ w.heap.size 27 _ (0, 0) _ rfl (set4 HK5.out _ _ _ _) Try.underlying27 rfl infoVal _ rfl) rfl ⟨?_, below_set4 HB5.out (Nat.le_refl _) _ _ _ _⟩
        rw [HL.out]
        simp [valC, noStr]
      rw [if_neg (by decide)] at HL
      clear k0 k1 k2 k3 f0 f1 f2 f3
      go_wp2_with fail
      refine (HMIL.out _).mono ?_
      rintro e w6 ⟨rfl, hb6⟩
      have HK6 := Lib.hid (block_keep hb6 HK5.out)
      have HB6 := Lib.hid (HB5.out.trans (hb6.mono HB5.out.size))
      clear hb6
      have hw6 := (Array.getElem?_eq_some_iff.1 HK6.out).1
      have hck : checkV 3 ((n : Int) * 1000000 + (m : Int)) (bareV ⟨#[]⟩ 0) = if 2147483647000000 < n * 1000000 + m then 2 else 0 := by
        unfold checkV
        by_cases hb : 2147483647000000 < n * 1000000 + m
        · rw [if_pos hb, if_neg]; rintro ⟨-, h | h⟩ <;> omega
        · rw [if_neg hb, if_pos]; exact ⟨rfl, .inr ⟨rfl, by omega, by omega⟩⟩
      have HCK := Lib.hid (fun W => check_any 3 ((n : Int) * 1000000 + (m : Int)) ⟨#[]⟩ none 0 0 W (by omega))
      rw [hck] at HCK
      clear hck
      go_wp2_with fail
      refine (HCK.out _).mono ?_
      rintro e w7 ⟨rfl, hb7⟩
      have HK7 := Lib.hid (block_keep hb7 (heapA_old _ HK6.out))
      have hq7 := block_keep hb7 (heapA_new _ rfl)
      have HB7 := Lib.hid ((HB6.out.alloc (Nat.le_of_lt hw6) (.cells #[.int .i64 3, .int .i64 ((n : Int) * 1000000 + (m : Int)), .string ⟨#[]⟩, .slice none 0 0] 27)).trans (hb7.mono (by rw [sizeA]; omega)))
      obtain ⟨⟨k0, k1, k2, k3⟩, f0, f1, f2, f3⟩ := cells4 HK7.out
      obtain ⟨⟨g0, g1, g2, g3⟩, -⟩ := cells4 hq7
      clear hb7 hq7
      by_cases hbig : 2147483647000000 < n * 1000000 + m
      · rw [if_pos hbig] at HL ⊢
        clear hbig
        go_wp2
        refine bodyPost_ret (results_val rfl _ _ w.heap.size 27 _ (0, 0) _ rfl (set4 HK7.out _ _ _ _) Try.underlying27 rfl infoVal _ rfl) rfl ⟨?_, below_set4 HB7.out (Nat.le_refl _) _ _ _ _⟩
        rw [HL.out]
        rfl
      · rw [if_neg hbig] at HL ⊢
        clear hbig
        go_wp2
        refine bodyPost_ret (results_val rfl _ _ w.heap.size 27 _ (0, 0) _ rfl (set4 HK7.out _ _ _ _) Try.underlying27 rfl infoVal _ rfl) rfl ⟨?_, below_set4 HB7.out (Nat.le_refl _) _ _ _ _⟩
        rw [HL.out]
        simp [valC, noStr]
end Go.Proofs.Ytmejhjgdofncfaa
