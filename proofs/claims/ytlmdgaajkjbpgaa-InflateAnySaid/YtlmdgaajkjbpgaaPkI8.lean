/-
  Our texts InfC to InfF, in one.
-/
import Derived.Test.YtlmdgaajkjbpgaaPkI7
import Derived.Deep.AppendLies
import Derived.Deep.RegionLaw
import Derived.Deep.RegionHeld3
import Derived.ScopeJumps
import Derived.WalkMore
import Derived.Deep.LoopGhost
/-
  Walks of layer 5: bytes that stand ahead, again.
-/
namespace Go.Proofs.Ytlmdgaajkjbpgaa
open Go.RowKit Go.Sort

theorem grown_undrew {w w' : World} {row : Option Nat} (h : w.drew.grownBy w' row) : w.grownBy w' row := ⟨h.os, h.tape, h.output, h.size, h.block⟩
theorem new_at {w : World} {o : Obj} {v : Value} {g n cap : Nat} (h : v.ownBlock = some g ∨ g = w.heap.size + 1) : NewAt (w.alloc o) v (.slice (some ⟨g, 0, none⟩) n cap) := fun b hb => by
  have hb2 : g = b := by simpa [Value.ownBlock] using hb
  subst hb2
  rcases h with h | h
  · exact .inl h
  · rw [sizeA]; exact .inr (by omega)
theorem repL_len (far : Nat) : ∀ (n : Nat) (o : List UInt8), (repL far n o).length = o.length + n
  | 0, o => rfl
  | n + 1, o => by simp only [repL]; rw [repL_len far n]; simp; omega
/-- So far. -/
def RepAt (w wr : World) (U : Nat → Prop) (sb r : Nat) (bs : List UInt8) (most : Nat) (s : IS) (far len j : Nat) : Prop :=
  ∃ U1 s1, IsSt wr U1 sb r bs most s1 ∧ Keeps U w wr ∧ (∀ b, U1 b → U b ∨ w.heap.size ≤ b) ∧ s1.e = s.e ∧ s1.at_ = s.at_ ∧ s1.out.length = s.out.length + j ∧ repL far (len - j) s1.out = repL far len s.out
theorem RepAt.fin {w wr : World} {U : Nat → Prop} {sb r : Nat} {bs : List UInt8} {most : Nat} {s : IS} {far len : Nat} (h : RepAt w wr U sb r bs most s far len len) : StNext w U sb r bs most { s with out := repL far len s.out } wr := by
  obtain ⟨U1, s1, h1, h2, h3, h4, h5, h6, h7⟩ := h
  rw [Nat.sub_self] at h7
  have : s1 = { s with out := repL far len s.out } := by
    obtain ⟨a, e, o⟩ := s1
    simp only at h4 h5
    simp only [repL] at h7
    rw [h4, h5, h7]
  rw [← this]
  exact ⟨U1, h1, h2, h3⟩
theorem RepAt.next {w wr w' : World} {U U1 : Nat → Prop} {sb r : Nat} {bs : List UInt8} {most : Nat} {s s1 : IS} {far len j : Nat} (h2 : Keeps U w wr) (h3 : ∀ b, U1 b → U b ∨ w.heap.size ≤ b) (h4 : s1.e = s.e) (h5 : s1.at_ = s.at_) (h6 : s1.out.length = s.out.length + j) (h7 : repL far (len - j) s1.out = repL far len s.out) (hj : j < len)
    (hn : StNext wr U1 sb r bs most { s1 with out := s1.out ++ [s1.out.getD (s1.out.length - far) 0] } w') : RepAt w w' U sb r bs most s far len (j + 1) := by
  obtain ⟨U2, g1, g2, g3⟩ := StNext.trans h2 h3 hn
  refine ⟨U2, _, g1, g2, g3, h4, h5, by simp; omega, ?_⟩
  rw [← h7, show len - j = (len - (j + 1)) + 1 by omega]
  rfl

set_option maxRecDepth 20000 in
set_option maxHeartbeats 4000000 in
theorem srep_any {w : World} {U : Nat → Prop} {sb r : Nat} {bs : List UInt8} {most : Nat} {s : IS} (h : IsSt w U sb r bs most s) (len far : Nat) (hfar : s.e = 0 → 1 ≤ far) (hb : s.out.length ≤ 20000000) (hm : most ≤ 20000000) (hl : len ≤ 20000000) (hf2 : far ≤ 20000000) :
    Calls Try.prog 47 #[.pointer (some ⟨sb, 0, none⟩), .int .i64 len, .int .i64 far] w fun x w' => x = .returned (.tuple #[]) ∧ StNext w U sb r bs most (repV most len far s) w' := by
  obtain ⟨c0, c1, c3, f1, f2⟩ := h.cells
  have HS := Lib.hid h
  obtain ⟨v, hv, hO, hU⟩ := h.ex
  obtain ⟨a0, cap0, hva, -, -⟩ := Row.of_owns hO
  subst hva
  have c2 : w.cell? ⟨sb, 2, none⟩ = some (.slice a0 s.out.length cap0) := by rw [cell_of_row w sb _ _ _ _ hv]; rfl
  clear h hv hO hU
  by_cases he : s.e = 0
  · have HFR := Lib.hid (hfar he)
    rw [he] at c1
    by_cases h1 : s.out.length < far
    · have d1 : decide ((s.out.length : Int) < far) = true := decide_eq_true (by omega)
      have d1' : decide (s.out.length < far) = true := decide_eq_true h1
      have HP : Hid (repV most len far s = failV 14 s) := Lib.hid (by unfold repV; rw [if_neg (by simp [he]), if_pos h1])
      have HF := Lib.hid (sfail_any HS.out 14)
      go_enter Try.func47, Try.ntmps47
      go_wp2_with fail
      refine HF.out.mono ?_
      rintro e w2 ⟨rfl, h2, k2⟩
      have H2 := Lib.hid (And.intro h2 k2)
      clear h2 k2
      go_wp2
      go_end0
      exact ⟨rfl, by rw [HP.out]; exact IsSt.next H2.out⟩
    · have d1 : decide ((s.out.length : Int) < far) = false := decide_eq_false (by omega)
      have d1' : decide (s.out.length < far) = false := decide_eq_false h1
      have i1 : IntKind.i64.wrap ((most : Int) - s.out.length) = (most : Int) - s.out.length := IntWalk.i64_in _ (by omega)
      by_cases h2 : (most : Int) - s.out.length < len
      · have d2 : decide ((most : Int) - s.out.length < len) = true := decide_eq_true h2
        have HP : Hid (repV most len far s = failV 3 s) := Lib.hid (by unfold repV; rw [if_neg (by simp [he]), if_neg h1, if_pos h2])
        go_enter Try.func47, Try.ntmps47
        go_wp2_with fail
        go_quiet (fail)
        have HF := Lib.hid (sfail_any (HS.out.drewN nq).1 3)
        go_wp2_with fail
        refine HF.out.mono ?_
        rintro e w2 ⟨rfl, h2, k2⟩
        have H2 := Lib.hid (And.intro h2 ((HS.out.drewN nq).2.trans k2 (fun b hb => .inl hb)))
        clear h2 k2
        go_wp2
        go_end0
        exact ⟨rfl, by rw [HP.out]; exact IsSt.next H2.out⟩
      · have d2 : decide ((most : Int) - s.out.length < len) = false := decide_eq_false h2
        have HP : Hid (repV most len far s = { s with out := repL far len s.out }) := Lib.hid (by unfold repV; rw [if_neg (by simp [he]), if_neg h1, if_neg h2])
        go_enter Try.func47, Try.ntmps47
        go_wp2_with fail
        go_quiet (fail)
        have HR := Lib.hid (show RepAt w (w.drewN nq) U sb r bs most s far len 0 from ⟨U, s, (HS.out.drewN nq).1, (HS.out.drewN nq).2, fun _ h => .inl h, rfl, rfl, rfl, rfl⟩)
        clear c0 c1 c2 c3 f1 f2 d1 d1' d2 i1
        go_wp2_with fail
        go_loopw [7] (fun vi wr => ∃ j : Nat, vi = .int .i64 j ∧ j ≤ len ∧ Hid (RepAt w wr U sb r bs most s far len j)) (fun vi _ => len - (intOf vi).toNat)
        case atStart => exact ⟨0, rfl, Nat.zero_le _, HR⟩
        case round =>
          obtain ⟨j, rfl, hj, HA⟩ := hrel
          by_cases hlt : j < len
          · obtain ⟨U1, s1, g1, g2, g3, g4, g5, g6, g7⟩ := HA.out
            obtain ⟨c0, c1, c3, f1, f2⟩ := g1.cells
            obtain ⟨v1, hv1, hO1, hU1⟩ := g1.ex
            obtain ⟨a1, cap1, hva, hrow, -⟩ := Row.of_owns hO1
            subst hva
            have c2 : wr.cell? ⟨sb, 2, none⟩ = some (.slice a1 s1.out.length cap1) := by rw [cell_of_row wr sb _ _ _ _ hv1]; rfl
            have hfr1 := HFR.out
            obtain ⟨X, hX⟩ : ∃ X, X = s1.out.length - far := ⟨_, rfl⟩
            obtain ⟨b, off, rfl, hblt, hcx⟩ := Row.at (enc := u8C) 0 (l := s1.out) hrow X (by omega)
            have hcX := hcx X (by omega)
            obtain ⟨c, hc⟩ : ∃ c, c = s1.out.getD X 0 := ⟨_, rfl⟩
            rw [← hc] at hcX
            have hXi : (s1.out.length : Int) - far = (X : Int) := by omega
            have iX : IntKind.i64.wrap (X : Int) = (X : Int) := IntWalk.i64_in _ (by omega)
            have hX0 : (0 : Int) ≤ (X : Int) := by omega
            have hX1 : (X : Int) < (s1.out.length : Int) := by omega
            have hX2 : X < s1.out.length := by omega
            have hlen1 : s1.out.length ≤ 20000000 := by omega
            have hsbw := g1.blt g1.own.1
            have HO1 := Lib.hid hO1
            have HV1 := Lib.hid hv1
            have HU1 := Lib.hid hU1
            have HNX := Lib.hid (fun (w' : World) (hn : StNext wr U1 sb r bs most { s1 with out := s1.out ++ [c] } w') => RepAt.next (far := far) (len := len) g2 g3 g4 g5 g6 g7 hlt (by rw [← hX, ← hc]; exact hn))
            have HG1 := Lib.hid g1
            have hne : b ≠ sb := fun e => by have := (hO1.lt b rfl).1; omega
            clear g1 g2 g3 g4 g5 g6 g7 hO1 hv1 hU1 hrow hX hc hcx hfr1 HA HS HR
            unfold u8C at hcX
            generalize hy : c.toNat = y at hcX
            have HY := Lib.hid hy
            clear hy
            go_wp2_with fail
            go_region_law (first | (obtain ⟨iB, hiB, hzB, hsB, hbB⟩ := info_parts EByte.info; refine step_append_lies _ (by rfl) _ _ _ (by rfl) (sb + 1) 5 iB _ 1 1 EByte.und hiB hzB hsB hbB rfl (by omega) (.slice (some ⟨b, off, none⟩) s1.out.length cap1) s1.out.length _ (by rfl) ((HO1.out.alloc _).drew) ⟨wr.heap.size, 0, none⟩ 1 1 [.int .u8 (y : Nat)] (by rfl) (by rfl) (World.news_of_block (cs := #[.int .u8 (y : Nat)]) (t := 5) (fr := (0, 0)) (heap_alloc_new wr _)) (by simp [Value.oneCell']) (by omega) (by unfold maxLen; omega) (by omega) (by simp; omega) (wr.heap.size + 1) (by simp) ?_; intro g cap7 w7 hO7 hgrow hat hlt7; have hk7 : Keeps (fun k => (Value.slice (some ⟨b, off, none⟩) s1.out.length cap1).ownBlock = some k) wr w7 := ((Keeps.refl _ wr).alloc (.cells #[.int .u8 (y : Nat)] 5)).grown (grown_undrew hgrow) (fun k hk => .inl hk); have ho7 := hk7.obj HV1.out (fun e => hne (by simpa [Value.ownBlock] using e)); have hf7 := frozen_of_row w7 sb 2 _ _ ho7; have hc7 : w7.cell? ⟨sb, 2, none⟩ = some (.slice (some ⟨b, off, none⟩) s1.out.length cap1) := (by rw [cell_of_row w7 sb _ _ _ _ ho7]; rfl); have HNN := Lib.hid (HNX.out _ (HG1.out.putOut (c := c) HV1.out HO1.out HU1.out (by unfold u8C; rw [HY.out]; exact hO7) (grown_undrew hgrow) (new_at hat))); clear hO7 hgrow hat hlt7 hk7 ho7))
            all_goals
              clear hXi iX hX0 hX1 hX2
              go_wp2
              go_roundw
              case rel => exact ⟨j + 1, by go_num, by omega, HNN⟩
              case measure => simp [intOf]; omega
          · obtain rfl : j = len := by omega
            go_wp2
            go_end0
            exact ⟨rfl, by rw [HP.out]; exact HA.out.fin⟩
  · have HP : Hid (repV most len far s = s) := Lib.hid (by unfold repV; rw [if_pos he])
    go_enter Try.func47, Try.ntmps47
    go_wp2
    go_end0
    exact ⟨rfl, by rw [HP.out]; exact IsSt.next ⟨HS.out, Keeps.refl _ _⟩⟩
end Go.Proofs.Ytlmdgaajkjbpgaa
/-
  Walks of layer 5: a symbol's length, and distance, by the program and by the document.
-/
namespace Go.Proofs.Ytlmdgaajkjbpgaa
open Go.RowKit Go.Sort

def LdEnd (V : Int × Int × Bool) (w : World) (e : Ending) (w' : World) : Prop := e = .returned (.tuple #[.int .i64 V.1, .int .i64 V.2.1, .bool V.2.2]) ∧ w' = w

theorem i64_cases {x lo : Int} (n : Nat) (h1 : lo ≤ x) (h2 : x < lo + n) : ∃ k : Nat, k < n ∧ x = lo + k := ⟨(x - lo).toNat, by omega, by omega⟩

set_option maxHeartbeats 4000000 in
theorem length_any (x : Int) (w : World) (hx : -9223372036854775808 ≤ x ∧ x ≤ 9223372036854775807) : Calls Try.prog 10 #[.int .i64 x] w (LdEnd (lenV5 x) w) := by
  by_cases h1 : x < 257
  · have HV : Hid (lenV5 x = (0, 0, false)) := Lib.hid (by unfold lenV5; rw [if_pos (.inl h1)])
    go_enter Try.func10, Try.ntmps10
    go_wp2
    go_ret3
    exact ⟨by rw [HV.out]; rfl, rfl⟩
  · have d1 : decide (x < 257) = false := decide_eq_false h1
    by_cases h2 : 285 < x
    · have HV : Hid (lenV5 x = (0, 0, false)) := Lib.hid (by unfold lenV5; rw [if_pos (.inr h2)])
      go_enter Try.func10, Try.ntmps10
      go_wp2
      go_ret3
      exact ⟨by rw [HV.out]; rfl, rfl⟩
    · have hk2 : x = 257 ∨ x = 258 ∨ x = 259 ∨ x = 260 ∨ x = 261 ∨ x = 262 ∨ x = 263 ∨ x = 264 ∨ x = 265 ∨ x = 266 ∨ x = 267 ∨ x = 268 ∨ x = 269 ∨ x = 270 ∨ x = 271 ∨ x = 272 ∨ x = 273 ∨ x = 274 ∨ x = 275 ∨ x = 276 ∨ x = 277 ∨ x = 278 ∨ x = 279 ∨ x = 280 ∨ x = 281 ∨ x = 282 ∨ x = 283 ∨ x = 284 ∨ x = 285 := by omega
      clear hx h1 h2 d1
      rcases hk2 with rfl | rfl | rfl | rfl | rfl | rfl | rfl | rfl | rfl | rfl | rfl | rfl | rfl | rfl | rfl | rfl | rfl | rfl | rfl | rfl | rfl | rfl | rfl | rfl | rfl | rfl | rfl | rfl | rfl
      all_goals
        go_enter Try.func10, Try.ntmps10
        go_wp2
        go_ret3
        exact ⟨rfl, rfl⟩

set_option maxHeartbeats 4000000 in
theorem distance_any (x : Int) (w : World) (hx : -9223372036854775808 ≤ x ∧ x ≤ 9223372036854775807) : Calls Try.prog 12 #[.int .i64 x] w (LdEnd (disV x) w) := by
  by_cases h1 : x < 0
  · have HV : Hid (disV x = (0, 0, false)) := Lib.hid (by unfold disV; rw [if_pos (.inl h1)])
    go_enter Try.func12, Try.ntmps12
    go_wp2
    go_ret3
    exact ⟨by rw [HV.out]; rfl, rfl⟩
  · have d1 : decide (x < 0) = false := decide_eq_false h1
    by_cases h2 : 29 < x
    · have HV : Hid (disV x = (0, 0, false)) := Lib.hid (by unfold disV; rw [if_pos (.inr h2)])
      go_enter Try.func12, Try.ntmps12
      go_wp2
      go_ret3
      exact ⟨by rw [HV.out]; rfl, rfl⟩
    · have hk2 : x = 0 ∨ x = 1 ∨ x = 2 ∨ x = 3 ∨ x = 4 ∨ x = 5 ∨ x = 6 ∨ x = 7 ∨ x = 8 ∨ x = 9 ∨ x = 10 ∨ x = 11 ∨ x = 12 ∨ x = 13 ∨ x = 14 ∨ x = 15 ∨ x = 16 ∨ x = 17 ∨ x = 18 ∨ x = 19 ∨ x = 20 ∨ x = 21 ∨ x = 22 ∨ x = 23 ∨ x = 24 ∨ x = 25 ∨ x = 26 ∨ x = 27 ∨ x = 28 ∨ x = 29 := by omega
      clear hx h1 h2 d1
      rcases hk2 with rfl | rfl | rfl | rfl | rfl | rfl | rfl | rfl | rfl | rfl | rfl | rfl | rfl | rfl | rfl | rfl | rfl | rfl | rfl | rfl | rfl | rfl | rfl | rfl | rfl | rfl | rfl | rfl | rfl | rfl
      all_goals
        go_enter Try.func12, Try.ntmps12
        go_wp2
        go_ret3
        exact ⟨rfl, rfl⟩

theorem rpower_any (n : Nat) (hn : n ≤ 20) (w : World) : Calls Try.prog 28 #[.int .i64 n] w fun e w' => e = .returned (.int .i64 ((2 : Int) ^ n)) ∧ w' = w := by
  go_enter Try.func28, Try.ntmps28
  go_wp2
  go_loop [3, 4] (fun vx vk => ∃ k : Nat, vk = .int .i64 k ∧ k ≤ n ∧ vx = .int .i64 ((2 : Int) ^ k)) (fun _ vk => n - (intOf vk).toNat)
  case atStart => exact ⟨0, rfl, Nat.zero_le _, rfl⟩
  case round =>
    obtain ⟨k, rfl, hk, rfl⟩ := hrel
    by_cases hlt : k < n
    · have hb : (2 : Int) ^ k ≤ 2 ^ 20 := by exact_mod_cast Nat.pow_le_pow_right (by omega : 0 < 2) (by omega : k ≤ 20)
      have hb0 : (0 : Int) ≤ 2 ^ k := Int.le_of_lt (Int.pow_pos (by omega))
      obtain ⟨P, hP⟩ : ∃ P, P = (2 : Int) ^ k := ⟨_, rfl⟩
      have HP := Lib.hid hP
      rw [← hP] at hb hb0 ⊢
      have hb2 : P ≤ 1048576 := hb
      clear hP hb
      go_wp2
      go_round
      case rel => exact ⟨k + 1, by go_num, by omega, by rw [Int.pow_succ, ← HP.out, Int.mul_comm]⟩
      case measure => simp [intOf]; omega
    · obtain rfl : k = n := by omega
      go_wp2
      go_ret
      exact ⟨rfl, rfl⟩
end Go.Proofs.Ytlmdgaajkjbpgaa
/-
  A scope in which the run jumps back to one label: the relation at every jump bears a number, which every pass lowers.
-/
namespace Go.Proofs.Ytlmdgaajkjbpgaa
open Go

/-- From a pass at one number to the first way. -/
theorem jump_mono {P : Program} {Q : Exit → Act → World → Prop} {a : Act} {w : World} {c : Code} {l : Nat} {J J' : Act → World → Prop} (h : c.wp P (Exit.jump l J Q) a w) (hJ : ∀ a w, J a w → J' a w) : c.wp P (Exit.jump l J' Q) a w := by
  refine wp_mono h ?_
  intro e a' w' hq
  cases e with
  | goto l' => exact ⟨hq.1, hJ _ _ hq.2⟩
  | normal => exact hq
  | exit id => exact hq
  | ret => exact hq
  | panic ch => exact hq
  | outgrown => exact hq
theorem wp_scope_ghost {P : Program} {Q : Exit → Act → World → Prop} {a : Act} {w : World} {c body : Code} (l : Nat) (I : Nat → Act → World → Prop) (hf : findLabel c l = some (Code.skip.seq body))
    (first : (∀ n a w, I n a w → body.wp P (Exit.jump l (fun a w => ∃ n, I n a w) Q) a w) → c.wp P (Exit.jump l (fun a w => ∃ n, I n a w) Q) a w)
    (pass : ∀ n a w, I n a w → body.wp P (Exit.jump l (fun a' w' => ∃ n', n' < n ∧ I n' a' w') Q) a w) : (Code.scope c).wp P Q a w := by
  refine wp_scope_jumps l (fun a w => ∃ n, I n a w) (fun a w => leastOf (fun n => I n a w)) hf (first fun n a w hI => jump_mono (pass n a w hI) fun a w ⟨n', _, h⟩ => ⟨n', h⟩) ?_
  intro a w hI
  refine wp_seq (wp_skip ?_)
  refine wp_mono (pass _ a w (leastOf_spec hI).1) ?_
  intro e a' w' hq
  cases e with
  | goto l' =>
    obtain ⟨h1, n', hlt, hI'⟩ := hq
    exact ⟨h1, ⟨n', hI'⟩, Nat.lt_of_le_of_lt ((leastOf_spec ⟨n', hI'⟩).2 n' hI') hlt⟩
  | normal => exact hq
  | exit id => exact hq
  | ret => exact hq
  | panic ch => exact hq
  | outgrown => exact hq
end Go.Proofs.Ytlmdgaajkjbpgaa
/-
  Walks of layer 5: a block by codes.
-/
namespace Go.Proofs.Ytlmdgaajkjbpgaa
open Go.RowKit Go.Sort

theorem ssym_opt {w : World} {U : Nat → Prop} {sb r : Nat} {bs : List UInt8} {most : Nat} {s : IS} {l : List Int} (h : IsSt w U sb r bs most s) (pt : Option Addr) (hT : s.e = 0 → ∃ p Bl, pt = some ⟨p, 0, none⟩ ∧ IsTb w Bl p l ∧ ¬ Bl r) :
    Calls Try.prog 46 #[.pointer (some ⟨sb, 0, none⟩), .pointer pt] w fun x w' => x = .returned (.int .i64 (symV5 bs l s).1) ∧ IsSt w' U sb r bs most (symV5 bs l s).2 ∧ Keeps U w w' := by
  by_cases he : s.e = 0
  · obtain ⟨p, Bl, rfl, h1, h2⟩ := hT he
    exact ssym_any h h1 h2 _ (fun _ => rfl)
  · obtain ⟨c0, c1, -, f1, -⟩ := h.cells
    have HS := Lib.hid h
    have HV : Hid (symV5 bs l s = (0, s)) := Lib.hid (by unfold symV5; rw [if_pos he])
    clear h hT
    go_enter Try.func46, Try.ntmps46
    go_wp2
    go_ret
    exact ⟨by rw [HV.out]; rfl, by rw [HV.out]; exact ⟨HS.out, Keeps.refl _ _⟩⟩
/-- A table that there is unless an error was met. -/
def TbO (w : World) (U : Nat → Prop) (_ : Nat) (pt : Option Addr) (l : List Int) (e : Int) : Prop := e = 0 → ∃ p Bl, pt = some ⟨p, 0, none⟩ ∧ IsTb w Bl p l ∧ ∀ b, Bl b → b < w.heap.size ∧ ¬ U b
theorem TbO.keeps {w w' : World} {U U' : Nat → Prop} {r : Nat} {pt : Option Addr} {l : List Int} {e e' : Int} (h : TbO w U r pt l e) (hk : Keeps U w w') (hU : ∀ b, U' b → U b ∨ w.heap.size ≤ b) (he : e' = 0 → e = 0) : TbO w' U' r pt l e' := fun h0 => by
  obtain ⟨p, Bl, h1, h2, h3⟩ := h (he h0)
  have := hk.size
  exact ⟨p, Bl, h1, h2.keeps hk (fun b hb => (h3 b hb).2), fun b hb => ⟨by have := (h3 b hb).1; omega, fun hu => (hU b hu).elim (h3 b hb).2 (fun h => by have := (h3 b hb).1; omega)⟩⟩
theorem TbO.use {w : World} {U : Nat → Prop} {r : Nat} {pt : Option Addr} {l : List Int} {e : Int} (h : TbO w U r pt l e) (hr : U r) : e = 0 → ∃ p Bl, pt = some ⟨p, 0, none⟩ ∧ IsTb w Bl p l ∧ ¬ Bl r := fun h0 => by
  obtain ⟨p, Bl, h1, h2, h3⟩ := h h0
  exact ⟨p, Bl, h1, h2, fun hb => (h3 r hb).2 hr⟩

def codedO (bs : List UInt8) (most : Nat) (l d : List Int) : Nat → IS → Option IS
  | 0, _ => none
  | n + 1, s => if (codeV bs most l d s).1 then codedO bs most l d n (codeV bs most l d s).2 else some (codeV bs most l d s).2
theorem numV_e {bs : List UInt8} {n : Nat} {s : IS} (h : (numV bs n s).2.e = 0) : s.e = 0 := by
  unfold numV at h
  split at h
  · exact h
  · rename_i h1; simpa using h1
theorem symV5_e {bs : List UInt8} {l : List Int} {s : IS} (h : (symV5 bs l s).2.e = 0) : s.e = 0 := by
  unfold symV5 at h
  split at h
  · exact h
  · rename_i h1; simpa using h1
theorem failV_e {e : Int} {s : IS} (he : e ≠ 0) : (failV e s).e ≠ 0 := by
  unfold failV
  split
  · exact he
  · assumption
theorem lenV5_bd (x : Int) : 0 ≤ (lenV5 x).1 ∧ (lenV5 x).1 ≤ 258 ∧ 0 ≤ (lenV5 x).2.1 ∧ (lenV5 x).2.1 ≤ 5 := by
  by_cases h : x < 257 ∨ 285 < x
  · have : lenV5 x = (0, 0, false) := by unfold lenV5; rw [if_pos h]
    rw [this]; simp
  · obtain ⟨k, hk, rfl⟩ := i64_cases (lo := 257) 29 (by omega) (x := x) (by omega)
    clear h
    revert k
    decide +kernel
theorem disV_bd (x : Int) : 0 ≤ (disV x).1 ∧ (disV x).1 ≤ 24577 ∧ 0 ≤ (disV x).2.1 ∧ (disV x).2.1 ≤ 13 ∧ ((disV x).2.2 = true → 1 ≤ (disV x).1) := by
  by_cases h : x < 0 ∨ 29 < x
  · have : disV x = (0, 0, false) := by unfold disV; rw [if_pos h]
    rw [this]; simp
  · obtain ⟨k, hk, rfl⟩ := i64_cases (lo := 0) 30 (by omega) (x := x) (by omega)
    clear h
    revert k
    decide +kernel
theorem takeGo_le1 (l : List Int) (f : Nat → Bool) (left : Nat) : ∀ fuel n, (takeGo l f left fuel n).1 ≤ l.length
  | 0, n => Nat.zero_le _
  | fuel + 1, n => by
    unfold takeGo
    split
    · exact Nat.zero_le _
    · split
      · exact Nat.zero_le _
      · split
        · rename_i k hk
          have := List.mem_of_find?_eq_some hk
          exact Nat.le_of_lt (List.mem_range.1 this)
        · exact takeGo_le1 l f left fuel (n + 1)
theorem symV5_le (bs : List UInt8) (l : List Int) (s : IS) : (symV5 bs l s).1 ≤ l.length := by
  unfold symV5
  split
  · exact Nat.zero_le _
  · exact takeGo_le1 _ _ _ _ _

/-- What a block's pass begins with. -/
def CodG (w wr : World) (U : Nat → Prop) (sb r : Nat) (pt pd : Option Addr) (bs : List UInt8) (most : Nat) (l d : List Int) (g : Nat) (s' : IS) : Prop :=
  ∃ U1 s1, IsSt wr U1 sb r bs most s1 ∧ Keeps U w wr ∧ (∀ b, U1 b → U b ∨ w.heap.size ≤ b) ∧ TbO wr U1 r pt l s1.e ∧ TbO wr U1 r pd d s1.e ∧ codedO bs most l d g s1 = some s' ∧ s1.out.length ≤ most
set_option maxRecDepth 100000 in
def CodJ (w : World) (U : Nat → Prop) (sb r : Nat) (pt pd : Option Addr) (bs : List UInt8) (most : Nat) (l d : List Int) (s' : IS) (g : Nat) (a : Act) (wr : World) : Prop :=
  ∃ (u3 u4 u5 u6 u7 u8 u9 u10 u11 u12 u13 u14 u15 u16 u17 u18 u19 u20 u21 u22 u23 u24 u25 u26 u27 u28 u29 u30 u31 u32 u33 u34 u35 u36 u37 u38 u39 u40 u41 u42 u43 u44 u45 u46 u47 u48 u49 u50 u51 u52 u53 u54 u55 u56 u57 u58 u59 u60 u61 u62 u63 u64 u65 u66 u67 u68 u69 u70 u71 u72 u73 u74 u75 u76 u77 u78 u79 u80 : Value), Hid (CodG w wr U sb r pt pd bs most l d g s') ∧ a = { tmps := #[.pointer (some ⟨sb, 0, none⟩), .pointer pt, .pointer pd, u3, u4, u5, u6, u7, u8, u9, u10, u11, u12, u13, u14, u15, u16, u17, u18, u19, u20, u21, u22, u23, u24, u25, u26, u27, u28, u29, u30, u31, u32, u33, u34, u35, u36, u37, u38, u39, u40, u41, u42, u43, u44, u45, u46, u47, u48, u49, u50, u51, u52, u53, u54, u55, u56, u57, u58, u59, u60, u61, u62, u63, u64, u65, u66, u67, u68, u69, u70, u71, u72, u73, u74, u75, u76, u77, u78, u79, u80], defers := [] }

/-- The state of a pass, so far. -/
structure Mid (w wr : World) (U U1 : Nat → Prop) (sb r : Nat) (pt pd : Option Addr) (bs : List UInt8) (most : Nat) (l d : List Int) (s : IS) : Prop where
  st : IsSt wr U1 sb r bs most s
  k : Keeps U w wr
  u : ∀ b, U1 b → U b ∨ w.heap.size ≤ b
  t : TbO wr U1 r pt l s.e
  d : TbO wr U1 r pd d s.e
  o : s.out.length ≤ most
theorem Mid.next {w wr w' : World} {U U1 : Nat → Prop} {sb r : Nat} {pt pd : Option Addr} {bs : List UInt8} {most : Nat} {l d : List Int} {s s2 : IS} (h : Mid w wr U U1 sb r pt pd bs most l d s) (h1 : IsSt w' U1 sb r bs most s2) (h2 : Keeps U1 wr w') (he : s2.e = 0 → s.e = 0) (ho : s2.out.length ≤ most) : Mid w w' U U1 sb r pt pd bs most l d s2 :=
  ⟨h1, h.k.trans h2 h.u, h.u, h.t.keeps h2 (fun _ hb => .inl hb) he, h.d.keeps h2 (fun _ hb => .inl hb) he, ho⟩
theorem Mid.nextU {w wr w' : World} {U U1 : Nat → Prop} {sb r : Nat} {pt pd : Option Addr} {bs : List UInt8} {most : Nat} {l d : List Int} {s s2 : IS} {g : Nat} {s' : IS} (h : Mid w wr U U1 sb r pt pd bs most l d s) (h1 : StNext wr U1 sb r bs most s2 w') (he : s2.e = 0 → s.e = 0) (ho : s2.out.length ≤ most) (hc : codedO bs most l d g s2 = some s') : CodG w w' U sb r pt pd bs most l d g s' := by
  obtain ⟨U2, g1, g2, g3⟩ := h1
  have := h.k.size
  exact ⟨U2, s2, g1, h.k.trans g2 h.u, fun b hb => (g3 b hb).elim (h.u b) (fun h => .inr (by omega)), h.t.keeps g2 g3 he, h.d.keeps g2 g3 he, hc, ho⟩
theorem putV5_le {most : Nat} {c : UInt8} {s : IS} (h : s.out.length ≤ most) : (putV5 most c s).out.length ≤ most := by
  unfold putV5
  split
  · unfold failV; split <;> exact h
  · simp; omega
theorem putV5_e {most : Nat} {c : UInt8} {s : IS} (h : (putV5 most c s).e = 0) : s.e = 0 := by
  unfold putV5 at h
  split at h
  · exact Decidable.byContradiction fun hn => (by unfold failV at h; rw [if_neg hn] at h; exact hn h)
  · exact h
theorem failV_e2 {e : Int} {s : IS} (h : (failV e s).e = 0) (he : e ≠ 0) : s.e = 0 := absurd h (failV_e he)
theorem repV_le {most len far : Nat} {s : IS} (h : s.out.length ≤ most) : (repV most len far s).out.length ≤ most := by
  unfold repV
  split
  · exact h
  · split
    · unfold failV; split <;> exact h
    · split
      · unfold failV; split <;> exact h
      · rw [show ({ s with out := repL far len s.out } : IS).out = repL far len s.out from rfl, repL_len]; omega
theorem repV_e {most len far : Nat} {s : IS} (h : (repV most len far s).e = 0) : s.e = 0 := by
  unfold repV at h
  split at h
  · exact h
  · rename_i h1; simpa using h1
theorem numV_o (bs : List UInt8) (n : Nat) (s : IS) : (numV bs n s).2.out = s.out := by
  unfold numV; split
  · rfl
  · split <;> rfl
theorem symV_o (bs : List UInt8) (l : List Int) (s : IS) : (symV5 bs l s).2.out = s.out := by
  unfold symV5; split <;> rfl
theorem failV_o (e : Int) (s : IS) : (failV e s).out = s.out := by unfold failV; split <;> rfl
theorem numV_lt5 (bs : List UInt8) (n : Nat) (s : IS) : (numV bs n s).1 < 2 ^ n := by
  unfold numV
  split
  · exact Nat.pow_pos (by omega)
  · split
    · exact Nat.pow_pos (by omega)
    · exact getV_lt _ _ _ _ (Nat.le_refl _)

set_option maxRecDepth 100000 in
set_option maxHeartbeats 8000000 in
theorem coded_any {w : World} {U : Nat → Prop} {sb r : Nat} {pt pd : Option Addr} {bs : List UInt8} {most : Nat} {s s' : IS} {l d : List Int} (h : IsSt w U sb r bs most s) (hT : TbO w U r pt l s.e) (hD : TbO w U r pd d s.e) (hl3 : l.length ≤ 320) (hd3 : d.length ≤ 320) (hm : most ≤ 20000000) (ho : s.out.length ≤ most) (g : Nat) (hg : codedO bs most l d g s = some s') :
    Calls Try.prog 32 #[.pointer (some ⟨sb, 0, none⟩), .pointer pt, .pointer pd] w fun x w' => x = .returned (.tuple #[]) ∧ StNext w U sb r bs most s' w' := by
  have HC := Lib.hid (show CodG w w U sb r pt pd bs most l d g s' from ⟨U, s, h, Keeps.refl _ _, fun _ h => .inl h, hT, hD, hg, ho⟩)
  clear h hT hD hg ho
  go_enter Try.func32, Try.ntmps32
  go_wp2_with fail
  refine wp_scope_ghost 0 (CodJ w U sb r pt pd bs most l d s') rfl ?first ?pass
  case first =>
    intro hpass
    have HPASS := Lib.hid hpass
    clear hpass
    go_wp2
    refine wp_label ?_
    rename_i K hK
    exact hK _ _ (HPASS.out _ _ _ ⟨_, _, _, _, _, _, _, _, _, _, _, _, _, _, _, _, _, _, _, _, _, _, _, _, _, _, _, _, _, _, _, _, _, _, _, _, _, _, _, _, _, _, _, _, _, _, _, _, _, _, _, _, _, _, _, _, _, _, _, _, _, _, _, _, _, _, _, _, _, _, _, _, _, _, _, _, _, _, HC, rfl⟩)
  case pass =>
    rintro m a w' ⟨u3, u4, u5, u6, u7, u8, u9, u10, u11, u12, u13, u14, u15, u16, u17, u18, u19, u20, u21, u22, u23, u24, u25, u26, u27, u28, u29, u30, u31, u32, u33, u34, u35, u36, u37, u38, u39, u40, u41, u42, u43, u44, u45, u46, u47, u48, u49, u50, u51, u52, u53, u54, u55, u56, u57, u58, u59, u60, u61, u62, u63, u64, u65, u66, u67, u68, u69, u70, u71, u72, u73, u74, u75, u76, u77, u78, u79, u80, HA, rfl⟩
    obtain ⟨U1, s1, h1, h2, h3, h4, h5, h6, h7⟩ := HA.out
    cases m with
    | zero => cases h6
    | succ m =>
    unfold codedO at h6
    have HM := Lib.hid (show Mid w w' U U1 sb r pt pd bs most l d s1 from ⟨h1, h2, h3, h4, h5, h7⟩)
    have hsy := ssym_opt h1 pt (h4.use h1.own.2)
    have hxl := symV5_le bs l s1
    have hcv : codeV bs most l d s1 = codeV bs most l d s1 := rfl
    obtain ⟨C, hC⟩ : ∃ C, C = codeV bs most l d s1 := ⟨_, rfl⟩
    rw [← hC] at h6
    unfold codeV at hC
    obtain ⟨x, hx⟩ : ∃ x, x = (symV5 bs l s1).1 := ⟨_, rfl⟩
    obtain ⟨s2, hs2⟩ : ∃ s2, s2 = (symV5 bs l s1).2 := ⟨_, rfl⟩
    have hout := symV_o bs l s1
    have hez := fun (h : (symV5 bs l s1).2.e = 0) => symV5_e h
    simp only [← hx, ← hs2] at hC
    rw [← hx, ← hs2] at hsy
    rw [← hs2] at hout hez
    rw [← hx] at hxl
    have HSY := Lib.hid hsy
    have HC6 := Lib.hid h6
    have HCC := Lib.hid hC
    have HOU := Lib.hid hout
    have HEZ := Lib.hid hez
    have hx320 : x ≤ 320 := by omega
    clear h1 h2 h3 h4 h5 h6 h7 hsy hcv hC hout hez hx hs2 HA HC hxl
    go_wp2_with fail
    refine HSY.out.mono ?_
    rintro e w1 ⟨rfl, q1, q2⟩
    have HM2 := Lib.hid (HM.out.next q1 q2 HEZ.out (by rw [HOU.out]; exact HM.out.o))
    obtain ⟨c0, c1, c3, f1, f2⟩ := q1.cells
    clear q1 q2
    by_cases he : s2.e = 0
    · rw [he] at c1
      by_cases h256 : x = 256
      · subst h256
        have hc := HCC.out
        rw [if_pos (.inr rfl)] at hc
        have h6 := HC6.out
        rw [hc] at h6
        have HE := Lib.hid (Option.some.inj (show some s2 = some s' from h6))
        clear h6 hc
        go_wp2
        simp only [Exit.jump]
        refine bodyPost_ret (results_none rfl _ _ _) rfl ?_
        exact ⟨rfl, by rw [← HE.out]; exact ⟨U1, HM2.out.st, HM2.out.k, HM2.out.u⟩⟩
      · have hc := HCC.out
        rw [if_neg (fun h => h.elim (fun h => h he) h256)] at hc
        have hne : ((x : Int) == 256) = false := by rw [beq_eq_false_iff_ne]; omega
        by_cases hlt : x < 256
        · rw [if_pos hlt] at hc
          have h6 := HC6.out
          rw [hc, if_pos rfl] at h6
          have H66 := Lib.hid h6
          have hp := sput5_any HM2.out.st (UInt8.ofNat x) (by have := HM2.out.o; omega)
          have hcx : (UInt8.ofNat x).toNat = x := by rw [UInt8.toNat_ofNat']; exact Nat.mod_eq_of_lt hlt
          rw [hcx] at hp
          have HPU := Lib.hid hp
          have hd : decide ((x : Int) < 256) = true := decide_eq_true (by omega)
          have hd2 : decide (x < 256) = true := decide_eq_true hlt
          have hw : IntKind.u8.wrap (x : Int) = (x : Int) := by unfold IntKind.wrap; simp [IntKind.bits, IntKind.signed]; omega
          clear h6 hp hcx hc
          go_wp2_with fail
          refine HPU.out.mono ?_
          rintro e w2 ⟨rfl, hn⟩
          have HNX := Lib.hid (HM2.out.nextU hn (fun h => putV5_e h) (putV5_le HM2.out.o) H66.out)
          clear hn
          go_wp2
          go_step3
          exact ⟨rfl, m, Nat.lt_succ_self m, _, _, _, _, _, _, _, _, _, _, _, _, _, _, _, _, _, _, _, _, _, _, _, _, _, _, _, _, _, _, _, _, _, _, _, _, _, _, _, _, _, _, _, _, _, _, _, _, _, _, _, _, _, _, _, _, _, _, _, _, _, _, _, _, _, _, _, _, _, _, _, _, _, _, _, _, _, _, HNX, rfl⟩
        · rw [if_neg hlt] at hc
          have hd : decide ((x : Int) < 256) = false := decide_eq_false (by omega)
          have hd2 : decide (x < 256) = false := decide_eq_false hlt
          have HLN := Lib.hid (fun W => length_any (x : Int) W (by omega))
          obtain ⟨b1, b2, b3, b4⟩ := lenV5_bd (x : Int)
          obtain ⟨⟨a0, a1, a2⟩, hA⟩ : ∃ A, A = lenV5 (x : Int) := ⟨_, rfl⟩
          rw [← hA] at hc HLN b1 b2 b3 b4
          dsimp only at b1 b2 b3 b4 hc
          obtain ⟨n0, rfl⟩ := Int.eq_ofNat_of_zero_le b1
          obtain ⟨n1, rfl⟩ := Int.eq_ofNat_of_zero_le b3
          rw [Int.toNat_natCast, Int.toNat_natCast] at hc
          obtain ⟨s3, hs3⟩ : ∃ s3, s3 = (if a2 = true then s2 else failV 11 s2) := ⟨_, rfl⟩
          rw [← hs3] at hc
          obtain ⟨k1, hk1⟩ : ∃ k1, k1 = (numV bs n1 s3).1 := ⟨_, rfl⟩
          obtain ⟨s4, hs4⟩ : ∃ s4, s4 = (numV bs n1 s3).2 := ⟨_, rfl⟩
          rw [← hk1, ← hs4] at hc
          obtain ⟨y, hy⟩ : ∃ y, y = (symV5 bs d s4).1 := ⟨_, rfl⟩
          obtain ⟨s5, hs5⟩ : ∃ s5, s5 = (symV5 bs d s4).2 := ⟨_, rfl⟩
          rw [← hy, ← hs5] at hc
          have hyl : y ≤ 320 := by have := symV5_le bs d s4; omega
          have HDN := Lib.hid (fun W => distance_any (y : Int) W (by omega))
          obtain ⟨e1, e2, e3, e4, e5⟩ := disV_bd (y : Int)
          obtain ⟨⟨f0, f3, f4⟩, hB⟩ : ∃ B, B = disV (y : Int) := ⟨_, rfl⟩
          rw [← hB] at hc HDN e1 e2 e3 e4 e5
          dsimp only at e1 e2 e3 e4 e5 hc
          obtain ⟨m0, rfl⟩ := Int.eq_ofNat_of_zero_le e1
          obtain ⟨m1, rfl⟩ := Int.eq_ofNat_of_zero_le e3
          rw [Int.toNat_natCast, Int.toNat_natCast] at hc
          obtain ⟨s6, hs6⟩ : ∃ s6, s6 = (if f4 = true then s5 else failV 11 s5) := ⟨_, rfl⟩
          rw [← hs6] at hc
          obtain ⟨k2, hk2⟩ : ∃ k2, k2 = (numV bs m1 s6).1 := ⟨_, rfl⟩
          obtain ⟨s7, hs7⟩ : ∃ s7, s7 = (numV bs m1 s6).2 := ⟨_, rfl⟩
          rw [← hk2, ← hs7] at hc
          have h6 := HC6.out
          rw [hc, if_pos rfl] at h6
          have H66 := Lib.hid h6
          have hk1b : k1 < 32 := by rw [hk1]; exact Nat.lt_of_lt_of_le (numV_lt5 bs n1 s3) (Nat.pow_le_pow_right (by omega) (by omega : n1 ≤ 5))
          have hk2b : k2 < 8192 := by rw [hk2]; exact Nat.lt_of_lt_of_le (numV_lt5 bs m1 s6) (Nat.pow_le_pow_right (by omega) (by omega : m1 ≤ 13))
          have HS3 := Lib.hid hs3
          have HK1 := Lib.hid hk1
          have HS4 := Lib.hid hs4
          have HY := Lib.hid hy
          have HS5 := Lib.hid hs5
          have HS6 := Lib.hid hs6
          have HK2 := Lib.hid hk2
          have HS7 := Lib.hid hs7
          have HE5 := Lib.hid e5
          have i1 : IntKind.i64.wrap ((n0 : Int) + k1) = (n0 : Int) + k1 := IntWalk.i64_in _ (by omega)
          have i2 : IntKind.i64.wrap ((m0 : Int) + k2) = (m0 : Int) + k2 := IntWalk.i64_in _ (by omega)
          clear hc hA hB b1 b3 e1 e3 e5 h6 hs3 hk1 hs4 hy hs5 hs6 hk2 hs7
          go_wp2_with fail
          refine (HLN.out _).mono ?_
          rintro e w2 ⟨rfl, rfl⟩
          dsimp only
          cases a2
          case' true =>
            have HM3 := Lib.hid (show Mid w w2 U U1 sb r pt pd bs most l d s3 from by rw [show s3 = s2 from by rw [HS3.out]; rfl]; exact HM2.out)
            obtain ⟨w3, hw3⟩ : ∃ w3, w3 = w2 := ⟨_, rfl⟩
            subst hw3
            go_wp2_with fail
          case' false =>
            have HF := Lib.hid (sfail_any HM2.out.st 11)
            go_wp2_with fail
            refine HF.out.mono ?_
            rintro e w3 ⟨rfl, p1, p2⟩
            have HM3 := Lib.hid (show Mid w w3 U U1 sb r pt pd bs most l d s3 from by rw [show s3 = failV 11 s2 from by rw [HS3.out]; rfl]; exact HM2.out.next p1 p2 (fun h => failV_e2 h (by decide)) (by rw [failV_o]; exact HM2.out.o))
            clear p1 p2
            go_wp2_with fail
          all_goals
            clear c0 c1 c3 f1 f2 hd hd2 hne
            have hn := snum_any HM3.out.st n1 (by omega)
            rw [← HK1.out, ← HS4.out] at hn
            refine hn.mono ?_
            rintro e w4 ⟨rfl, p1, p2⟩
            have HM4 := Lib.hid (HM3.out.next p1 p2 (fun h => numV_e (by rw [← HS4.out]; exact h)) (by rw [HS4.out, numV_o]; exact HM3.out.o))
            clear hn p1 p2
            go_wp2_with fail
            have hy2 := ssym_opt HM4.out.st pd (HM4.out.d.use HM4.out.st.own.2)
            rw [← HY.out, ← HS5.out] at hy2
            refine hy2.mono ?_
            rintro e w5 ⟨rfl, p1, p2⟩
            have HM5 := Lib.hid (HM4.out.next p1 p2 (fun h => symV5_e (by rw [← HS5.out]; exact h)) (by rw [HS5.out, symV_o]; exact HM4.out.o))
            clear hy2 p1 p2
            go_wp2_with fail
            refine (HDN.out _).mono ?_
            rintro e w6 ⟨rfl, rfl⟩
            dsimp only
            cases f4
            case' true =>
              have HM6 := Lib.hid (show Mid w w6 U U1 sb r pt pd bs most l d s6 from by rw [show s6 = s5 from by rw [HS6.out]; rfl]; exact HM5.out)
              have HFA := Lib.hid (show s6.e = 0 → 1 ≤ m0 from fun _ => by have := HE5.out rfl; omega)
              obtain ⟨w7, hw7⟩ : ∃ w7, w7 = w6 := ⟨_, rfl⟩
              subst hw7
              go_wp2_with fail
            case' false =>
              have HF := Lib.hid (sfail_any HM5.out.st 11)
              go_wp2_with fail
              refine HF.out.mono ?_
              rintro e w7 ⟨rfl, p1, p2⟩
              have HM6 := Lib.hid (show Mid w w7 U U1 sb r pt pd bs most l d s6 from by rw [show s6 = failV 11 s5 from by rw [HS6.out]; rfl]; exact HM5.out.next p1 p2 (fun h => failV_e2 h (by decide)) (by rw [failV_o]; exact HM5.out.o))
              have HFA := Lib.hid (show s6.e = 0 → 1 ≤ m0 from fun h => absurd (by rw [show s6 = failV 11 s5 from by rw [HS6.out]; rfl] at h; exact h) (failV_e (s := s5) (e := 11) (by decide)))
              clear p1 p2
              go_wp2_with fail
            all_goals
              have hn := snum_any HM6.out.st m1 (by omega)
              rw [← HK2.out, ← HS7.out] at hn
              refine hn.mono ?_
              rintro e w8 ⟨rfl, p1, p2⟩
              have HM7 := Lib.hid (HM6.out.next p1 p2 (fun h => numV_e (by rw [← HS7.out]; exact h)) (by rw [HS7.out, numV_o]; exact HM6.out.o))
              have hr := srep_any HM7.out.st (n0 + k1) (m0 + k2) (fun h => by have := HFA.out (numV_e (by rw [← HS7.out]; exact h)); omega) (by have := HM7.out.o; omega) hm (by omega) (by omega)
              rw [show ((n0 + k1 : Nat) : Int) = (n0 : Int) + k1 by omega, show ((m0 + k2 : Nat) : Int) = (m0 : Int) + k2 by omega] at hr
              have HR := Lib.hid hr
              clear hn p1 p2 hr
              go_wp2_with fail
              refine HR.out.mono ?_
              rintro e w9 ⟨rfl, hq⟩
              have HNX := Lib.hid (HM7.out.nextU hq (fun h => repV_e h) (repV_le HM7.out.o) H66.out)
              clear hq
              go_wp2
              go_step3
              exact ⟨rfl, m, Nat.lt_succ_self m, _, _, _, _, _, _, _, _, _, _, _, _, _, _, _, _, _, _, _, _, _, _, _, _, _, _, _, _, _, _, _, _, _, _, _, _, _, _, _, _, _, _, _, _, _, _, _, _, _, _, _, _, _, _, _, _, _, _, _, _, _, _, _, _, _, _, _, _, _, _, _, _, _, _, _, _, _, _, HNX, rfl⟩
    · have h6 := HC6.out
      have hc := HCC.out
      rw [if_pos (.inl he)] at hc
      rw [hc] at h6
      have HE := Lib.hid (Option.some.inj (show some s2 = some s' from h6))
      clear h6 hc
      go_wp2
      simp only [Exit.jump]
      refine bodyPost_ret (results_none rfl _ _ _) rfl ?_
      exact ⟨rfl, by rw [← HE.out]; exact ⟨U1, HM2.out.st, HM2.out.k, HM2.out.u⟩⟩
end Go.Proofs.Ytlmdgaajkjbpgaa
/-
  Walks of layer 5: a table of any lengths, or the error.
-/
namespace Go.Proofs.Ytlmdgaajkjbpgaa
open Go.RowKit Go.Sort

def tabV (l : List Int) (s : IS) : IS := if s.e ≠ 0 then s else if roomV l < 0 then { s with e := 13 } else s
theorem tabV_e {l : List Int} {s : IS} (h : (tabV l s).e = 0) : s.e = 0 := by
  unfold tabV at h
  split at h
  · exact h
  · rename_i h1; simpa using h1
theorem tabV_o (l : List Int) (s : IS) : (tabV l s).out = s.out := by
  unfold tabV; split
  · rfl
  · split <;> rfl
set_option maxHeartbeats 2000000 in
theorem stab_gen {w : World} {U : Nat → Prop} {sb r : Nat} {bs : List UInt8} {most : Nat} {s : IS} (h : IsSt w U sb r bs most s) {a : Option Addr} {n cap : Nat} {l : List Int} (hr : Row w 1 a n cap (l.map (Value.int .i64))) (hn : n ≤ 320) (ha : a ≠ none) :
    Calls Try.prog 33 #[.pointer (some ⟨sb, 0, none⟩), .slice a n cap] w fun x w' => ∃ pt, x = .returned (.pointer pt) ∧ IsSt w' U sb r bs most (tabV l s) ∧ Keeps U w w' ∧ ((tabV l s).e = 0 → ∃ p Bl, pt = some ⟨p, 0, none⟩ ∧ IsTb w' Bl p l ∧ ∀ b, Bl b → w.heap.size ≤ b ∧ b < w'.heap.size) := by
  by_cases he : s.e = 0
  · by_cases hroom : roomV l < 0
    · obtain ⟨c0, c1, -, f1, -⟩ := h.cells
      have HS := Lib.hid h
      have HN := Lib.hid (new_bad a n cap l w hr hroom)
      have HV : Hid (tabV l s = failV 13 s) := Lib.hid (by unfold tabV failV; rw [if_neg (by simp [he]), if_pos hroom, if_pos he])
      rw [he] at c1
      clear h hr hroom ha
      go_enter Try.func33, Try.ntmps33
      go_wp2_with fail
      refine HN.out.mono ?_
      rintro e w1 ⟨rfl, hb⟩
      have HF := Lib.hid (sfail_any (HS.out.mono hb) 13)
      have HB := Lib.hid hb
      have HNE := Lib.hid (failV_e (s := s) (e := 13) (by decide))
      clear c0 c1 f1 hb
      go_wp2_with fail
      refine HF.out.mono ?_
      rintro e w2 ⟨rfl, h2, k2⟩
      have H2 := Lib.hid h2
      have K2 := Lib.hid k2
      clear h2 k2
      go_wp2
      go_ret
      exact ⟨none, rfl, by rw [HV.out]; exact H2.out, (Keeps.any HB.out).trans K2.out (fun b hb => .inl hb), fun h0 => absurd (by rw [HV.out] at h0; exact h0) HNE.out⟩
    · refine (stab_ok h he hr (by omega) hn ha).mono ?_
      rintro x w' ⟨p, Bl, rfl, h1, h2, h3, h4⟩
      have e1 : tabV l s = s := by unfold tabV; rw [if_neg (by simp [he]), if_neg hroom]
      rw [e1]
      exact ⟨_, rfl, h3, h4, fun _ => ⟨p, Bl, rfl, h1, h2⟩⟩
  · obtain ⟨c0, c1, -, f1, -⟩ := h.cells
    have HS := Lib.hid h
    have HV : Hid (tabV l s = s) := Lib.hid (by unfold tabV; rw [if_pos he])
    have HE := Lib.hid he
    clear h hr
    go_enter Try.func33, Try.ntmps33
    go_wp2
    go_ret
    exact ⟨none, rfl, by rw [HV.out]; exact HS.out, Keeps.refl _ _, fun h0 => absurd (by rw [HV.out] at h0; exact h0) HE.out⟩
end Go.Proofs.Ytlmdgaajkjbpgaa
