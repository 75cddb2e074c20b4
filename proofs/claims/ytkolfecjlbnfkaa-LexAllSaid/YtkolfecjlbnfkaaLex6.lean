/-
  The walk of layer 10: what stands behind a backslash.
-/
import Derived.Test.YtkolfecjlbnfkaaLex5
import Derived.StillTailTactics
namespace Go.Proofs.Ytkolfecjlbnfkaa
open Go.RowKit

theorem escStep_of {X : Src} {out : List UInt8} {k : Nat} (hk : k < X.bs.length) (r : Option (List UInt8 × Nat)) (h : escV X.last (X.bs.getD k 0 :: X.bs.drop (k + 1)) = r) : escStep X out k = r.map fun x => (out ++ x.1, k + x.2) := by
  unfold escStep; rw [drop_cons hk, h]

theorem escV_far (last : Bool) (c : UInt8) (t : List UInt8) (n1 : c ≠ 110) (n2 : c ≠ 114) (n3 : c ≠ 116) (n4 : c ≠ 98) (n5 : c ≠ 102) : escV last (c :: t) =
    if isOc c = true then (octV last c t).map (fun x => ([UInt8.ofNat x.1], x.2)) else if c = 10 then some ([], 1) else if c = 13 then (lineV last t).map (fun k => ([], k + 1)) else some ([c], 1) := by
  simp only [escV]
  rw [if_neg n1, if_neg n2, if_neg n3, if_neg n4, if_neg n5]
theorem step_none {w w2 : World} {S : Nat → Prop} {p : Nat} {X : Src} {V : Option (List UInt8 × Nat)} (hV : V = none) (h : ∃ out k, ScNext w S p X out k w2) : StepEnd w S p X V (.returned (.bool false)) w2 := by
  subst hV; exact ⟨rfl, h⟩
theorem step_some {w w2 : World} {S : Nat → Prop} {p : Nat} {X : Src} {V : Option (List UInt8 × Nat)} {o2 : List UInt8} {k2 : Nat} (hV : V = some (o2, k2)) (h : ScNext w S p X o2 k2 w2) : StepEnd w S p X V (.returned (.bool true)) w2 := by
  subst hV; exact ⟨rfl, h⟩
theorem line_other (a : Value) (x : Int) (hx : (x != 13) = true) (w : World) : Calls Try.prog 43 #[a, .int .u8 x] w fun e w' => e = .returned (.bool true) ∧ w = w' := by
  go_enter Try.func43, Try.ntmps43
  go_wp2
  go_ret
  exact ⟨rfl, rfl⟩

set_option maxRecDepth 8000 in
set_option maxHeartbeats 8000000 in
theorem escape_any {w : World} {S : Nat → Prop} {p : Nat} {X : Src} {out : List UInt8} {k : Nat} (h : ScQ w S p X out k) (hok : out.length ≤ k) :
    Calls Try.prog 42 #[.pointer (some ⟨p, 0, none⟩)] w (StepEnd w S p X (escStep X out k)) := by
  obtain ⟨V, hV⟩ : ∃ V, V = escStep X out k := ⟨_, rfl⟩
  rw [← hV]
  have hP := peek_any h
  unfold peekV u8C at hP
  have hsm : X.bs.length ≤ 100000 := by obtain ⟨_, _, h⟩ := h; exact h.small
  by_cases hk : k < X.bs.length
  case neg =>
    rw [if_neg hk] at hP
    have HP := Lib.hid hP
    have HL := Lib.hid (show V = none by rw [hV]; unfold escStep; rw [drop_nil hk]; rfl)
    have HQ := Lib.hid h
    clear hV hP h hk
    go_enter Try.func42, Try.ntmps42
    go_wp2_with fail
    refine HP.out.mono ?_
    rintro e w1 ⟨rfl, q, rfl⟩
    have HN2 := Lib.hid (ScNext.drew q (ScNext.refl (HQ.out.drewN q)))
    go_wp2
    go_ret
    rw [HL.out]
    exact ⟨rfl, _, _, HN2.out⟩
  rw [if_pos hk] at hP
  have HMV := Lib.hid (fun q => (let ⟨_, _, h1⟩ := h.drewN q; h1.move (k + 1) (by omega) (by omega)))
  have HC3 := Lib.hid (fun q => (let ⟨_, _, h1⟩ := h.drewN q; (And.intro h1.cells.2.2.2.1 (h1.free 3))))
  have hSI := fun (c : UInt8) W => sidx2_any ⟨#[110, 114, 116, 98, 102]⟩ (c.toNat : Int) W
  have hSI2 : ∀ (c : UInt8) W, Calls Try.prog 26 #[.string ⟨#[110, 114, 116, 98, 102]⟩, .int .u8 c.toNat] W fun e w' => e = .returned (.int .i64 (Lib.indexByte [110, 114, 116, 98, 102] c)) ∧ W = w' := fun c W => by
    have := hSI c W; rw [u8_back] at this; exact this
  have hE := fun r hr => hV.trans (escStep_of (X := X) (out := out) (k := k) hk r hr)
  obtain ⟨c, hc⟩ : ∃ c, c = X.bs.getD k 0 := ⟨_, rfl⟩
  rw [← hc] at hP hE
  clear hSI hV hc
  rcases esc_idx c with ⟨hix, n1, n2, n3, n4, n5⟩ | hlit
  · have hIX := hSI2 c
    rw [hix] at hIX
    have HIX := Lib.hid hIX
    have HP := Lib.hid hP
    clear hIX hSI2 hP
    by_cases hoc : isOc c = true
    · have HV := Lib.hid (hE _ (show escV X.last (c :: X.bs.drop (k + 1)) = (octV X.last c (X.bs.drop (k + 1))).map fun x => ([UInt8.ofNat x.1], x.2) by
        rw [escV_far _ _ _ n1 n2 n3 n4 n5, if_pos hoc]))
      have hoc2 := isOc_iff.1 hoc
      have h48 : decide ((48 : Int) ≤ c.toNat) = true := by simp; omega
      have h55 : decide ((c.toNat : Int) ≤ 55) = true := by simp; omega
      clear hE n1 n2 n3 n4 n5 hix hoc2
      go_enter Try.func42, Try.ntmps42
      go_wp2_with fail
      refine HP.out.mono ?_
      rintro e w1 ⟨rfl, q, rfl⟩
      obtain ⟨c3, f3⟩ := HC3.out q
      obtain ⟨S1, q1, k1, s1⟩ := HMV.out q
      have HQ1 := Lib.hid q1
      have HK1 := Lib.hid (Keeps.trans ((Keeps.refl S w).drewN q) k1 (fun _ h => .inl h))
      have HS1 := Lib.hid s1
      clear q1 k1 s1
      go_wp2_with fail
      refine (HIX.out _).mono ?_
      rintro e w2 ⟨rfl, rfl⟩
      rw [show ((k : Int) + 1) = ((k + 1 : Nat) : Int) from rfl]
      generalize (w.drewN q).setCell ⟨p, 3, none⟩ (.int .i64 ((k + 1 : Nat) : Int)) = w2 at *
      clear c3 f3
      have HO := Lib.hid (octal_any HQ1.out c hoc (by omega))
      go_wp2_with fail
      refine HO.out.mono ?_
      rintro e w3 hstep
      have HST := Lib.hid hstep
      clear hstep
      have HG := Lib.hid (show V = (octGo X.last 2 (c.toNat - 48) (X.bs.drop (k + 1))).map fun x => (out ++ [UInt8.ofNat x.1], k + 1 + x.2) by
        rw [HV.out, octV_go, Option.map_map, Option.map_map]
        congr 1
        funext x
        simp only [Function.comp]
        rw [show k + (x.2 + 1) = k + 1 + x.2 from by omega])
      rw [← HG.out] at HST
      cases hVV : V with
      | none =>
        rw [hVV] at HST
        obtain ⟨rfl, o2, k2, hn⟩ := HST.out
        have HN := Lib.hid hn
        clear HST hn
        go_wp2
        go_ret
        exact step_none hVV ⟨o2, k2, ScNext.trans HK1.out HS1.out HN.out⟩
      | some ok =>
        obtain ⟨o2, k2⟩ := ok
        rw [hVV] at HST
        obtain ⟨rfl, hn⟩ := HST.out
        have HN := Lib.hid hn
        clear HST hn
        go_wp2
        go_ret
        exact step_some hVV (ScNext.trans HK1.out HS1.out HN.out)
    · have hoc2 : ¬ (48 ≤ c.toNat ∧ c.toNat ≤ 55) := fun e => hoc (isOc_iff.2 e)
      by_cases h10 : c = 10
      · subst h10
        have HV := Lib.hid (show V = some (out ++ [], k + 1) from hE _ (show escV X.last (10 :: X.bs.drop (k + 1)) = some ([], 1) from rfl))
        clear hE n1 n2 n3 n4 n5 hix hoc hoc2
        go_enter Try.func42, Try.ntmps42
        go_wp2_with fail
        refine HP.out.mono ?_
        rintro e w1 ⟨rfl, q, rfl⟩
        obtain ⟨c3, f3⟩ := HC3.out q
        obtain ⟨S1, q1, k1, s1⟩ := HMV.out q
        have HQ1 := Lib.hid q1
        have HK1 := Lib.hid (Keeps.trans ((Keeps.refl S w).drewN q) k1 (fun _ h => .inl h))
        have HS1 := Lib.hid s1
        clear q1 k1 s1
        go_wp2_with fail
        refine (HIX.out _).mono ?_
        rintro e w2 ⟨rfl, rfl⟩
        rw [show ((k : Int) + 1) = ((k + 1 : Nat) : Int) from rfl]
        generalize (w.drewN q).setCell ⟨p, 3, none⟩ (.int .i64 ((k + 1 : Nat) : Int)) = w2 at *
        clear c3 f3
        go_wp2_with (go_at_call 43; refine (line_other _ _ rfl _).mono ?_; rintro e w3 ⟨rfl, rfl⟩)
        go_ret
        exact step_some (by rw [HV.out, List.append_nil]) (ScNext.trans HK1.out HS1.out (ScNext.refl HQ1.out))
      · by_cases h13 : c = 13
        · subst h13
          have HV := Lib.hid (hE _ (show escV X.last (13 :: X.bs.drop (k + 1)) = (lineV X.last (X.bs.drop (k + 1))).map fun j => ([], j + 1) from rfl))
          clear hE n1 n2 n3 n4 n5 hix hoc hoc2 h10
          go_enter Try.func42, Try.ntmps42
          go_wp2_with fail
          refine HP.out.mono ?_
          rintro e w1 ⟨rfl, q, rfl⟩
          obtain ⟨c3, f3⟩ := HC3.out q
          obtain ⟨S1, q1, k1, s1⟩ := HMV.out q
          have HQ1 := Lib.hid q1
          have HK1 := Lib.hid (Keeps.trans ((Keeps.refl S w).drewN q) k1 (fun _ h => .inl h))
          have HS1 := Lib.hid s1
          clear q1 k1 s1
          go_wp2_with fail
          refine (HIX.out _).mono ?_
          rintro e w2 ⟨rfl, rfl⟩
          rw [show ((k : Int) + 1) = ((k + 1 : Nat) : Int) from rfl]
          generalize (w.drewN q).setCell ⟨p, 3, none⟩ (.int .i64 ((k + 1 : Nat) : Int)) = w2 at *
          clear c3 f3
          have HO := Lib.hid (line_any HQ1.out)
          go_wp2_with fail
          refine HO.out.mono ?_
          rintro e w3 hstep
          have HST := Lib.hid hstep
          clear hstep
          have HG := Lib.hid (show V = (lineV X.last (X.bs.drop (k + 1))).map fun j => (out, k + 1 + j) by
            rw [HV.out, Option.map_map]
            congr 1
            funext x
            simp only [Function.comp, List.append_nil]
            rw [show k + (x + 1) = k + 1 + x from by omega])
          rw [← HG.out] at HST
          cases hVV : V with
          | none =>
            rw [hVV] at HST
            obtain ⟨rfl, o2, k2, hn⟩ := HST.out
            have HN := Lib.hid hn
            clear HST hn
            go_wp2
            go_ret
            exact step_none hVV ⟨o2, k2, ScNext.trans HK1.out HS1.out HN.out⟩
          | some ok =>
            obtain ⟨o2, k2⟩ := ok
            rw [hVV] at HST
            obtain ⟨rfl, hn⟩ := HST.out
            have HN := Lib.hid hn
            clear HST hn
            go_wp2
            go_ret
            exact step_some hVV (ScNext.trans HK1.out HS1.out HN.out)
        · have HV := Lib.hid (show V = some (out ++ [c], k + 1) from hE (some ([c], 1)) (by rw [escV_far _ _ _ n1 n2 n3 n4 n5, if_neg hoc, if_neg h10, if_neg h13]))
          have h10d : ((c.toNat : Int) == 10) = false := by rw [beq_eq_false_iff_ne]; intro e; exact h10 (UInt8.toNat_inj.1 (Int.ofNat_inj.1 e))
          have h13d : ((c.toNat : Int) == 13) = false := by rw [beq_eq_false_iff_ne]; intro e; exact h13 (UInt8.toNat_inj.1 (Int.ofNat_inj.1 e))
          have HWB := Lib.hid (fun W S1 (h : ScQ W S1 p X out (k + 1)) => writeByte_any h c (c.toNat : Int) rfl (by omega))
          by_cases h48 : (48 : Int) ≤ c.toNat
          · have h48d : decide ((48 : Int) ≤ c.toNat) = true := by simpa using h48
            have h55d : decide ((c.toNat : Int) ≤ 55) = false := by simp; omega
            clear hE n1 n2 n3 n4 n5 hix hoc hoc2 h10 h13 h48
            generalize (c.toNat : Int) = x at *
            go_enter Try.func42, Try.ntmps42
            go_wp2_with fail
            refine HP.out.mono ?_
            rintro e w1 ⟨rfl, q, rfl⟩
            obtain ⟨c3, f3⟩ := HC3.out q
            obtain ⟨S1, q1, k1, s1⟩ := HMV.out q
            have HQ1 := Lib.hid q1
            have HK1 := Lib.hid (Keeps.trans ((Keeps.refl S w).drewN q) k1 (fun _ h => .inl h))
            have HS1 := Lib.hid s1
            clear q1 k1 s1
            go_wp2_with fail
            refine (HIX.out _).mono ?_
            rintro e w2 ⟨rfl, rfl⟩
            rw [show ((k : Int) + 1) = ((k + 1 : Nat) : Int) from rfl]
            generalize (w.drewN q).setCell ⟨p, 3, none⟩ (.int .i64 ((k + 1 : Nat) : Int)) = w2 at *
            clear c3 f3
            go_wp2_with fail
            refine (HWB.out _ _ HQ1.out).mono ?_
            rintro e w3 ⟨rfl, hn⟩
            have HN := Lib.hid hn
            clear hn
            go_wp2
            go_ret
            exact step_some HV.out (ScNext.trans HK1.out HS1.out HN.out)
          · have h48d : decide ((48 : Int) ≤ c.toNat) = false := by simpa using h48
            clear hE n1 n2 n3 n4 n5 hix hoc hoc2 h10 h13 h48
            generalize (c.toNat : Int) = x at *
            go_enter Try.func42, Try.ntmps42
            go_wp2_with fail
            refine HP.out.mono ?_
            rintro e w1 ⟨rfl, q, rfl⟩
            obtain ⟨c3, f3⟩ := HC3.out q
            obtain ⟨S1, q1, k1, s1⟩ := HMV.out q
            have HQ1 := Lib.hid q1
            have HK1 := Lib.hid (Keeps.trans ((Keeps.refl S w).drewN q) k1 (fun _ h => .inl h))
            have HS1 := Lib.hid s1
            clear q1 k1 s1
            go_wp2_with fail
            refine (HIX.out _).mono ?_
            rintro e w2 ⟨rfl, rfl⟩
            rw [show ((k : Int) + 1) = ((k + 1 : Nat) : Int) from rfl]
            generalize (w.drewN q).setCell ⟨p, 3, none⟩ (.int .i64 ((k + 1 : Nat) : Int)) = w2 at *
            clear c3 f3
            go_wp2_with fail
            refine (HWB.out _ _ HQ1.out).mono ?_
            rintro e w3 ⟨rfl, hn⟩
            have HN := Lib.hid hn
            clear hn
            go_wp2
            go_ret
            exact step_some HV.out (ScNext.trans HK1.out HS1.out HN.out)
  · have hall : ∀ d : UInt8, (c = 110 ∧ d = 10) ∨ (c = 114 ∧ d = 13) ∨ (c = 116 ∧ d = 9) ∨ (c = 98 ∧ d = 8) ∨ (c = 102 ∧ d = 12) → V = some (out ++ [d], k + 1) := by
      rintro d (⟨rfl, rfl⟩ | ⟨rfl, rfl⟩ | ⟨rfl, rfl⟩ | ⟨rfl, rfl⟩ | ⟨rfl, rfl⟩)
      all_goals exact hE _ rfl
    have HALL := Lib.hid hall
    have HWB := Lib.hid (fun W S1 (h : ScQ W S1 p X out (k + 1)) (d : UInt8) => writeByte_any h d (d.toNat : Int) rfl (by omega))
    clear hall hE
    rcases hlit with rfl | rfl | rfl | rfl | rfl
    · have hIX := hSI2 110
      rw [show Lib.indexByte [110, 114, 116, 98, 102] 110 = 0 from rfl] at hIX
      have HIX := Lib.hid hIX
      have HP := Lib.hid hP
      clear hIX hSI2 hP
      go_enter Try.func42, Try.ntmps42
      go_wp2_with fail
      refine HP.out.mono ?_
      rintro e w1 ⟨rfl, q, rfl⟩
      obtain ⟨c3, f3⟩ := HC3.out q
      obtain ⟨S1, q1, k1, s1⟩ := HMV.out q
      have HQ1 := Lib.hid q1
      have HK1 := Lib.hid (Keeps.trans ((Keeps.refl S w).drewN q) k1 (fun _ h => .inl h))
      have HS1 := Lib.hid s1
      clear q1 k1 s1
      go_wp2_with fail
      refine (HIX.out _).mono ?_
      rintro e w2 ⟨rfl, rfl⟩
      rw [show ((k : Int) + 1) = ((k + 1 : Nat) : Int) from rfl]
      generalize (w.drewN q).setCell ⟨p, 3, none⟩ (.int .i64 ((k + 1 : Nat) : Int)) = w2 at *
      clear c3 f3
      go_wp2_with fail
      go_still_tail 5, (by kernel_rfl)
      go_wp2_with fail
      refine (HWB.out _ _ (HQ1.out.drewN 1) 10).mono ?_
      rintro e w3 ⟨rfl, hn⟩
      have HN := Lib.hid hn
      clear hn
      go_wp2
      go_ret
      exact step_some (HALL.out 10 (by simp)) (ScNext.trans (HK1.out.drewN 1) HS1.out HN.out)
    · have hIX := hSI2 114
      rw [show Lib.indexByte [110, 114, 116, 98, 102] 114 = 1 from rfl] at hIX
      have HIX := Lib.hid hIX
      have HP := Lib.hid hP
      clear hIX hSI2 hP
      go_enter Try.func42, Try.ntmps42
      go_wp2_with fail
      refine HP.out.mono ?_
      rintro e w1 ⟨rfl, q, rfl⟩
      obtain ⟨c3, f3⟩ := HC3.out q
      obtain ⟨S1, q1, k1, s1⟩ := HMV.out q
      have HQ1 := Lib.hid q1
      have HK1 := Lib.hid (Keeps.trans ((Keeps.refl S w).drewN q) k1 (fun _ h => .inl h))
      have HS1 := Lib.hid s1
      clear q1 k1 s1
      go_wp2_with fail
      refine (HIX.out _).mono ?_
      rintro e w2 ⟨rfl, rfl⟩
      rw [show ((k : Int) + 1) = ((k + 1 : Nat) : Int) from rfl]
      generalize (w.drewN q).setCell ⟨p, 3, none⟩ (.int .i64 ((k + 1 : Nat) : Int)) = w2 at *
      clear c3 f3
      go_wp2_with fail
      go_still_tail 5, (by kernel_rfl)
      go_wp2_with fail
      refine (HWB.out _ _ (HQ1.out.drewN 1) 13).mono ?_
      rintro e w3 ⟨rfl, hn⟩
      have HN := Lib.hid hn
      clear hn
      go_wp2
      go_ret
      exact step_some (HALL.out 13 (by simp)) (ScNext.trans (HK1.out.drewN 1) HS1.out HN.out)
    · have hIX := hSI2 116
      rw [show Lib.indexByte [110, 114, 116, 98, 102] 116 = 2 from rfl] at hIX
      have HIX := Lib.hid hIX
      have HP := Lib.hid hP
      clear hIX hSI2 hP
      go_enter Try.func42, Try.ntmps42
      go_wp2_with fail
      refine HP.out.mono ?_
      rintro e w1 ⟨rfl, q, rfl⟩
      obtain ⟨c3, f3⟩ := HC3.out q
      obtain ⟨S1, q1, k1, s1⟩ := HMV.out q
      have HQ1 := Lib.hid q1
      have HK1 := Lib.hid (Keeps.trans ((Keeps.refl S w).drewN q) k1 (fun _ h => .inl h))
      have HS1 := Lib.hid s1
      clear q1 k1 s1
      go_wp2_with fail
      refine (HIX.out _).mono ?_
      rintro e w2 ⟨rfl, rfl⟩
      rw [show ((k : Int) + 1) = ((k + 1 : Nat) : Int) from rfl]
      generalize (w.drewN q).setCell ⟨p, 3, none⟩ (.int .i64 ((k + 1 : Nat) : Int)) = w2 at *
      clear c3 f3
      go_wp2_with fail
      go_still_tail 5, (by kernel_rfl)
      go_wp2_with fail
      refine (HWB.out _ _ (HQ1.out.drewN 1) 9).mono ?_
      rintro e w3 ⟨rfl, hn⟩
      have HN := Lib.hid hn
      clear hn
      go_wp2
      go_ret
      exact step_some (HALL.out 9 (by simp)) (ScNext.trans (HK1.out.drewN 1) HS1.out HN.out)
    · have hIX := hSI2 98
      rw [show Lib.indexByte [110, 114, 116, 98, 102] 98 = 3 from rfl] at hIX
      have HIX := Lib.hid hIX
      have HP := Lib.hid hP
      clear hIX hSI2 hP
      go_enter Try.func42, Try.ntmps42
      go_wp2_with fail
      refine HP.out.mono ?_
      rintro e w1 ⟨rfl, q, rfl⟩
      obtain ⟨c3, f3⟩ := HC3.out q
      obtain ⟨S1, q1, k1, s1⟩ := HMV.out q
      have HQ1 := Lib.hid q1
      have HK1 := Lib.hid (Keeps.trans ((Keeps.refl S w).drewN q) k1 (fun _ h => .inl h))
      have HS1 := Lib.hid s1
      clear q1 k1 s1
      go_wp2_with fail
      refine (HIX.out _).mono ?_
      rintro e w2 ⟨rfl, rfl⟩
      rw [show ((k : Int) + 1) = ((k + 1 : Nat) : Int) from rfl]
      generalize (w.drewN q).setCell ⟨p, 3, none⟩ (.int .i64 ((k + 1 : Nat) : Int)) = w2 at *
      clear c3 f3
      go_wp2_with fail
      go_still_tail 5, (by kernel_rfl)
      go_wp2_with fail
      refine (HWB.out _ _ (HQ1.out.drewN 1) 8).mono ?_
      rintro e w3 ⟨rfl, hn⟩
      have HN := Lib.hid hn
      clear hn
      go_wp2
      go_ret
      exact step_some (HALL.out 8 (by simp)) (ScNext.trans (HK1.out.drewN 1) HS1.out HN.out)
    · have hIX := hSI2 102
      rw [show Lib.indexByte [110, 114, 116, 98, 102] 102 = 4 from rfl] at hIX
      have HIX := Lib.hid hIX
      have HP := Lib.hid hP
      clear hIX hSI2 hP
      go_enter Try.func42, Try.ntmps42
      go_wp2_with fail
      refine HP.out.mono ?_
      rintro e w1 ⟨rfl, q, rfl⟩
      obtain ⟨c3, f3⟩ := HC3.out q
      obtain ⟨S1, q1, k1, s1⟩ := HMV.out q
      have HQ1 := Lib.hid q1
      have HK1 := Lib.hid (Keeps.trans ((Keeps.refl S w).drewN q) k1 (fun _ h => .inl h))
      have HS1 := Lib.hid s1
      clear q1 k1 s1
      go_wp2_with fail
      refine (HIX.out _).mono ?_
      rintro e w2 ⟨rfl, rfl⟩
      rw [show ((k : Int) + 1) = ((k + 1 : Nat) : Int) from rfl]
      generalize (w.drewN q).setCell ⟨p, 3, none⟩ (.int .i64 ((k + 1 : Nat) : Int)) = w2 at *
      clear c3 f3
      go_wp2_with fail
      go_still_tail 5, (by kernel_rfl)
      go_wp2_with fail
      refine (HWB.out _ _ (HQ1.out.drewN 1) 12).mono ?_
      rintro e w3 ⟨rfl, hn⟩
      have HN := Lib.hid hn
      clear hn
      go_wp2
      go_ret
      exact step_some (HALL.out 12 (by simp)) (ScNext.trans (HK1.out.drewN 1) HS1.out HN.out)
end Go.Proofs.Ytkolfecjlbnfkaa
