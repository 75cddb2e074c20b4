/-
  Our texts Num4 to Pad2, in one.
-/
import Derived.Test.YtnkodejgiabamaaDoorPkV7
import Derived.PlainAid
/-
  The walk of num.Parse: the number of a text.
-/
namespace Go.Proofs.YtnkodejgiabamaaDoor
open Go.RowKit

theorem infoVal : (Tryd.prog.info? 24).map (·.size) = some 4 := by kernel_rfl

theorem results_val {P : Program} {fn : Func} {p u : Tmp} {ty : TypeId} (h : fn.results = #[.cell p ty, .tmp u]) (tmps : Array Value) (w : World) (g : Nat) (t : TypeId) (cs : Array Value) (fr : Nat × Nat) (d : TypeDesc)
    (hp : tmps.getD p undef = .pointer (some ⟨g, 0, none⟩)) (hg : w.heap[g]? = some (.cells cs t fr))
    (hu : P.underlying ty = some d) (hd : (match d with | .struct _ | .array _ _ => true | _ => false) = true) (hi : (P.info? ty).map (·.size) = some cs.size) (v : Value) (hv : tmps.getD u undef = v) :
    (results fn tmps).run P w = .ok (.tuple #[.agg cs, v]) w := by
  rw [results_cell_tmp h, hp, hv]
  simp [asAddr, Result.andThen, run_loadVar_row w g t ty cs fr d hg hu hd hi]

/-- Four cells of a block are set. -/
theorem set4 {w : World} {b : Nat} {x0 x1 x2 x3 : Value} {t : TypeId} (h : w.heap[b]? = some (.cells #[x0, x1, x2, x3] t (0, 0))) (y0 y1 y2 y3 : Value) :
    ((((w.setCell ⟨b, 0, none⟩ y0).setCell ⟨b, 1, none⟩ y1).setCell ⟨b, 2, none⟩ y2).setCell ⟨b, 3, none⟩ y3).heap[b]? = some (.cells #[y0, y1, y2, y3] t (0, 0)) := by
  rw [heap_setCell_same _ _ 3 _ _ _ (heap_setCell_same _ _ 2 _ _ _ (heap_setCell_same _ _ 1 _ _ _ (heap_setCell_same w _ 0 _ _ _ h)))]; rfl
theorem below_set4 {B : Nat} {w0 w : World} (h : Below B w0 w) {b : Nat} (hb : B ≤ b) (y0 y1 y2 y3 : Value) :
    Below B w0 ((((w.setCell ⟨b, 0, none⟩ y0).setCell ⟨b, 1, none⟩ y1).setCell ⟨b, 2, none⟩ y2).setCell ⟨b, 3, none⟩ y3) :=
  (((h.setCell hb _).setCell hb _).setCell hb _).setCell hb _

theorem cells4 {w : World} {b : Nat} {x0 x1 x2 x3 : Value} {t : TypeId} (h : w.heap[b]? = some (.cells #[x0, x1, x2, x3] t (0, 0))) :
    (w.cell? ⟨b, 0, none⟩ = some x0 ∧ w.cell? ⟨b, 1, none⟩ = some x1 ∧ w.cell? ⟨b, 2, none⟩ = some x2 ∧ w.cell? ⟨b, 3, none⟩ = some x3) ∧
    (w.frozen? ⟨b, 0, none⟩ = false ∧ w.frozen? ⟨b, 1, none⟩ = false ∧ w.frozen? ⟨b, 2, none⟩ = false ∧ w.frozen? ⟨b, 3, none⟩ = false) := by
  refine ⟨⟨?_, ?_, ?_, ?_⟩, frozen_of_row w b 0 _ _ h, frozen_of_row w b 1 _ _ h, frozen_of_row w b 2 _ _ h, frozen_of_row w b 3 _ _ h⟩
  · rw [cell_of_row w b 0 _ _ _ h]; rfl
  · rw [cell_of_row w b 1 _ _ _ h]; rfl
  · rw [cell_of_row w b 2 _ _ _ h]; rfl
  · rw [cell_of_row w b 3 _ _ _ h]; rfl

def ParseEnd (V : Int × Int × Int) (w : World) (e : Ending) (w' : World) : Prop := e = .returned (.tuple #[.agg (valC V.1 V.2.1 noStr), .int .i64 V.2.2]) ∧ Below w.heap.size w w'

theorem digits0 (l : List UInt8) (h : l.all isDg = true) : digitsV (48 :: l) = if 2147483647 < valD l then (0, 5) else (((valD l : Nat) : Int), 0) := by
  have hv : valD (48 :: l) = valD l := valD_zl 1 l
  have ha : (48 :: l).all isDg = true := by rw [List.all_cons, h]; rfl
  by_cases ho : 2147483647 < valD l
  · rw [if_pos ho, digitsV_over (by simp) ha (by rw [hv]; exact ho)]
  · rw [if_neg ho, digitsV_ok (by simp) ha (by rw [hv]; omega), hv]

theorem hd1_true {s : ByteArray} {c : UInt8} (h : hd1 s c = true) : (bl s).head? = some c ∧ 1 ≤ s.size := by
  unfold hd1 at h
  have h2 : (bl s).head? = some c := by simpa using h
  refine ⟨h2, ?_⟩
  have : bl s ≠ [] := by intro e; rw [e] at h2; simp at h2
  have h3 := List.length_pos_iff.2 this
  rw [bl_len] at h3; exact h3
theorem hd1_false {s : ByteArray} {c : UInt8} (h : hd1 s c = false) : (bl s).head? ≠ some c := by
  unfold hd1 at h; simpa using h

/-- What stands behind the sign. -/
theorem body_from {s : ByteArray} (h : (bl s).head? = some 45 ∨ (bl s).head? = some 43) (_h1 : 1 ≤ s.size) : bl (s.extract 1 s.size) = bodyOf (bl s) := by
  unfold bodyOf; rw [if_pos h, bl_from, List.drop_one]

end Go.Proofs.YtnkodejgiabamaaDoor
/-
  Walks of layer 9: a number's digits; digits with zeros ahead.
-/
namespace Go.Proofs.YtnkodejgiabamaaDoor
open Go.RowKit

theorem quiet_eq9 {P : Program} {f : FuncId} {args : Array Value} {w : World} {n : Nat} {v : Value}
    (h : Calls P f args (w.drewN n) fun e w' => e = .returned v ∧ w.drewN n = w') : Calls P f args (w.drewN n) fun e w'' => e = .returned v ∧ ∃ m, w'' = w.drewN m :=
  h.mono fun _ _ ⟨he, hm⟩ => ⟨he, n, hm.symm⟩

def mkS (l : List UInt8) : ByteArray := ⟨l.toArray⟩
theorem bl_mkS (l : List UInt8) : bl (mkS l) = l := rfl
theorem mkS_bl (s : ByteArray) : mkS (bl s) = s := rfl
theorem mkS_size (l : List UInt8) : (mkS l).size = l.length := by unfold mkS; simp [ByteArray.size]
theorem mkS_app (a b : List UInt8) : mkS a ++ mkS b = mkS (a ++ b) := ByteArray.mk_append_mk a b
theorem mkS_ext {a b : ByteArray} (h : bl a = bl b) : a = b := by rw [← mkS_bl a, ← mkS_bl b, h]
theorem ret_str {a b : ByteArray} (h : a = b) : Ending.returned (.string a) = .returned (.string b) := by rw [h]
theorem ret_str2 {a b : ByteArray} {x y : Int} (h : a = b) (h2 : x = y) : Ending.returned (.tuple #[.string a, .int .i64 x]) = .returned (.tuple #[.string b, .int .i64 y]) := by rw [h, h2]
theorem dig_ext (d : Nat) (h : d < 10) : (⟨#[48, 49, 50, 51, 52, 53, 54, 55, 56, 57]⟩ : ByteArray).extract d (d + 1) = mkS [UInt8.ofNat (48 + d)] := by
  have : d = 0 ∨ d = 1 ∨ d = 2 ∨ d = 3 ∨ d = 4 ∨ d = 5 ∨ d = 6 ∨ d = 7 ∨ d = 8 ∨ d = 9 := by omega
  rcases this with rfl | rfl | rfl | rfl | rfl | rfl | rfl | rfl | rfl | rfl <;> rfl

def TextEnd (n : Nat) (w : World) (e : Ending) (w' : World) : Prop := e = .returned (.string (mkS (decL n))) ∧ ∃ q, w' = w.drewN q

theorem text_any (n : Nat) (hn : n < 18446744073709551616) (w : World) : Calls Tryd.prog 56 #[.int .u64 n] w (TextEnd n w) := by
  induction n using Nat.strongRecOn generalizing w with
  | ind n ih =>
    by_cases h : n < 10
    · have HV := Lib.hid (show (⟨#[48, 49, 50, 51, 52, 53, 54, 55, 56, 57]⟩ : ByteArray).extract n (n + 1) = mkS (decL n) by rw [dig_ext n h, decL_small h])
      clear ih
      go_enter Tryd.func56, Tryd.ntmps56
      go_wp2
      go_ret
      exact ⟨ret_str HV.out, 0, rfl⟩
    · have hm : n % 10 < 10 := by omega
      have hd : n / 10 < n := by omega
      have hlen := decL_len 19 (n / 10) (by omega)
      have HV := Lib.hid (show mkS (decL (n / 10)) ++ (⟨#[48, 49, 50, 51, 52, 53, 54, 55, 56, 57]⟩ : ByteArray).extract (n % 10) (n % 10 + 1) = mkS (decL n) by
        rw [dig_ext _ hm, mkS_app, decL_big (n := n) (by omega)])
      have HI := Lib.hid (fun W => ih (n / 10) hd (by omega) W)
      have hsz : (mkS (decL (n / 10))).size ≤ 20 := by rw [mkS_size]; exact hlen
      have hdc : decide ((n : Int) < 10) = false := decide_eq_false (by omega)
      have h10 : (10 : Int) ≤ n := by omega
      clear ih hlen h
      unfold TextEnd at HI
      generalize mkS (decL (n / 10)) = T at *
      go_enter Tryd.func56, Tryd.ntmps56
      go_wp2
      go_quiet ((go_at_call 56; exact Calls.quiet_of (HI.out _)))
      go_wp2
      go_ret
      exact ⟨ret_str HV.out, _, rfl⟩

set_option maxHeartbeats 1000000 in
theorem rtext_any (N : Nat) (L : Int) (w : World) (hN : N < 9223372036854775808) (hL1 : 1 ≤ L) (hL2 : L ≤ 20) :
    Calls Tryd.prog 63 #[.int .i64 N, .int .i64 L] w fun e w' => e = .returned (.string (mkS (padL N L.toNat))) ∧ w = w' := by
  obtain ⟨V, hV⟩ : ∃ V, V = mkS (padL N L.toNat) := ⟨_, rfl⟩
  rw [← hV]
  have HV := Lib.hid hV
  have HNN := Lib.hid hN
  clear hV
  go_enter Tryd.func63, Tryd.ntmps63
  go_wp2
  go_loop [0, 5, 6] (fun n s i => ∃ (k M : Nat) (S : ByteArray), k ≤ 20 ∧ n = .int .i64 M ∧ s = .string S ∧ i = .int .i64 k ∧ M < 9223372036854775808 ∧ Hid (M = N / 10 ^ k) ∧ Hid (S = mkS (fixD N k)) ∧ Hid (L.toNat < k → N / 10 ^ (k - 1) ≠ 0)) (fun _ _ i => 20 - (intOf i).toNat)
  case atStart => exact ⟨0, N, ⟨#[]⟩, by omega, rfl, rfl, rfl, hN, Lib.hid (by simp), Lib.hid rfl, Lib.hid (fun h => by omega)⟩
  case round =>
    obtain ⟨k, M, S, hk, rfl, rfl, rfl, hM, HM, HS, HL⟩ := hrel
    have hsz : S.size = k := by rw [HS.out, mkS_size, fixD_len]
    have HNEXT := Lib.hid (show (⟨#[48, 49, 50, 51, 52, 53, 54, 55, 56, 57]⟩ : ByteArray).extract (M % 10) (M % 10 + 1) ++ S = mkS (fixD N (k + 1)) by
      rw [dig_ext _ (by omega), HS.out, mkS_app, HM.out]; rfl)
    have HM2 := Lib.hid (show M / 10 = N / 10 ^ (k + 1) by rw [HM.out, Nat.div_div_eq_div_mul, Nat.pow_succ])
    clear hN
    by_cases hk20 : k < 20
    · have d1 : decide ((k : Int) < 20) = true := by simp; omega
      by_cases hM0 : 0 < M
      · have d2 : decide ((0 : Int) < M) = true := by simp; omega
        have HL2 := Lib.hid (show L.toNat < k + 1 → N / 10 ^ (k + 1 - 1) ≠ 0 from fun _ => by rw [show k + 1 - 1 = k from rfl, ← HM.out]; omega)
        go_wp2
        go_round
        case rel => exact ⟨k + 1, M / 10, _, by omega, by go_num, rfl, by go_num, by omega, HM2, HNEXT, HL2⟩
        case measure => simp [intOf]; omega
      · have d2 : decide ((0 : Int) < M) = false := decide_eq_false (by omega)
        have d2' : M = 0 := by omega
        by_cases hkL : (k : Int) < L
        · have d3 : decide ((k : Int) < L) = true := by simpa using hkL
          have HL2 := Lib.hid (show L.toNat < k + 1 → N / 10 ^ (k + 1 - 1) ≠ 0 from fun h => by omega)
          subst d2'
          go_wp2
          go_round
          case rel => exact ⟨k + 1, 0, _, by omega, by go_num, rfl, by go_num, by omega, HM2, HNEXT, HL2⟩
          case measure => simp [intOf]; omega
        · have d3 : decide ((k : Int) < L) = false := by simpa using hkL
          have HE := Lib.hid (show S = V by rw [HV.out, HS.out, fixD_end N L.toNat k (by omega) (by omega) (by rw [← HM.out]; exact d2') HL.out])
          subst d2'
          go_wp2
          go_ret
          exact ⟨ret_str HE.out, rfl⟩
    · obtain rfl : k = 20 := by omega
      have HE := Lib.hid (show S = V by
        rw [HV.out, HS.out, fixD_end N L.toNat 20 (by omega) (by omega) (Nat.div_eq_of_lt (by have := HNN.out; omega)) HL.out])
      go_wp2
      go_ret
      exact ⟨ret_str HE.out, rfl⟩

def strLen : Value → Nat | .string t => t.size | _ => 0
set_option maxHeartbeats 1000000 in
theorem trimByte_any (s : ByteArray) (w : World) (hs : s.size ≤ 100000) :
    Calls Tryd.prog 70 #[.string s, .int .u8 48] w fun e w' => e = .returned (.string (mkS (trimR (bl s)))) ∧ w = w' := by
  obtain ⟨V, hV⟩ : ∃ V, V = trimR (bl s) := ⟨_, rfl⟩
  rw [← hV]
  have HV := Lib.hid hV
  clear hV
  go_enter Tryd.func70, Tryd.ntmps70
  go_wp2
  go_loop [0] (fun v => ∃ T : ByteArray, v = .string T ∧ T.size ≤ 100000 ∧ Hid (V = trimR (bl T))) (fun v => strLen v)
  case atStart => exact ⟨s, rfl, hs, HV⟩
  case round =>
    obtain ⟨T, rfl, hT, HT⟩ := hrel
    by_cases h0 : T.size = 0
    · have HE := Lib.hid (show T = mkS V by
        apply mkS_ext
        have : bl T = [] := List.eq_nil_of_length_eq_zero (by rw [bl_len]; exact h0)
        rw [HT.out, this]; rfl)
      go_wp2
      go_ret
      exact ⟨ret_str HE.out, rfl⟩
    · obtain ⟨m, hm⟩ : ∃ m, T.size = m + 1 := ⟨T.size - 1, by omega⟩
      have hgb := PlainAid.get_bt T
      have hlt : m < T.size := by omega
      have hx : (T[m].toNat : Int) = PlainAid.bt T m := hgb m hlt
      have hsp := bl_take T m hlt
      rw [List.take_of_length_le (by rw [bl_len]; omega)] at hsp
      have HSP := Lib.hid hsp
      have HX := Lib.hid hx
      clear hsp hx h0
      by_cases h48 : PlainAid.bt T m = 48
      · have h48d : (PlainAid.bt T m == 48) = true := by rw [beq_iff_eq]; exact h48
        have HN := Lib.hid (show V = trimR (bl (T.extract 0 m)) by
          rw [HT.out, HSP.out, bl_to, show T[m] = 48 from UInt8.toNat_inj.1 (Int.ofNat_inj.1 (HX.out.trans h48)), trimR_snoc])
        clear h48
        go_wp2
        go_round
        case rel => exact ⟨_, rfl, by rw [ByteArray.size_extract]; omega, HN⟩
        case measure => simp [strLen, ByteArray.size_extract]; omega
      · have h48d : (PlainAid.bt T m == 48) = false := by rw [beq_eq_false_iff_ne]; exact h48
        have HE := Lib.hid (show T = mkS V by
          apply mkS_ext
          rw [bl_mkS, HT.out, HSP.out, trimR_stop]
          intro e; exact h48 (by rw [← HX.out, e]; rfl))
        clear h48
        go_wp2
        go_ret
        exact ⟨ret_str HE.out, rfl⟩
set_option maxRecDepth 8000 in
set_option maxHeartbeats 1000000 in
theorem trimRight_any (s : ByteArray) (w : World) (hs : s.size ≤ 100000) :
    Calls Tryd.prog 58 #[.string s, .string ⟨#[48]⟩] w fun e w' => e = .returned (.string (mkS (trimR (bl s)))) ∧ w = w' := by
  have HT := Lib.hid (fun W => trimByte_any s W hs)
  by_cases he : s.toList = []
  · have HE := Lib.hid (show s = mkS (trimR (bl s)) by apply mkS_ext; rw [bl_mkS, ← toL, he]; rfl)
    generalize mkS (trimR (bl s)) = V at *
    go_enter Tryd.func58, Tryd.ntmps58
    go_wp2
    go_ret
    exact ⟨ret_str HE.out, rfl⟩
  · have he2 : s.toList.isEmpty = false := by simpa using he
    generalize mkS (trimR (bl s)) = V at *
    clear he
    go_enter Tryd.func58, Tryd.ntmps58
    go_wp2_with (go_at_call 70; refine (HT.out _).mono ?_; rintro e w' ⟨rfl, rfl⟩)
    go_ret
    exact ⟨rfl, rfl⟩

theorem zeros_ext (k : Nat) (h : k ≤ 64) : (mkS (List.replicate 64 48)).extract 0 k = mkS (List.replicate k 48) := by
  apply mkS_ext
  rw [bl_to, bl_mkS, bl_mkS, List.take_replicate, Nat.min_eq_left h]
end Go.Proofs.YtnkodejgiabamaaDoor
/-
  Walks of layer 9: so many zeros; digits with zeros ahead.
-/
namespace Go.Proofs.YtnkodejgiabamaaDoor
open Go.RowKit

theorem case20 (k : Nat) (h : k < 20) : k = 0 ∨ k = 1 ∨ k = 2 ∨ k = 3 ∨ k = 4 ∨ k = 5 ∨ k = 6 ∨ k = 7 ∨ k = 8 ∨ k = 9 ∨ k = 10 ∨ k = 11 ∨ k = 12 ∨ k = 13 ∨ k = 14 ∨ k = 15 ∨ k = 16 ∨ k = 17 ∨ k = 18 ∨ k = 19 := by omega

set_option maxRecDepth 8000 in
set_option maxHeartbeats 1000000 in
theorem mul64_any (k : Nat) (h : k < 20) (w : World) : Calls Tryd.prog 86 #[.int .u64 1, .int .u64 k] w fun e w' => e = .returned (.tuple #[.int .u64 0, .int .u64 k]) ∧ w = w' := by
  rcases case20 k h with rfl | rfl | rfl | rfl | rfl | rfl | rfl | rfl | rfl | rfl | rfl | rfl | rfl | rfl | rfl | rfl | rfl | rfl | rfl | rfl
  all_goals
    go_enter Tryd.func86, Tryd.ntmps86
    go_wp2
    go_ret2
    exact ⟨rfl, rfl⟩
set_option maxRecDepth 8000 in
set_option maxHeartbeats 1000000 in
theorem mul_any (k : Nat) (h : k < 20) (w : World) : Calls Tryd.prog 77 #[.int .u64 1, .int .u64 k] w fun e w' => e = .returned (.tuple #[.int .u64 0, .int .u64 k]) ∧ w = w' := by
  have HM := Lib.hid (fun W => mul64_any k h W)
  go_enter Tryd.func77, Tryd.ntmps77
  go_wp2_with (go_at_call 86; refine (HM.out _).mono ?_; rintro e w' ⟨rfl, rfl⟩)
  go_ret2
  exact ⟨rfl, rfl⟩

set_option maxRecDepth 100000 in
set_option maxHeartbeats 4000000 in
theorem repeat_any (k : Nat) (h : k < 20) (w : World) : Calls Tryd.prog 69 #[.string ⟨#[48]⟩, .int .i64 k] w fun e w' => e = .returned (.string (mkS (List.replicate k 48))) ∧ w = w' := by
  have HM := Lib.hid (fun W => mul_any k h W)
  obtain ⟨V, hV⟩ : ∃ V, V = mkS (List.replicate k 48) := ⟨_, rfl⟩
  rw [← hV]
  have HV := Lib.hid hV
  clear hV
  by_cases h0 : k = 0
  · subst h0
    go_enter Tryd.func69, Tryd.ntmps69
    go_wp2
    go_ret
    exact ⟨ret_str HV.out.symm, rfl⟩
  by_cases h1 : k = 1
  · subst h1
    go_enter Tryd.func69, Tryd.ntmps69
    go_wp2
    go_ret
    exact ⟨ret_str HV.out.symm, rfl⟩
  have h0d : ((k : Int) == 0) = false := by rw [beq_eq_false_iff_ne]; omega
  have h1d : ((k : Int) == 1) = false := by rw [beq_eq_false_iff_ne]; omega
  have hn : decide ((k : Int) < 0) = false := decide_eq_false (by omega)
  have hk19 : (k : Int) ≤ 19 := by omega
  have hk0 : (0 : Int) ≤ k := by omega
  have h128 : decide ((k : Int) ≤ 128) = true := decide_eq_true (by omega)
  have h64 : decide ((k : Int) ≤ 64) = true := decide_eq_true (by omega)
  have HE := Lib.hid (show (mkS (List.replicate 64 48)).extract 0 k = V by rw [HV.out]; exact zeros_ext k (by omega))
  clear h0 h1
  go_enter Tryd.func69, Tryd.ntmps69
  go_wp2_with fail
  refine (HM.out _).mono ?_
  rintro e w' ⟨rfl, rfl⟩
  go_wp2_with fail
  refine (pre_any _ 48 _ (by decide)).mono ?_
  rintro e w' ⟨rfl, rfl⟩
  rw [show hd1 _ 48 = false from rfl]
  go_wp2_with fail
  refine (pre_any _ 48 _ (by decide)).mono ?_
  rintro e w' ⟨rfl, rfl⟩
  rw [show hd1 _ 48 = false from rfl]
  go_wp2_with fail
  refine (pre_any _ 48 _ (by decide)).mono ?_
  rintro e w' ⟨rfl, rfl⟩
  rw [show hd1 _ 48 = true from rfl]
  go_wp2
  go_ret
  exact ⟨ret_str HE.out, rfl⟩
end Go.Proofs.YtnkodejgiabamaaDoor
