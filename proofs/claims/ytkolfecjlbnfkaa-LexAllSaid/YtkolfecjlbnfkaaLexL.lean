/-
  Walks of layer 10's reference: what stands behind a backslash.
-/
import Derived.Test.YtkolfecjlbnfkaaLexJ
import Derived.Test.YtkolfecjlbnfkaaLexF
namespace Go.Proofs.Ytkolfecjlbnfkaa
open Go.RowKit

theorem results_tmp4 {fn : Func} {t u v x : Tmp} (h : fn.results = #[.tmp t, .tmp u, .tmp v, .tmp x]) (tmps : Array Value) (P : Program) (w : World) :
    (results fn tmps).run P w = .ok (.tuple #[tmps.getD t undef, tmps.getD u undef, tmps.getD v undef, tmps.getD x undef]) w := by
  simp [results, h]

/-- What the document's escape returns. -/
def escR (last : Bool) (k : Nat) : Option (List UInt8 × Nat) → Value
  | none => .tuple #[.int .u8 0, .int .i64 0, .bool false, .int .i64 (openE last)]
  | some ([], m) => .tuple #[.int .u8 0, .int .i64 ((k + m : Nat) : Int), .bool false, .int .i64 0]
  | some (c :: _, m) => .tuple #[.int .u8 c.toNat, .int .i64 ((k + m : Nat) : Int), .bool true, .int .i64 0]
def EscREnd (last : Bool) (k : Nat) (V : Option (List UInt8 × Nat)) (w : World) (e : Ending) (w' : World) : Prop := e = .returned (escR last k V) ∧ w = w'
theorem escR_byte {last : Bool} {k : Nat} {V : Option (List UInt8 × Nat)} {N j : Nat} {n : Int} (hV : V = some ([UInt8.ofNat N], j)) (hn : n = ((k + j : Nat) : Int)) (w : World) :
    EscREnd last k V w (.returned (.tuple #[.int .u8 ((N : Int) % 256), .int .i64 n, .bool true, .int .i64 0])) w := by
  subst hV; subst hn
  refine ⟨?_, rfl⟩
  rw [show (N : Int) % 256 = ((UInt8.ofNat N).toNat : Int) by rw [UInt8.toNat_ofNat']; omega]; rfl
theorem escR_none {last : Bool} {k : Nat} {V : Option (List UInt8 × Nat)} {er : Int} (hV : V = none) (he : openE last = er) (w : World) :
    EscREnd last k V w (.returned (.tuple #[.int .u8 0, .int .i64 0, .bool false, .int .i64 er])) w := by
  subst hV; subst he; exact ⟨rfl, rfl⟩
theorem escR_gone {last : Bool} {k : Nat} {V : Option (List UInt8 × Nat)} {j : Nat} {n : Int} (hV : V = some ([], j)) (hn : n = ((k + j : Nat) : Int)) (w : World) :
    EscREnd last k V w (.returned (.tuple #[.int .u8 0, .int .i64 n, .bool false, .int .i64 0])) w := by
  subst hV; subst hn; exact ⟨rfl, rfl⟩
theorem escR_one {last : Bool} {k : Nat} {V : Option (List UInt8 × Nat)} {c : UInt8} {x n : Int} (hV : V = some ([c], 1)) (hx : x = c.toNat) (hn : n = ((k + 1 : Nat) : Int)) (w : World) :
    EscREnd last k V w (.returned (.tuple #[.int .u8 x, .int .i64 n, .bool true, .int .i64 0])) w := by
  subst hV; subst hx; subst hn; exact ⟨rfl, rfl⟩
theorem u8_ne {c d : UInt8} (h : c ≠ d) (n : Int) (hn : n = (d.toNat : Int)) : ((c.toNat : Int) == n) = false := by
  rw [beq_eq_false_iff_ne]; subst hn; exact fun e => h (UInt8.toNat_inj.1 (Int.ofNat_inj.1 e))

set_option maxRecDepth 8000 in
set_option maxHeartbeats 8000000 in
theorem rescape_lit {w : World} {b off cap : Nat} {n : Nat} (k : Nat) (last : Bool) (hk : k < n) (hn : n ≤ 100000) (x y : UInt8) (V : Option (List UInt8 × Nat))
    (hc : w.cell? ⟨b, off + k, none⟩ = some (.int .u8 x.toNat)) (hV : V = some ([y], 1))
    (hx : (x = 110 ∧ y = 10) ∨ (x = 114 ∧ y = 13) ∨ (x = 116 ∧ y = 9) ∨ (x = 98 ∧ y = 8) ∨ (x = 102 ∧ y = 12)) :
    Calls Try.prog 36 #[.slice (some ⟨b, off, none⟩) n cap, .int .i64 k, .bool last] w (EscREnd last k V w) := by
  have HV := Lib.hid hV
  have hkd : decide ((n : Int) ≤ k) = false := decide_eq_false (by omega)
  have hkn : decide (n ≤ k) = false := decide_eq_false (by omega)
  have hki : (k : Int) < n := by omega
  clear hV
  rcases hx with ⟨rfl, rfl⟩ | ⟨rfl, rfl⟩ | ⟨rfl, rfl⟩ | ⟨rfl, rfl⟩ | ⟨rfl, rfl⟩
  · rw [show ((110 : UInt8).toNat : Int) = 110 from rfl] at hc
    go_enter Try.func36, Try.ntmps36
    go_wp2
    (try simp only [Exit.inBlock, Exit.then]); refine bodyPost_ret (results_tmp4 rfl _ _ _) rfl ?_
    exact escR_one HV.out rfl rfl _
  · rw [show ((114 : UInt8).toNat : Int) = 114 from rfl] at hc
    go_enter Try.func36, Try.ntmps36
    go_wp2
    (try simp only [Exit.inBlock, Exit.then]); refine bodyPost_ret (results_tmp4 rfl _ _ _) rfl ?_
    exact escR_one HV.out rfl rfl _
  · rw [show ((116 : UInt8).toNat : Int) = 116 from rfl] at hc
    go_enter Try.func36, Try.ntmps36
    go_wp2
    (try simp only [Exit.inBlock, Exit.then]); refine bodyPost_ret (results_tmp4 rfl _ _ _) rfl ?_
    exact escR_one HV.out rfl rfl _
  · rw [show ((98 : UInt8).toNat : Int) = 98 from rfl] at hc
    go_enter Try.func36, Try.ntmps36
    go_wp2
    (try simp only [Exit.inBlock, Exit.then]); refine bodyPost_ret (results_tmp4 rfl _ _ _) rfl ?_
    exact escR_one HV.out rfl rfl _
  · rw [show ((102 : UInt8).toNat : Int) = 102 from rfl] at hc
    go_enter Try.func36, Try.ntmps36
    go_wp2
    (try simp only [Exit.inBlock, Exit.then]); refine bodyPost_ret (results_tmp4 rfl _ _ _) rfl ?_
    exact escR_one HV.out rfl rfl _

set_option maxRecDepth 8000 in
set_option maxHeartbeats 8000000 in
theorem rescape_any {w : World} {a : Option Addr} {cap : Nat} {bs : List UInt8} (hr : Row w 1 a bs.length cap (bs.map u8C)) (hn : bs.length ≤ 100000) (k : Nat) (last : Bool) :
    Calls Try.prog 36 #[.slice a bs.length cap, .int .i64 k, .bool last] w (EscREnd last k (escV last (bs.drop k)) w) := by
  obtain ⟨V, hV⟩ : ∃ V, V = escV last (bs.drop k) := ⟨_, rfl⟩
  rw [← hV]
  by_cases hk : k < bs.length
  case neg =>
    rw [drop_nil hk] at hV
    have HV := Lib.hid (show V = none from hV)
    have hkd : decide ((bs.length : Int) ≤ k) = true := decide_eq_true (by omega)
    have hkn : decide (bs.length ≤ k) = true := decide_eq_true (by omega)
    clear hV hr hk
    go_enter Try.func36, Try.ntmps36
    go_wp2_with (go_at_call 35; refine (rcut_any _ _).mono ?_; rintro e w' ⟨rfl, rfl⟩)
    (try simp only [Exit.inBlock, Exit.then]); refine bodyPost_ret (results_tmp4 rfl _ _ _) rfl ?_
    exact escR_none HV.out rfl _
  obtain ⟨b, off, rfl, -, hc⟩ := hr.at 0 k hk
  unfold u8C at hc
  have hck := hc k hk
  rw [drop_cons hk] at hV
  obtain ⟨c, hcc⟩ : ∃ c, bs.getD k 0 = c := ⟨_, rfl⟩
  rw [hcc] at hck hV
  by_cases hl : c = 110 ∨ c = 114 ∨ c = 116 ∨ c = 98 ∨ c = 102
  · rcases hl with rfl | rfl | rfl | rfl | rfl
    · exact rescape_lit k last hk hn 110 10 V hck (hV.trans rfl) (by simp)
    · exact rescape_lit k last hk hn 114 13 V hck (hV.trans rfl) (by simp)
    · exact rescape_lit k last hk hn 116 9 V hck (hV.trans rfl) (by simp)
    · exact rescape_lit k last hk hn 98 8 V hck (hV.trans rfl) (by simp)
    · exact rescape_lit k last hk hn 102 12 V hck (hV.trans rfl) (by simp)
  have n1 : c ≠ 110 := fun e => hl (by simp [e])
  have n2 : c ≠ 114 := fun e => hl (by simp [e])
  have n3 : c ≠ 116 := fun e => hl (by simp [e])
  have n4 : c ≠ 98 := fun e => hl (by simp [e])
  have n5 : c ≠ 102 := fun e => hl (by simp [e])
  rw [escV_far _ _ _ n1 n2 n3 n4 n5] at hV
  have e1 := u8_ne n1 110 rfl
  have e2 := u8_ne n2 114 rfl
  have e3 := u8_ne n3 116 rfl
  have e4 := u8_ne n4 98 rfl
  have e5 := u8_ne n5 102 rfl
  have hkd : decide ((bs.length : Int) ≤ k) = false := decide_eq_false (by omega)
  have hkn : decide (bs.length ≤ k) = false := decide_eq_false (by omega)
  have hki : (k : Int) < bs.length := by omega
  have hk1 : k ≤ 99999 := by omega
  have hk2 : (k : Int) ≤ 99999 := by omega
  clear hl n1 n2 n3 n4 n5 hr
  by_cases hoc : isOc c = true
  · rw [if_pos hoc, octV_go, Option.map_map] at hV
    have hoc2 := isOc_iff.1 hoc
    have e6 : ((c.toNat : Int) == 10) = false := by rw [beq_eq_false_iff_ne]; omega
    have e7 : ((c.toNat : Int) == 13) = false := by rw [beq_eq_false_iff_ne]; omega
    have d1 : decide ((c.toNat : Int) < 48) = false := decide_eq_false (by omega)
    have d2 : decide ((55 : Int) < c.toNat) = false := decide_eq_false (by omega)
    have HG := Lib.hid (show V = (octGo last 3 0 (bs.drop (k + 0))).map fun x => ([UInt8.ofNat x.1], 0 + x.2) by
      rw [hV, show bs.drop (k + 0) = c :: bs.drop (k + 1) by rw [Nat.add_zero, drop_cons hk, hcc], octGo, if_pos hoc, Option.map_map]
      congr 1
      · funext x; simp [Function.comp]
      · rw [show 8 * 0 + (c.toNat - 48) = c.toNat - 48 from by omega])
    have HC := Lib.hid hc
    clear hV hoc hoc2 hcc hc
    generalize c.toNat = x at *
    go_enter Try.func36, Try.ntmps36
    go_wp2
    clear hck e1 e2 e3 e4 e5 e6 e7 d1 d2 hkd
    go_loop [11, 12] (fun n i => ∃ (j N : Nat), j ≤ 3 ∧ n = .int .i64 N ∧ i = .int .i64 j ∧ N + 1 ≤ 8 ^ j ∧ Hid (V = (octGo last (3 - j) N (bs.drop (k + j))).map fun x => ([UInt8.ofNat x.1], j + x.2))) (fun _ i => 3 - (intOf i).toNat)
    case atStart => exact ⟨0, 0, by omega, by go_num, by go_num, by omega, HG⟩
    case round =>
      obtain ⟨j, N, hj, rfl, rfl, hN, HJ⟩ := hrel
      have hN5 : N ≤ 511 := by
        have : j = 0 ∨ j = 1 ∨ j = 2 ∨ j = 3 := by omega
        rcases this with rfl | rfl | rfl | rfl <;> omega
      by_cases hj3 : j < 3
      · have hjd : decide ((j : Int) < 3) = true := decide_eq_true (by omega)
        obtain ⟨m, hm⟩ : ∃ m, 3 - j = m + 1 := ⟨2 - j, by omega⟩
        have hg := HJ.out
        rw [hm] at hg
        by_cases hin : k + j < bs.length
        · have hcj := HC.out (k + j) hin
          rw [drop_cons hin, octGo] at hg
          have hid1 : decide ((k : Int) + j < bs.length) = true := decide_eq_true (by omega)
          have hii : (k : Int) + j < bs.length := by omega
          have hge : decide ((bs.length : Int) ≤ (k : Int) + j) = false := decide_eq_false (by omega)
          by_cases hd : isOc (bs.getD (k + j) 0) = true
          · have hd2 := isOc_iff.1 hd
            rw [if_pos hd, Option.map_map] at hg
            have d1 : decide ((48 : Int) ≤ (bs.getD (k + j) 0).toNat) = true := decide_eq_true (by omega)
            have d2 : decide (((bs.getD (k + j) 0).toNat : Int) ≤ 55) = true := decide_eq_true (by omega)
            have HG2 := Lib.hid (show V = (octGo last (3 - (j + 1)) (8 * N + ((bs.getD (k + j) 0).toNat - 48)) (bs.drop (k + (j + 1)))).map fun x => ([UInt8.ofNat x.1], (j + 1) + x.2) by
              rw [hg, show 3 - (j + 1) = m from by omega]
              congr 1
              funext x
              simp only [Function.comp]
              rw [show j + (x.2 + 1) = j + 1 + x.2 from by omega])
            have HB := Lib.hid (show 8 * N + ((bs.getD (k + j) 0).toNat - 48) + 1 ≤ 8 ^ (j + 1) by rw [Nat.pow_succ]; omega)
            have HE := Lib.hid (show 8 * (N : Int) + ((bs.getD (k + j) 0).toNat : Int) - 48 = ((8 * N + ((bs.getD (k + j) 0).toNat - 48) : Nat) : Int) by omega)
            have HJ3 := Lib.hid hj3
            clear hg hm hd HJ
            generalize (bs.getD (k + j) 0).toNat = y at *
            go_wp2
            go_round
            case rel => exact ⟨j + 1, 8 * N + (y - 48), HJ3.out, by rw [← HE.out], by go_num, HB.out, HG2⟩
            case measure => have := HJ3.out; simp [intOf]; omega
          · rw [if_neg hd, Option.map_some] at hg
            have HG2 := Lib.hid (show V = some ([UInt8.ofNat N], j) from hg)
            have hd2 : ¬ (48 ≤ (bs.getD (k + j) 0).toNat ∧ (bs.getD (k + j) 0).toNat ≤ 55) := fun e => hd (isOc_iff.2 e)
            clear hg hm hd HJ
            generalize (bs.getD (k + j) 0).toNat = y at *
            by_cases hy : (48 : Int) ≤ y
            · have d1 : decide ((48 : Int) ≤ y) = true := decide_eq_true hy
              have d2 : decide ((y : Int) ≤ 55) = false := decide_eq_false (by omega)
              clear hd2
              go_wp2
              (try simp only [Exit.inBlock, Exit.then]); refine bodyPost_ret (results_tmp4 rfl _ _ _) rfl ?_
              exact escR_byte HG2.out rfl _
            · have d1 : decide ((48 : Int) ≤ y) = false := decide_eq_false hy
              clear hd2 hy
              go_wp2
              (try simp only [Exit.inBlock, Exit.then]); refine bodyPost_ret (results_tmp4 rfl _ _ _) rfl ?_
              exact escR_byte HG2.out rfl _
        · rw [drop_nil hin, octGo] at hg
          have hid1 : decide ((k : Int) + j < bs.length) = false := decide_eq_false (by omega)
          have hge : decide ((bs.length : Int) ≤ (k : Int) + j) = true := decide_eq_true (by omega)
          have HG2 := Lib.hid hg
          clear hg hm HJ hin
          cases last
          · go_wp2
            (try simp only [Exit.inBlock, Exit.then]); refine bodyPost_ret (results_tmp4 rfl _ _ _) rfl ?_
            exact escR_none HG2.out rfl _
          · go_wp2
            (try simp only [Exit.inBlock, Exit.then]); refine bodyPost_ret (results_tmp4 rfl _ _ _) rfl ?_
            exact escR_byte HG2.out rfl _
      · obtain rfl : j = 3 := by omega
        have hg := HJ.out
        rw [Nat.sub_self, octGo, Option.map_some] at hg
        have HG2 := Lib.hid (show V = some ([UInt8.ofNat N], 3) from hg)
        clear hg HJ
        go_wp2
        (try simp only [Exit.inBlock, Exit.then]); refine bodyPost_ret (results_tmp4 rfl _ _ _) rfl ?_
        exact escR_byte HG2.out rfl _
  · rw [if_neg hoc] at hV
    by_cases h10 : c = 10
    · subst h10
      have HV := Lib.hid (show V = some ([], 1) from hV)
      clear hV hc hcc hoc
      go_enter Try.func36, Try.ntmps36
      go_wp2
      (try simp only [Exit.inBlock, Exit.then]); refine bodyPost_ret (results_tmp4 rfl _ _ _) rfl ?_
      exact escR_gone HV.out rfl _
    · rw [if_neg h10] at hV
      have e6 := u8_ne h10 10 rfl
      by_cases h13 : c = 13
      · subst h13
        rw [if_pos rfl] at hV
        by_cases hk3 : k + 1 < bs.length
        · rw [drop_cons hk3] at hV
          have hc1 := hc (k + 1) hk3
          have hid1 : decide ((bs.length : Int) ≤ (k : Int) + 1) = false := decide_eq_false (by omega)
          have hid2 : decide ((k : Int) + 1 < bs.length) = true := decide_eq_true (by omega)
          have hii : (k : Int) + 1 < bs.length := by omega
          clear hc hcc hoc h10
          by_cases hd : bs.getD (k + 1) 0 = 10
          · have HV := Lib.hid (show V = some ([], 2) by rw [hV, hd]; rfl)
            rw [hd] at hc1
            rw [show ((10 : UInt8).toNat : Int) = 10 from rfl] at hc1
            clear hV hd
            go_enter Try.func36, Try.ntmps36
            go_wp2
            (try simp only [Exit.inBlock, Exit.then]); refine bodyPost_ret (results_tmp4 rfl _ _ _) rfl ?_
            exact escR_gone HV.out rfl _
          · have HV := Lib.hid (show V = some ([], 1) by rw [hV]; show (some (if bs.getD (k + 1) 0 = 10 then 1 else 0)).map _ = _; rw [if_neg hd]; rfl)
            have e8 := u8_ne hd 10 rfl
            clear hV hd
            generalize (bs.getD (k + 1) 0).toNat = y at *
            go_enter Try.func36, Try.ntmps36
            go_wp2
            (try simp only [Exit.inBlock, Exit.then]); refine bodyPost_ret (results_tmp4 rfl _ _ _) rfl ?_
            exact escR_gone HV.out rfl _
        · rw [drop_nil hk3] at hV
          have hid1 : decide ((bs.length : Int) ≤ (k : Int) + 1) = true := decide_eq_true (by omega)
          have hid2 : decide ((k : Int) + 1 < bs.length) = false := decide_eq_false (by omega)
          have HV := Lib.hid hV
          clear hV hc hcc hoc h10 hk3
          cases last
          · go_enter Try.func36, Try.ntmps36
            go_wp2
            (try simp only [Exit.inBlock, Exit.then]); refine bodyPost_ret (results_tmp4 rfl _ _ _) rfl ?_
            exact escR_none HV.out rfl _
          · go_enter Try.func36, Try.ntmps36
            go_wp2
            (try simp only [Exit.inBlock, Exit.then]); refine bodyPost_ret (results_tmp4 rfl _ _ _) rfl ?_
            exact escR_gone HV.out rfl _
      · rw [if_neg h13] at hV
        have e7 := u8_ne h13 13 rfl
        have HV := Lib.hid hV
        have hd2 : ¬ (48 ≤ c.toNat ∧ c.toNat ≤ 55) := fun e => hoc (isOc_iff.2 e)
        clear hV hoc h10 h13 hcc hc
        by_cases hy : (c.toNat : Int) < 48
        · have d1 : decide ((c.toNat : Int) < 48) = true := decide_eq_true hy
          clear hd2 hy
          obtain ⟨x, hx⟩ : ∃ x, x = c.toNat := ⟨_, rfl⟩
          rw [← hx] at hck e1 e2 e3 e4 e5 e6 e7 d1
          have HX := Lib.hid hx
          clear hx
          go_enter Try.func36, Try.ntmps36
          go_wp2
          (try simp only [Exit.inBlock, Exit.then]); refine bodyPost_ret (results_tmp4 rfl _ _ _) rfl ?_
          exact escR_one HV.out (by rw [HX.out]) rfl _
        · have d1 : decide ((c.toNat : Int) < 48) = false := decide_eq_false hy
          have d2 : decide ((55 : Int) < c.toNat) = true := decide_eq_true (by omega)
          clear hd2 hy
          obtain ⟨x, hx⟩ : ∃ x, x = c.toNat := ⟨_, rfl⟩
          rw [← hx] at hck e1 e2 e3 e4 e5 e6 e7 d1 d2
          have HX := Lib.hid hx
          clear hx
          go_enter Try.func36, Try.ntmps36
          go_wp2
          (try simp only [Exit.inBlock, Exit.then]); refine bodyPost_ret (results_tmp4 rfl _ _ _) rfl ?_
          exact escR_one HV.out (by rw [HX.out]) rfl _
end Go.Proofs.Ytkolfecjlbnfkaa
