/-
  The walk of the law SpanOrder: for all spans it returns true and leaves all that was there as it was.
-/
import Derived.Test.YtbmhdacedicbjaaTwo
namespace Go.Proofs.Ytbmhdacedicbjaa
open Go.RowKit Go.Sort

theorem cov_take_succ (l : List (Int × Int)) (k : Nat) (hk : k < l.length) (j : Int) : cov (l.take (k + 1)) j ↔ cov (l.take k) j ∨ cov [l.getD k (0, 0)] j := by
  rw [take_succ_getD l k hk, cov_append]
theorem cov_drop (l : List (Int × Int)) (k : Nat) (hk : k < l.length) (j : Int) : cov (l.drop k) j ↔ cov (l.drop (k + 1)) j ∨ cov [l.getD k (0, 0)] j := by
  rw [drop_cons hk, cov_cons, cov_cons]
  have := cov_nil j
  constructor
  · rintro (h | h)
    · exact .inr (.inl h)
    · exact .inl h
  · rintro (h | h | h)
    · exact .inr h
    · exact .inl h
    · exact absurd h this

theorem miss_step {T Tk : List (Int × Int)} {x : Int × Int} {n0 n k : Nat} {C : Int → Prop} (hT : SetOk T n0 C) (hTk : SetOk Tk n (fun j => C j ∨ cov ((missS T x).take k) j)) (hk : k < (missS T x).length) :
    hasS Tk ((missS T x).getD k (0, 0)) = false ∧ x.1 ≤ ((missS T x).getD k (0, 0)).1 ∧ ((missS T x).getD k (0, 0)).2 ≤ x.2 ∧ 0 ≤ ((missS T x).getD k (0, 0)).1 ∧ ((missS T x).getD k (0, 0)).1 < ((missS T x).getD k (0, 0)).2 := by
  obtain ⟨i1, i2, i3, _⟩ := missS_spec hT.form x
  have hg : (missS T x).getD k (0, 0) = (missS T x)[k] := by simp [List.getD, hk]
  have hz : (missS T x)[k] ∈ missS T x := List.getElem_mem hk
  rw [hg]
  obtain ⟨_, e, a, b, c⟩ := i1 _ hz
  obtain ⟨e0, e1⟩ := emp_false.1 e
  refine ⟨?_, a, c, e0, e1⟩
  rw [Bool.eq_false_iff]
  intro hh
  have h1 := (has_iff hTk.form e).1 hh _ (Int.le_refl _) e1
  rcases (hTk.cov_ _).1 h1 with h2 | h2
  · exact i3 _ hz ((hT.cov_ _).2 h2)
  · obtain ⟨y, hy, y0, y1, y2⟩ := h2
    obtain ⟨i, hi, rfl⟩ := List.mem_iff_getElem.1 hy
    rw [List.length_take] at hi
    rw [List.getElem_take] at y2
    have := List.pairwise_iff_getElem.1 i2 i k (by omega) hk (by omega)
    omega

theorem miss_end {T Tk : List (Int × Int)} {x : Int × Int} {n0 n : Nat} {C : Int → Prop} (hT : SetOk T n0 C) (hTk : SetOk Tk n (fun j => C j ∨ cov (missS T x) j)) : hasS Tk x = true ∧ missS Tk x = [] := by
  obtain ⟨_, _, _, i4⟩ := missS_spec hT.form x
  cases he : emp x with
  | true => exact ⟨by unfold hasS; rw [he]; rfl, by unfold missS; rw [he]; rfl⟩
  | false =>
    have hall : ∀ j, x.1 ≤ j → j < x.2 → cov Tk j := fun j a b => (hTk.cov_ j).2 ((i4 he j a b).elim (fun h => .inl ((hT.cov_ j).1 h)) .inr)
    exact ⟨(has_iff hTk.form he).2 hall, missS_nil hTk.form hall⟩

theorem SetOk.congr {T : List (Int × Int)} {n : Nat} {C C' : Int → Prop} (h : SetOk T n C) (hC : ∀ k, C k ↔ C' k) : SetOk T n C' := ⟨h.form, fun k => (h.cov_ k).trans (hC k), h.len, h.le⟩
theorem getD_mem {l : List (Int × Int)} {k : Nat} (hk : k < l.length) : l.getD k (0, 0) ∈ l := by
  rw [show l.getD k (0, 0) = l[k] from by simp [List.getD, hk]]
  exact List.getElem_mem hk

def OrdEnd (w : World) (e : Ending) (w' : World) : Prop := e = .returned (.bool true) ∧ Below w.heap.size w w'

set_option maxRecDepth 8000 in
set_option maxHeartbeats 2000000 in
theorem law_ord (a : Option Addr) (n cap : Nat) (l : List (Int × Int)) (x y : Int) (w : World) (hr : SRow w a n cap l) (hf : Fit l) (hx : Fit [(x, y)]) :
    Calls Try.prog 9 #[.slice a n cap, .agg #[.int .i64 x, .int .i64 y]] w (OrdEnd w) := by
  have hm := hr.i64
  have hl := hr.len
  by_cases hbig : 100 < (n : Int)
  · have hb0 := belowA w (.cells #[.int .i64 x, .int .i64 y] 56)
    have HB0 := Lib.hid hb0
    clear hb0 hr hf hx hl
    go_enter Try.func9, Try.ntmps9
    go_wp2_with (go_at_call 29; refine (works2 _).mono ?_; rintro e w' ⟨rfl, hb⟩)
    go_ret
    exact ⟨rfl, HB0.out.trans (hb.mono HB0.out.size)⟩
  have hb0 := belowA w (.cells #[.int .i64 x, .int .i64 y] 56)
  have hbx : (w.alloc (.cells #[.int .i64 x, .int .i64 y] 56)).heap[w.heap.size]? = some (.cells #[.int .i64 x, .int .i64 y] 56 (0, 0)) := heapA_new _ rfl
  have HR := Lib.hid (hr.mono hb0)
  have HB0 := Lib.hid hb0
  have HBX := Lib.hid hbx
  have HF := Lib.hid hf
  have HX := Lib.hid hx
  have HL := Lib.hid hl
  clear hr hb0 hbx hf hx hl
  go_enter Try.func9, Try.ntmps9
  go_wp2
  generalize hWW : w.alloc (.cells #[.int .i64 x, .int .i64 y] 56) = w0 at *
  have hT0 := two_new w0
  have hs0 : w0.heap.size = w.heap.size + 1 := by rw [← hWW, sizeA]
  obtain ⟨p1, hp1⟩ : ∃ p, p = w.heap.size + 1 := ⟨_, rfl⟩
  rw [hs0, ← hp1] at hT0
  rw [← hp1]
  have HT0 := Lib.hid hT0
  clear hT0 hWW hs0 hp1
  generalize (w0.alloc (.cells #[.slice none 0 0] 63)).alloc (.cells #[.slice none 0 0] 63) = ws at *
  go_loopw [7] (fun i wr => ∃ (k : Nat) (T1 T2 : List (Int × Int)), i = .int .i64 k ∧ k ≤ n ∧ Hid (SetOk T1 k (cov (l.take k))) ∧ Hid (SetOk T2 k (cov (l.drop (n - k)))) ∧ Hid (Two w0 wr p1 (p1 + 1) T1 T2)) (fun i _ => n - (intOf i).toNat)
  case atStart => exact ⟨0, [], [], rfl, Nat.zero_le _, Lib.hid (SetOk.nil.congr fun j => by simp [cov_nil]), Lib.hid (SetOk.nil.congr fun j => by rw [Nat.sub_zero, ← HL.out, List.drop_length]; simp [cov_nil]), HT0⟩
  case round =>
    obtain ⟨k, T1, T2, rfl, hk, H1, H2, HT⟩ := hrel
    by_cases hlt : k < n
    · obtain ⟨b, off, rfl, _, hc⟩ := SRow.at (HR.out.mono HT.out.below) k hlt
      obtain ⟨m, hnm⟩ : ∃ m, n = k + 1 + m := ⟨n - (k + 1), by omega⟩
      have hlk : k < l.length := by rw [HL.out]; exact hlt
      have hlm : m < l.length := by rw [HL.out]; omega
      have HNM := Lib.hid hnm
      clear hnm
      obtain ⟨c0, c1⟩ := hc k hlt
      obtain ⟨x1, y1, hxy⟩ : ∃ x1 y1, l.getD k (0, 0) = (x1, y1) := ⟨_, _, rfl⟩
      have hfx := HF.out (l.getD k (0, 0)) (getD_mem hlk)
      have hC1 := cov_take_succ l k hlk
      rw [hxy] at c0 c1 hfx hC1
      simp only at c0 c1 hfx
      have HC := Lib.hid (put1_any w0 p1 (p1 + 1) T1 T2 k _ _ x1 y1 wr HT.out H1.out (by omega) hfx hC1)
      clear hc hxy hfx hC1
      go_wp2_with fail
      refine HC.out.mono ?_
      rintro e w3 ⟨rfl, T1', h1, hT3⟩
      clear c0 c1 HC
      obtain ⟨b', off', hb', _, hc⟩ := SRow.at (HR.out.mono hT3.below) m (by have := HNM.out; omega)
      simp only [Option.some.injEq, Addr.mk.injEq] at hb'
      obtain ⟨rfl, rfl, _⟩ := hb'
      obtain ⟨c0, c1⟩ := hc m (by have := HNM.out; omega)
      obtain ⟨x2, y2, hxy⟩ : ∃ x2 y2, l.getD m (0, 0) = (x2, y2) := ⟨_, _, rfl⟩
      have hfx := HF.out (l.getD m (0, 0)) (getD_mem hlm)
      have hC1 := cov_drop l m hlm
      rw [hxy] at c0 c1 hfx hC1
      simp only at c0 c1 hfx
      have HC := Lib.hid (put2_any w0 p1 (p1 + 1) T1' T2 k _ _ x2 y2 w3 hT3 H2.out (by omega) hfx (by rw [show n - k = m + 1 from by have := HNM.out; omega]; exact hC1))
      have H3 := Lib.hid h1
      have hix : (n : Int) - 1 - (k : Int) = (m : Int) := by have := HNM.out; omega
      have hmn : m < n := by have := HNM.out; omega
      clear hc hxy hfx hC1 hT3 h1
      go_wp2_with fail
      refine HC.out.mono ?_
      rintro e w4 ⟨rfl, T2', h4, hT4⟩
      have H4 := Lib.hid h4
      have HT4 := Lib.hid hT4
      clear c0 c1 HC h4 hT4
      go_wp2
      go_roundw
      case rel => exact ⟨k + 1, T1', T2', by go_num, by omega, H3, Lib.hid (by rw [show n - (k + 1) = m from by have := HNM.out; omega]; exact H4.out), HT4⟩
      case measure => simp [intOf]; omega
    · obtain rfl : k = n := by omega
      have h1 : SetOk T1 k (cov l) := H1.out.congr fun j => by rw [show l.take k = l from by rw [← HL.out]; exact List.take_length]
      have h2 : SetOk T2 k (cov l) := H2.out.congr fun j => by rw [Nat.sub_self, List.drop_zero]
      obtain rfl : T1 = T2 := form_unique h1.form h2.form (fun j => by rw [h1.cov_, h2.cov_])
      have hTl : T1.length ≤ 100 := by have := h1.len; omega
      have HH1 := Lib.hid h1
      clear h1 h2 H1 H2
      go_wp2_with fail
      refine (all_any _ T1 wr HT.out.v1 (by omega)).mono ?_
      rintro e w5 ⟨v5, rfl, hO5, hb5⟩
      obtain ⟨a5, c5, rfl, hr5, _⟩ := Row.of_owns hO5
      have hT5 := HT.out.mono hb5
      go_wp2_with fail
      refine (all_any _ T1 w5 hT5.v2 (by omega)).mono ?_
      rintro e w6 ⟨v6, rfl, hO6, hb6⟩
      obtain ⟨a6, c6, rfl, hr6, _⟩ := Row.of_owns hO6
      have hT6 := hT5.mono hb6
      go_wp2_with fail
      refine (same_any a5 a6 T1.length T1.length c5 c6 T1 T1 w6 (hr5.mono hb6) hr6).mono ?_
      rintro e w7 ⟨rfl, q, hq⟩
      have hT7 : Two w0 w7 p1 (p1 + 1) T1 T1 := hT6.mono (by rw [hq]; have h := Below.refl w6.heap.size w6; exact ⟨h.os, h.tape, h.output, h.size, h.block⟩)
      have hbx := block_keep hT7.below HBX.out
      have HT7 := Lib.hid hT7
      clear hq hO5 hb5 hr5 hT5 hO6 hb6 hr6 hT6 hT7 HT
      have k0 : w7.cell? ⟨w.heap.size, 0, none⟩ = some (.int .i64 x) := by rw [cell_of_row w7 _ 0 _ _ _ hbx]; rfl
      have k1 : w7.cell? ⟨w.heap.size, 1, none⟩ = some (.int .i64 y) := by rw [cell_of_row w7 _ 1 _ _ _ hbx]; rfl
      clear hbx
      go_wp2_with fail
      refine (missing_any _ T1 x y w7 HT7.out.v1 (by omega)).mono ?_
      rintro e w8 ⟨v8, rfl, hO8, hb8⟩
      obtain ⟨a8, c8, rfl, hr8, _⟩ := Row.of_owns hO8
      have hB8 := HT7.out.beside hO8 hr8 hb8
      obtain ⟨M, hM⟩ : ∃ M, M = missS T1 (x, y) := ⟨_, rfl⟩
      rw [← hM] at hB8 ⊢
      have hMl : M.length ≤ 101 := by
        rw [hM]
        unfold missS
        split
        · simp
        · have := missGo_len y T1 x; simp only; omega
      have HM := Lib.hid hM
      have HB8 := Lib.hid hB8
      clear hO8 hr8 hb8 hB8 hM k0 k1 HT7
      obtain ⟨nm, hnm⟩ : ∃ nm, nm = M.length := ⟨_, rfl⟩
      have HN := Lib.hid hnm
      rw [← hnm] at hMl ⊢
      clear hnm
      go_wp2
      go_loopw [9] (fun i wr => ∃ (j : Nat) (T : List (Int × Int)), i = .int .i64 j ∧ j ≤ nm ∧ Hid (SetOk T (k + j) (fun t => cov l t ∨ cov (M.take j) t)) ∧ Hid (Beside w0 wr p1 T a8 c8 M)) (fun i _ => nm - (intOf i).toNat)
      case atStart => exact ⟨0, T1, rfl, Nat.zero_le _, Lib.hid (HH1.out.congr fun j => by simp [cov_nil]), HB8⟩
      case round =>
        obtain ⟨j, T, rfl, hj, HT, HB⟩ := hrel
        have hrow := HB.out.row
        rw [← HN.out] at hrow
        have hTl2 : T.length ≤ 201 := by have := HT.out.len; omega
        have hbx := block_keep HB.out.below HBX.out
        have k0 : wr.cell? ⟨w.heap.size, 0, none⟩ = some (.int .i64 x) := by rw [cell_of_row wr _ 0 _ _ _ hbx]; rfl
        have k1 : wr.cell? ⟨w.heap.size, 1, none⟩ = some (.int .i64 y) := by rw [cell_of_row wr _ 1 _ _ _ hbx]; rfl
        by_cases hlt : j < nm
        · obtain ⟨b, off, rfl, _, hc⟩ := SRow.at hrow j hlt
          obtain ⟨c0, c1⟩ := hc j hlt
          have hjM : j < M.length := by rw [← HN.out]; exact hlt
          obtain ⟨s1, s2, s3, s4, s5⟩ := miss_step (x := (x, y)) HH1.out (by rw [← HM.out]; exact HT.out) (by rw [← HM.out]; exact hjM)
          rw [← HM.out] at s1 s2 s3 s4 s5
          have hC1 := cov_take_succ M j hjM
          obtain ⟨x1, y1, hxy⟩ : ∃ x1 y1, M.getD j (0, 0) = (x1, y1) := ⟨_, _, rfl⟩
          rw [hxy] at c0 c1 s1 s2 s3 s4 s5 hC1
          have hfx := HX.out (x, y) (List.mem_cons_self ..)
          simp only at c0 c1 s2 s3 s4 s5 hfx
          have hHas : ∀ p : BelowW wr, Calls Try.prog 40 #[.pointer (some ⟨p1, 0, none⟩), .agg #[.int .i64 x1, .int .i64 y1]] p.w fun e w' => e = .returned (.bool false) ∧ Below p.w.heap.size p.w w' := fun p => by
            have := has_any _ T x1 y1 p.w (HB.out.v.mono p.h) (by omega)
            rw [s1] at this
            exact this
          have hPut : ∀ W, Beside w0 W p1 T (some ⟨b, off, none⟩) c8 M → Calls Try.prog 35 #[.pointer (some ⟨p1, 0, none⟩), .agg #[.int .i64 x1, .int .i64 y1]] W fun e w' => e = .returned (.tuple #[]) ∧ ∃ T', SetOk T' (k + j + 1) (fun t => cov l t ∨ cov (M.take (j + 1)) t) ∧ Beside w0 w' p1 T' (some ⟨b, off, none⟩) c8 M := fun W h =>
            putB_any w0 p1 T _ c8 M (k + j) _ _ x1 y1 W h HT.out (by omega) (by omega) (fun t => by rw [hC1 t, or_assoc])
          have HPUT := Lib.hid hPut
          have HHAS := Lib.hid hHas
          have q0 := BelowW.cell k0
          have q1 := BelowW.cell k1
          have q2 := BelowW.cell c0
          have q3 := BelowW.cell c1
          clear hrow hbx hc s1 hC1 hxy hfx hHas hPut
          go_wp2
          refine wp_region_below (by kernel_rfl) (by kernel_rfl) ?_
          repeat (quiet_step ((first | (go_at_call 40; exact Calls.below_of (HHAS.out _)))))
          refine wpQuiet_nil ?_
          rintro _ ⟨⟨w9, hb9⟩, rfl⟩
          have HB9 := Lib.hid (HB.out.mono hb9)
          have e0 := cell?_keep hb9 c0
          have e1 := cell?_keep hb9 c1
          clear q0 q1 q2 q3 k0 k1 c0 c1 hb9
          go_wp2_with fail
          refine (HPUT.out _ HB9.out).mono ?_
          rintro e w10 ⟨rfl, T', hT', hB'⟩
          have HT' := Lib.hid hT'
          have HB' := Lib.hid hB'
          clear hT' hB' e0 e1
          go_wp2
          go_roundw
          case rel => exact ⟨j + 1, T', by go_num, by omega, HT', HB'⟩
          case measure => simp [intOf]; omega
        · obtain rfl : j = nm := by omega
          obtain ⟨s1, s2⟩ := miss_end (Tk := T) (x := (x, y)) HH1.out (by have := HT.out; rw [show M.take j = M from by rw [HN.out]; exact List.take_length, HM.out] at this; exact this)
          have hHas := has_any _ T x y wr HB.out.v (by omega)
          rw [s1] at hHas
          have HHAS := Lib.hid hHas
          have S2 := Lib.hid s2
          clear hrow hbx s1 s2 hHas
          go_wp2_with fail
          refine HHAS.out.mono ?_
          rintro e w9 ⟨rfl, hb9⟩
          have hMiss := missing_any _ T x y w9 (HB.out.v.mono hb9) (by omega)
          rw [S2.out] at hMiss
          have HMISS := Lib.hid hMiss
          have e0 := cell?_keep hb9 k0
          have e1 := cell?_keep hb9 k1
          have HB9 := Lib.hid (HB.out.mono hb9)
          clear hb9 hMiss k0 k1
          go_wp2_with fail
          refine HMISS.out.mono ?_
          rintro e w10 ⟨v10, rfl, hO10, hb10⟩
          obtain ⟨a10, c10, rfl, hr10, _⟩ := Row.of_owns hO10
          have HB10 := Lib.hid (HB9.out.mono hb10)
          clear hO10 hb10 hr10 e0 e1
          go_wp2_with (go_at_call 29; refine (works2 _).mono ?_; rintro e w11 ⟨rfl, hb11⟩)
          go_ret
          have hB11 := HB10.out.mono hb11
          exact ⟨rfl, HB0.out.trans (hB11.below.mono HB0.out.size)⟩
end Go.Proofs.Ytbmhdacedicbjaa
