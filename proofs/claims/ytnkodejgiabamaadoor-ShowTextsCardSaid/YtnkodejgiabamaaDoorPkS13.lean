/-
  Our texts Sw7 to Sy1, in one.
-/
import Derived.Test.YtnkodejgiabamaaDoorPkS12
import Derived.Deep.RegionHeld3
/-
  Show's writer: a value that may be.
-/
namespace Go.Proofs.YtnkodejgiabamaaDoor
open Go.RowKit

theorem own_casesS {v : PV} (h : ownC v = 0) :
    (v.kind = 0 ∧ v.n = 0 ∧ v.s = [] ∧ v.l = []) ∨ (v.kind = 1 ∧ (v.n = 0 ∨ v.n = 1) ∧ v.s = [] ∧ v.l = []) ∨
    ((v.kind = 2 ∨ v.kind = 3) ∧ checkV v.kind v.n true = 0 ∧ v.s = [] ∧ v.l = []) ∨
    (v.kind = 4 ∧ v.n = 0 ∧ v.l = []) ∨ (v.kind = 5 ∧ (v.s.length ≤ 127 ∧ (0 : UInt8) ∉ v.s) ∧ v.n = 0 ∧ v.l = []) ∨ (v.kind = 6 ∧ v.n = 0 ∧ v.s = []) ∨
    (v.kind = 7 ∧ v.n = 0 ∧ v.s = []) ∨ (v.kind = 8 ∧ (1 ≤ v.n ∧ v.n ≤ 4096) ∧ v.s = [] ∧ v.l = []) := by
  obtain ⟨k, n, s, l⟩ := v
  simp only [PV.kind, PV.n, PV.s, PV.l]
  simp only [ownC] at h
  split at h
  · rename_i e; split at h
    · exact .inl ⟨e, by assumption⟩
    · cases h
  split at h
  · rename_i e; split at h
    · rename_i g; exact .inr (.inl ⟨e, g⟩)
    · cases h
  split at h
  · rename_i e; split at h
    · rename_i g; exact .inr (.inr (.inl ⟨e, h, g⟩))
    · cases h
  split at h
  · rename_i e; split at h
    · rename_i g; exact .inr (.inr (.inr (.inl ⟨e, g⟩)))
    · cases h
  split at h
  · rename_i e; split at h
    · cases h
    · rename_i q; split at h
      · rename_i g; exact .inr (.inr (.inr (.inr (.inl ⟨e, by rw [not_or] at q; exact ⟨by omega, q.2⟩, g⟩))))
      · cases h
  split at h
  · rename_i e; split at h
    · rename_i g; exact .inr (.inr (.inr (.inr (.inr (.inl ⟨e, g⟩)))))
    · cases h
  split at h
  · rename_i e; split at h
    · cases h
    · rename_i q
      simp only [not_or, Decidable.not_not, ne_eq] at q
      exact .inr (.inr (.inr (.inr (.inr (.inr (.inl ⟨e, q.1, q.2.1⟩))))))
  split at h
  · rename_i e; split at h
    · rename_i g; exact .inr (.inr (.inr (.inr (.inr (.inr (.inr ⟨e, ⟨g.1, g.2.1⟩, g.2.2⟩))))))
    · cases h
  cases h
theorem firstC_ownS {v : PV} (h : firstC v = 0) : ownC v = 0 := by
  rw [firstC_is] at h
  by_cases e : ownC v = 0
  · exact e
  · rw [if_pos e] at h; exact h
theorem first_memS {v : PV} (h : firstC v = 0) (hk : v.kind = 6 ∨ v.kind = 7) {k : Nat} {x : PV} (hx : v.l[k]? = some x) : firstC x = 0 := by
  have ho := firstC_ownS h
  rw [firstC_is, if_neg (by simp [ho]), if_pos hk] at h
  have : ∀ (l : List PV) (k : Nat), firstL l = 0 → l[k]? = some x → firstC x = 0 := by
    intro l
    induction l with
    | nil => intro k _ hx; cases hx
    | cons y l ih =>
      intro k h hx
      simp only [firstL] at h
      split at h
      · rename_i e; exact absurd h e
      · rename_i e
        cases k with
        | zero =>
          have : y = x := by simpa using hx
          subst this; omega
        | succ k => exact ih k h (by simpa using hx)
  exact this v.l k h hx
theorem textF_ge (s : List UInt8) : s.length + 2 ≤ (textF s).length := by
  unfold textF
  split
  · have : ∀ l : List UInt8, l.length ≤ (bareF l).length := fun l => by
      induction l with
      | nil => exact Nat.zero_le _
      | cons c l ih => simp only [bareF, List.length_append, List.length_cons]; split <;> (simp; omega)
    have := this s
    simp; omega
  · have := hexF_len s
    simp; omega
theorem nameF_ge : ∀ l : List UInt8, l.length ≤ (nameF l).length
  | [] => Nat.zero_le _
  | c :: l => by
    have := nameF_ge l
    simp only [nameF, List.length_append, List.length_cons]
    split <;> (simp [hexB]; omega)

theorem intOf_any (n : Int) (w : World) : Calls Tryd.prog 20 #[.int .i64 n] w fun e w' => e = .returned (.agg #[.int .i64 2, .int .i64 n, .string ⟨#[]⟩, .slice none 0 0]) ∧ Below w.heap.size w w' := by
  go_enter Tryd.func20, Tryd.ntmps20
  go_wp2
  refine bodyPost_ret (results_cell_row rfl _ _ w.heap.size 24 _ (0, 0) _ rfl (heapA_new _ rfl) Tryd.underlying24 rfl (by kernel_rfl)) rfl ?_
  exact ⟨rfl, belowA _ _⟩

section
variable {w : World} {S : Nat → Prop} {p : Nat} {out : List UInt8} {a : Option Addr} {cap : Nat}
set_option maxRecDepth 8000 in
set_option maxHeartbeats 4000000 in
theorem value_w0 (h : WrQ w S p out) (hl : out.length + 4 ≤ 1000000) :
    Calls Tryd.prog 23 #[.pointer (some ⟨p, 0, none⟩), .agg #[.int .i64 0, .int .i64 0, .string ⟨#[]⟩, .slice a 0 cap]] w fun e w' => e = .returned (.tuple #[]) ∧ WrNext w S p (out ++ [110, 117, 108, 108]) w' := by
  have hb := belowA w (.cells #[.int .i64 0, .int .i64 0, .string ⟨#[]⟩, .slice a 0 cap] 24)
  have HB := Lib.hid hb
  have HW := Lib.hid (writeStrW (h.keep hb) [110, 117, 108, 108] (by simp; omega))
  rw [show mkB [110, 117, 108, 108] = ⟨#[110, 117, 108, 108]⟩ from rfl] at HW
  clear h hb
  go_enter Tryd.func23, Tryd.ntmps23
  go_wp2_with (go_at_call 37; refine HW.out.mono ?_; rintro e w1 ⟨rfl, hN1⟩; have HN1 := Lib.hid (WrNext.above HB.out hN1); clear hN1)
  go_end0
  exact ⟨rfl, HN1.out⟩
set_option maxRecDepth 8000 in
set_option maxHeartbeats 4000000 in
theorem value_w4 (h : WrQ w S p out) (s : List UInt8) (hl : out.length + (textF s).length ≤ 1000000) :
    Calls Tryd.prog 23 #[.pointer (some ⟨p, 0, none⟩), .agg #[.int .i64 4, .int .i64 0, .string (mkB s), .slice a 0 cap]] w fun e w' => e = .returned (.tuple #[]) ∧ WrNext w S p (out ++ textF s) w' := by
  have hb := belowA w (.cells #[.int .i64 4, .int .i64 0, .string (mkB s), .slice a 0 cap] 24)
  have HB := Lib.hid hb
  have hge := textF_ge s
  have HW := Lib.hid (textW (h.keep hb) s (by omega))
  generalize textF s = t at *
  generalize mkB s = sb at *
  clear h hb hge
  go_enter Tryd.func23, Tryd.ntmps23
  go_wp2_with (go_at_call 31; refine HW.out.mono ?_; rintro e w1 ⟨rfl, hN1⟩; have HN1 := Lib.hid (WrNext.above HB.out hN1); clear hN1)
  go_end0
  exact ⟨rfl, HN1.out⟩
set_option maxRecDepth 8000 in
set_option maxHeartbeats 4000000 in
theorem value_w5 (h : WrQ w S p out) (s : List UInt8) (hl : out.length + (47 :: nameF s).length ≤ 1000000) :
    Calls Tryd.prog 23 #[.pointer (some ⟨p, 0, none⟩), .agg #[.int .i64 5, .int .i64 0, .string (mkB s), .slice a 0 cap]] w fun e w' => e = .returned (.tuple #[]) ∧ WrNext w S p (out ++ 47 :: nameF s) w' := by
  have hb := belowA w (.cells #[.int .i64 5, .int .i64 0, .string (mkB s), .slice a 0 cap] 24)
  have HB := Lib.hid hb
  have hge := nameF_ge s
  have HW := Lib.hid (nameW (h.keep hb) s (by simp at hl; omega))
  generalize 47 :: nameF s = t at *
  generalize mkB s = sb at *
  clear h hb hge
  go_enter Tryd.func23, Tryd.ntmps23
  go_wp2_with (go_at_call 39; refine HW.out.mono ?_; rintro e w1 ⟨rfl, hN1⟩; have HN1 := Lib.hid (WrNext.above HB.out hN1); clear hN1)
  go_end0
  exact ⟨rfl, HN1.out⟩
set_option maxRecDepth 8000 in
set_option maxHeartbeats 4000000 in
theorem value_wn (h : WrQ w S p out) (k n : Int) (hk : k = 2 ∨ k = 3) (hl : out.length + (printV k n true).1.length ≤ 1000000) :
    Calls Tryd.prog 23 #[.pointer (some ⟨p, 0, none⟩), .agg #[.int .i64 k, .int .i64 n, .string ⟨#[]⟩, .slice a 0 cap]] w fun e w' => e = .returned (.tuple #[]) ∧ WrNext w S p (out ++ (printV k n true).1) w' := by
  have hb := belowA w (.cells #[.int .i64 k, .int .i64 n, .string ⟨#[]⟩, .slice a 0 cap] 24)
  have HB := Lib.hid hb
  have HP := Lib.hid (fun W => print_any k n ⟨#[]⟩ a 0 cap W (by omega))
  rw [show bareV ⟨#[]⟩ 0 = true from rfl] at HP
  unfold PrintEnd at HP
  generalize printV k n true = R at *
  obtain ⟨t, er⟩ := R
  simp only at HP hl ⊢
  have HQ := Lib.hid (fun (W : World) (hW : Below w.heap.size w W) => writeStrW (h.keep hW) t (by omega))
  rw [show mkS t = mkB t from rfl] at HP
  generalize mkB t = sb at *
  clear h hb
  rcases hk with rfl | rfl
  all_goals
    go_enter Tryd.func23, Tryd.ntmps23
    go_wp2_with (go_at_call 38; refine (HP.out _).mono ?_; rintro e w1 ⟨rfl, hb1⟩; have HB1 := Lib.hid (HB.out.trans (hb1.mono HB.out.size)); clear hb1)
    refine (HQ.out _ HB1.out).mono ?_
    rintro e w2 ⟨rfl, hN2⟩
    have HN2 := Lib.hid (WrNext.above HB1.out hN2)
    clear hN2
    go_wp2
    go_end0
    exact ⟨rfl, HN2.out⟩
end
end Go.Proofs.YtnkodejgiabamaaDoor
/-
  Show's writer: truth, references, arrays, dictionaries; any value that may be.
-/
namespace Go.Proofs.YtnkodejgiabamaaDoor
open Go.RowKit

section
variable {w : World} {S : Nat → Prop} {p : Nat} {out : List UInt8} {a : Option Addr} {cap : Nat}
set_option maxRecDepth 8000 in
set_option maxHeartbeats 4000000 in
theorem value_w8 (h : WrQ w S p out) (n : Int) (hl : out.length + ((printV 2 n true).1 ++ [32, 48, 32, 82]).length ≤ 1000000) :
    Calls Tryd.prog 23 #[.pointer (some ⟨p, 0, none⟩), .agg #[.int .i64 8, .int .i64 n, .string ⟨#[]⟩, .slice a 0 cap]] w fun e w' => e = .returned (.tuple #[]) ∧ WrNext w S p (out ++ ((printV 2 n true).1 ++ [32, 48, 32, 82])) w' := by
  have hb := belowA w (.cells #[.int .i64 8, .int .i64 n, .string ⟨#[]⟩, .slice a 0 cap] 24)
  have HB := Lib.hid hb
  have HI := Lib.hid (fun W => intOf_any n W)
  have HP := Lib.hid (fun W => print_any 2 n ⟨#[]⟩ none 0 0 W (by omega))
  rw [show bareV ⟨#[]⟩ 0 = true from rfl] at HP
  unfold PrintEnd at HP
  generalize printV 2 n true = R at *
  obtain ⟨t, er⟩ := R
  simp only at HP hl ⊢
  have HQ := Lib.hid (fun (W : World) (hW : Below w.heap.size w W) => writeStrW (h.keep hW) (t ++ [32, 48, 32, 82]) (by omega))
  have hcat : mkS t ++ ⟨#[32, 48, 32, 82]⟩ = mkB (t ++ [32, 48, 32, 82]) := by
    apply ByteArray.ext
    rw [ByteArray.data_append]
    simp [mkS, mkB]
  have hst : (mkS t).size ≤ 1000000 := by rw [mkS_size]; simp at hl; omega
  generalize mkB (t ++ [32, 48, 32, 82]) = sb at *
  generalize mkS t = st at *
  clear h hb
  go_enter Tryd.func23, Tryd.ntmps23
  go_wp2_with (first | (go_at_call 20; refine (HI.out _).mono ?_; rintro e w0 ⟨rfl, hb0⟩; have HB0 := Lib.hid (HB.out.trans (hb0.mono HB.out.size)); clear hb0) | (go_at_call 38; refine (HP.out _).mono ?_; rintro e w1 ⟨rfl, hb1⟩; have HB1 := Lib.hid (HB0.out.trans (hb1.mono HB0.out.size)); clear hb1))
  refine (HQ.out _ HB1.out).mono ?_
  rintro e w2 ⟨rfl, hN2⟩
  have HN2 := Lib.hid (WrNext.above HB1.out hN2)
  clear hN2
  go_wp2
  go_end0
  exact ⟨rfl, HN2.out⟩

set_option maxRecDepth 8000 in
set_option maxHeartbeats 4000000 in
theorem value_w6 {v : PV} (h : WrQ w S p out) (hk : v.kind = 6) (hn0 : v.n = 0) (hs0 : v.s = []) (hv : IsV w (fun b => b < p) v (.slice a v.l.length cap)) (HX : ∀ (k : Nat) (x : PV), v.l[k]? = some x → ValW p x) (hl : out.length + (91 :: (rowF v.l ++ [93])).length ≤ 1000000) :
    Calls Tryd.prog 23 #[.pointer (some ⟨p, 0, none⟩), pvA v (.slice a v.l.length cap)] w fun e w' => e = .returned (.tuple #[]) ∧ WrNext w S p (out ++ 91 :: (rowF v.l ++ [93])) w' := by
  unfold pvA
  rw [hk, hn0, hs0, show mkB [] = ⟨#[]⟩ from rfl]
  have hb := belowA w (.cells #[.int .i64 6, .int .i64 0, .string ⟨#[]⟩, .slice a v.l.length cap] 24)
  have HB := Lib.hid hb
  have hl' : out.length + (rowF v.l).length + 2 ≤ 1000000 := by simp only [List.length_cons, List.length_append, List.length_nil] at hl; omega
  have HW := Lib.hid (writeByteW (h.keep hb) 91 91 rfl (by omega))
  have HK := Lib.hid (heapA_new (w := w) (b := w.heap.size) (.cells #[.int .i64 6, .int .i64 0, .string ⟨#[]⟩, .slice a v.l.length cap] 24) rfl)
  have HVB := Lib.hid (hv.below hb)
  have HQB := Lib.hid (h.keep hb)
  have HNS := Lib.hid (show ¬ S w.heap.size from fun hS => by have := (h.lt hS).2; omega)
  have HR := Lib.hid (fun (W : World) (S1 : Nat → Prop) (o : List UInt8) (hq : WrQ W S1 p o) (hvv : IsV W (fun b => b < p) v (.slice a v.l.length cap)) (ho : o.length + (rowF v.l).length ≤ 1000000) => rowW hq hvv HX ho)
  have HL := Lib.hid hl'
  clear h hb hv HX hl hk hn0 hs0 hl'
  generalize hrf : rowF v.l = rf at *
  generalize hvl : v.l.length = m at *
  clear hrf hvl
  go_enter Tryd.func23, Tryd.ntmps23
  go_upto_region 1 with fail
  obtain ⟨B, hB⟩ : ∃ B, B = w.heap.size := ⟨_, rfl⟩
  rw [← hB] at HK HNS ⊢
  clear hB
  generalize w.alloc _ = W1 at *
  obtain ⟨⟨c0, c1, c2, c3⟩, -⟩ := cells4 HK.out
  go_wp2_with fail
  refine HW.out.mono ?_
  rintro e w2 ⟨rfl, hN2⟩
  obtain ⟨S2, hq2, hk2, hs2⟩ := hN2
  have HK2 := Lib.hid ((hk2.block B (lt_of_heapS HK.out) HNS.out).trans HK.out)
  have HR2 := Lib.hid (HR.out w2 S2 _ hq2 (HVB.out.wr HQB.out hk2) (by have := HL.out; simp; omega))
  have HF2 := Lib.hid (⟨hk2, hs2⟩ : _ ∧ _)
  clear hq2 hk2 hs2 HR HW HK HVB HQB HNS c0 c1 c2 c3
  obtain ⟨⟨c0, c1, c2, c3⟩, -⟩ := cells4 HK2.out
  go_wp2_with fail
  refine HR2.out.mono ?_
  rintro e w3 ⟨rfl, hN3⟩
  obtain ⟨S3, hq3, hk3, hs3⟩ := hN3
  have HW3 := Lib.hid (writeByteW hq3 93 93 rfl (by have := HL.out; simp; omega))
  have HF3 := Lib.hid (⟨hk3, hs3⟩ : _ ∧ _)
  clear hq3 hk3 hs3 HR2 HK2 c0 c1 c2 c3
  go_wp2_with fail
  refine HW3.out.mono ?_
  rintro e w4 ⟨rfl, hN4⟩
  have HN4 := Lib.hid (show WrNext w S p (out ++ 91 :: (rf ++ [93])) w4 by
    have h5 := WrNext.above HB.out (WrNext.trans HF2.out.1 HF2.out.2 (WrNext.trans HF3.out.1 HF3.out.2 hN4))
    simpa using h5)
  clear hN4
  go_wp2
  go_end0
  exact ⟨rfl, HN4.out⟩
set_option maxRecDepth 8000 in
set_option maxHeartbeats 4000000 in
theorem value_w7 {v : PV} (h : WrQ w S p out) (hk : v.kind = 7) (hn0 : v.n = 0) (hs0 : v.s = []) (hv : IsV w (fun b => b < p) v (.slice a v.l.length cap)) (HX : ∀ (k : Nat) (x : PV), v.l[k]? = some x → ValW p x) (hl : out.length + (60 :: 60 :: (rowF v.l ++ [62, 62])).length ≤ 1000000) :
    Calls Tryd.prog 23 #[.pointer (some ⟨p, 0, none⟩), pvA v (.slice a v.l.length cap)] w fun e w' => e = .returned (.tuple #[]) ∧ WrNext w S p (out ++ 60 :: 60 :: (rowF v.l ++ [62, 62])) w' := by
  unfold pvA
  rw [hk, hn0, hs0, show mkB [] = ⟨#[]⟩ from rfl]
  have hb := belowA w (.cells #[.int .i64 7, .int .i64 0, .string ⟨#[]⟩, .slice a v.l.length cap] 24)
  have HB := Lib.hid hb
  have hl' : out.length + (rowF v.l).length + 4 ≤ 1000000 := by simp only [List.length_cons, List.length_append, List.length_nil] at hl; omega
  have HW := Lib.hid (writeStrW (h.keep hb) [60, 60] (by simp; omega))
  rw [show mkB [60, 60] = ⟨#[60, 60]⟩ from rfl] at HW
  have HK := Lib.hid (heapA_new (w := w) (b := w.heap.size) (.cells #[.int .i64 7, .int .i64 0, .string ⟨#[]⟩, .slice a v.l.length cap] 24) rfl)
  have HVB := Lib.hid (hv.below hb)
  have HQB := Lib.hid (h.keep hb)
  have HNS := Lib.hid (show ¬ S w.heap.size from fun hS => by have := (h.lt hS).2; omega)
  have HR := Lib.hid (fun (W : World) (S1 : Nat → Prop) (o : List UInt8) (hq : WrQ W S1 p o) (hvv : IsV W (fun b => b < p) v (.slice a v.l.length cap)) (ho : o.length + (rowF v.l).length ≤ 1000000) => rowW hq hvv HX ho)
  have HL := Lib.hid hl'
  clear h hb hv HX hl hk hn0 hs0 hl'
  generalize hrf : rowF v.l = rf at *
  generalize hvl : v.l.length = m at *
  clear hrf hvl
  go_enter Tryd.func23, Tryd.ntmps23
  go_upto_region 1 with fail
  obtain ⟨B, hB⟩ : ∃ B, B = w.heap.size := ⟨_, rfl⟩
  rw [← hB] at HK HNS ⊢
  clear hB
  generalize w.alloc _ = W1 at *
  obtain ⟨⟨c0, c1, c2, c3⟩, -⟩ := cells4 HK.out
  go_wp2_with fail
  refine HW.out.mono ?_
  rintro e w2 ⟨rfl, hN2⟩
  obtain ⟨S2, hq2, hk2, hs2⟩ := hN2
  have HK2 := Lib.hid ((hk2.block B (lt_of_heapS HK.out) HNS.out).trans HK.out)
  have HR2 := Lib.hid (HR.out w2 S2 _ hq2 (HVB.out.wr HQB.out hk2) (by have := HL.out; simp; omega))
  have HF2 := Lib.hid (⟨hk2, hs2⟩ : _ ∧ _)
  clear hq2 hk2 hs2 HR HW HK HVB HQB HNS c0 c1 c2 c3
  obtain ⟨⟨c0, c1, c2, c3⟩, -⟩ := cells4 HK2.out
  go_wp2_with fail
  refine HR2.out.mono ?_
  rintro e w3 ⟨rfl, hN3⟩
  obtain ⟨S3, hq3, hk3, hs3⟩ := hN3
  have HW3 := Lib.hid (writeStrW hq3 [62, 62] (by have := HL.out; simp; omega))
  rw [show mkB [62, 62] = ⟨#[62, 62]⟩ from rfl] at HW3
  have HF3 := Lib.hid (⟨hk3, hs3⟩ : _ ∧ _)
  clear hq3 hk3 hs3 HR2 HK2 c0 c1 c2 c3
  go_wp2_with fail
  refine HW3.out.mono ?_
  rintro e w4 ⟨rfl, hN4⟩
  have HN4 := Lib.hid (show WrNext w S p (out ++ 60 :: 60 :: (rf ++ [62, 62])) w4 by
    have h5 := WrNext.above HB.out (WrNext.trans HF2.out.1 HF2.out.2 (WrNext.trans HF3.out.1 HF3.out.2 hN4))
    simpa using h5)
  clear hN4
  go_wp2
  go_end0
  exact ⟨rfl, HN4.out⟩
set_option maxRecDepth 8000 in
set_option maxHeartbeats 4000000 in
theorem value_w1a (h : WrQ w S p out) (hl : out.length + 5 ≤ 1000000) :
    Calls Tryd.prog 23 #[.pointer (some ⟨p, 0, none⟩), .agg #[.int .i64 1, .int .i64 0, .string ⟨#[]⟩, .slice a 0 cap]] w fun e w' => e = .returned (.tuple #[]) ∧ WrNext w S p (out ++ [102, 97, 108, 115, 101]) w' := by
  have hb := belowA w (.cells #[.int .i64 1, .int .i64 0, .string ⟨#[]⟩, .slice a 0 cap] 24)
  have HB := Lib.hid hb
  have HK := Lib.hid (heapA_new (w := w) (b := w.heap.size) (.cells #[.int .i64 1, .int .i64 0, .string ⟨#[]⟩, .slice a 0 cap] 24) rfl)
  have HQ := Lib.hid (fun (W : World) (hW : Below w.heap.size w W) => writeStrW (h.keep hW) [102, 97, 108, 115, 101] (by simp; omega))
  rw [show mkB [102, 97, 108, 115, 101] = ⟨#[102, 97, 108, 115, 101]⟩ from rfl] at HQ
  have HNS := Lib.hid (show ¬ S w.heap.size from fun hS => by have := (h.lt hS).2; omega)
  clear h hb
  go_enter Tryd.func23, Tryd.ntmps23
  go_upto_region 1 with fail
  obtain ⟨B, hB⟩ : ∃ B, B = w.heap.size := ⟨_, rfl⟩
  rw [← hB] at HK HNS ⊢
  clear hB
  generalize w.alloc _ = W1 at *
  obtain ⟨⟨c0, c1, c2, c3⟩, -⟩ := cells4 HK.out
  have HA := Lib.hid (belowA W1 (.cells #[.string ⟨#[102, 97, 108, 115, 101]⟩, .string ⟨#[116, 114, 117, 101]⟩] 9))
  have HC := Lib.hid (cell?_keep HA.out c1)
  have HKA := Lib.hid (heapA_old (.cells #[.string ⟨#[102, 97, 108, 115, 101]⟩, .string ⟨#[116, 114, 117, 101]⟩] 9) HK.out)
  have HD := Lib.hid (show Below w.heap.size w (W1.alloc (.cells #[.string ⟨#[102, 97, 108, 115, 101]⟩, .string ⟨#[116, 114, 117, 101]⟩] 9)).drew from (HB.out.trans (HA.out.mono HB.out.size)).drew)
  have HF := Lib.hid (fun (w3 : World) (hN : WrNext (W1.alloc (.cells #[.string ⟨#[102, 97, 108, 115, 101]⟩, .string ⟨#[116, 114, 117, 101]⟩] 9)).drew S p (out ++ [102, 97, 108, 115, 101]) w3) => show WrNext w S p (out ++ [102, 97, 108, 115, 101]) w3 ∧ w3.cell? ⟨B, 1, none⟩ = some (.int .i64 0) by
    obtain ⟨S3, q3, k3, s3⟩ := hN
    refine ⟨WrNext.above HD.out ⟨S3, q3, k3, s3⟩, ?_⟩
    have h3 : w3.heap[B]? = _ := (k3.block B (by show B < (W1.alloc _).heap.size; exact lt_of_heapS HKA.out) HNS.out).trans HKA.out
    rw [cell_of_row w3 B 1 _ _ _ h3]; rfl)
  have hc5 := HC.out
  have hs5 : (W1.alloc (.cells #[.string ⟨#[102, 97, 108, 115, 101]⟩, .string ⟨#[116, 114, 117, 101]⟩] 9)).cell? ⟨W1.heap.size, 0, none⟩ = some (.string ⟨#[102, 97, 108, 115, 101]⟩) := by
    rw [cell_of_row _ _ 0 _ _ _ (heapA_new _ rfl)]; rfl
  go_wp2
  go_region_with ((go_at_call 37; (with_reducible refine (HQ.out _ HD.out).mono ?_); rintro e w3 ⟨rfl, hN3⟩; have HN3 := Lib.hid (HF.out _ hN3).1; clear hN3))
  all_goals
    go_wp2
    go_end0
    exact ⟨rfl, HN3.out⟩
set_option maxRecDepth 8000 in
set_option maxHeartbeats 4000000 in
theorem value_w1b (h : WrQ w S p out) (hl : out.length + 4 ≤ 1000000) :
    Calls Tryd.prog 23 #[.pointer (some ⟨p, 0, none⟩), .agg #[.int .i64 1, .int .i64 1, .string ⟨#[]⟩, .slice a 0 cap]] w fun e w' => e = .returned (.tuple #[]) ∧ WrNext w S p (out ++ [116, 114, 117, 101]) w' := by
  have hb := belowA w (.cells #[.int .i64 1, .int .i64 1, .string ⟨#[]⟩, .slice a 0 cap] 24)
  have HB := Lib.hid hb
  have HK := Lib.hid (heapA_new (w := w) (b := w.heap.size) (.cells #[.int .i64 1, .int .i64 1, .string ⟨#[]⟩, .slice a 0 cap] 24) rfl)
  have HQ := Lib.hid (fun (W : World) (hW : Below w.heap.size w W) => writeStrW (h.keep hW) [116, 114, 117, 101] (by simp; omega))
  rw [show mkB [116, 114, 117, 101] = ⟨#[116, 114, 117, 101]⟩ from rfl] at HQ
  have HNS := Lib.hid (show ¬ S w.heap.size from fun hS => by have := (h.lt hS).2; omega)
  clear h hb
  go_enter Tryd.func23, Tryd.ntmps23
  go_upto_region 1 with fail
  obtain ⟨B, hB⟩ : ∃ B, B = w.heap.size := ⟨_, rfl⟩
  rw [← hB] at HK HNS ⊢
  clear hB
  generalize w.alloc _ = W1 at *
  obtain ⟨⟨c0, c1, c2, c3⟩, -⟩ := cells4 HK.out
  have HA := Lib.hid (belowA W1 (.cells #[.string ⟨#[102, 97, 108, 115, 101]⟩, .string ⟨#[116, 114, 117, 101]⟩] 9))
  have HC := Lib.hid (cell?_keep HA.out c1)
  have HKA := Lib.hid (heapA_old (.cells #[.string ⟨#[102, 97, 108, 115, 101]⟩, .string ⟨#[116, 114, 117, 101]⟩] 9) HK.out)
  have HD := Lib.hid (show Below w.heap.size w (W1.alloc (.cells #[.string ⟨#[102, 97, 108, 115, 101]⟩, .string ⟨#[116, 114, 117, 101]⟩] 9)).drew from (HB.out.trans (HA.out.mono HB.out.size)).drew)
  have HF := Lib.hid (fun (w3 : World) (hN : WrNext (W1.alloc (.cells #[.string ⟨#[102, 97, 108, 115, 101]⟩, .string ⟨#[116, 114, 117, 101]⟩] 9)).drew S p (out ++ [116, 114, 117, 101]) w3) => show WrNext w S p (out ++ [116, 114, 117, 101]) w3 ∧ w3.cell? ⟨B, 1, none⟩ = some (.int .i64 1) by
    obtain ⟨S3, q3, k3, s3⟩ := hN
    refine ⟨WrNext.above HD.out ⟨S3, q3, k3, s3⟩, ?_⟩
    have h3 : w3.heap[B]? = _ := (k3.block B (by show B < (W1.alloc _).heap.size; exact lt_of_heapS HKA.out) HNS.out).trans HKA.out
    rw [cell_of_row w3 B 1 _ _ _ h3]; rfl)
  have hc5 := HC.out
  have hs5 : (W1.alloc (.cells #[.string ⟨#[102, 97, 108, 115, 101]⟩, .string ⟨#[116, 114, 117, 101]⟩] 9)).cell? ⟨W1.heap.size, 1, none⟩ = some (.string ⟨#[116, 114, 117, 101]⟩) := by
    rw [cell_of_row _ _ 1 _ _ _ (heapA_new _ rfl)]; rfl
  go_wp2
  go_region_with ((go_at_call 37; (with_reducible refine (HQ.out _ HD.out).mono ?_); rintro e w3 ⟨rfl, hN3⟩; have HN3 := Lib.hid (HF.out _ hN3).1; clear hN3))
  all_goals
    go_wp2
    go_end0
    exact ⟨rfl, HN3.out⟩
end
end Go.Proofs.YtnkodejgiabamaaDoor
/-
  Show walked: Value, Name, Text, Length, of anything.
-/
namespace Go.Proofs.YtnkodejgiabamaaDoor
open Go.RowKit

theorem valueW (p : Nat) : ∀ (N : Nat) (v : PV), SizeOf.sizeOf v ≤ N → firstC v = 0 → ValW p v := by
  intro N
  induction N with
  | zero => intro v h; obtain ⟨_, _, _, _⟩ := v; simp at h
  | succ N ih =>
  intro v hN hf sx W S o hv hq hl
  obtain ⟨a, cap, e1, -, -, -⟩ := hv.len
  subst e1
  have HX : (v.kind = 6 ∨ v.kind = 7) → ∀ (k : Nat) (x : PV), v.l[k]? = some x → ValW p x := fun hk k x hx => ih x (by have := sizeOf_mem hx; omega) (first_memS hf hk hx)
  have ho := own_casesS (firstC_ownS hf)
  rcases ho with ⟨h1, h2, h3, h4⟩ | ⟨h1, h2, h3, h4⟩ | ⟨h1, h2, h3, h4⟩ | ⟨h1, h2, h4⟩ | ⟨h1, -, h2, h4⟩ | ⟨h1, h2, h3⟩ | ⟨h1, h2, h3⟩ | ⟨h1, h2, h3, h4⟩
  · obtain ⟨k, n, s, l⟩ := v
    simp only [PV.kind, PV.n, PV.s, PV.l] at h1 h2 h3 h4
    subst h1 h2 h3 h4
    have e : formV (.mk 0 0 [] []) = [110, 117, 108, 108] := by simp [formV]
    rw [e] at hl ⊢
    exact value_w0 hq (by simpa using hl)
  · obtain ⟨k, n, s, l⟩ := v
    simp only [PV.kind, PV.n, PV.s, PV.l] at h1 h2 h3 h4
    subst h1 h3 h4
    rcases h2 with rfl | rfl
    · have e : formV (.mk 1 0 [] []) = [102, 97, 108, 115, 101] := by simp [formV]
      rw [e] at hl ⊢
      exact value_w1a hq (by simpa using hl)
    · have e : formV (.mk 1 1 [] []) = [116, 114, 117, 101] := by simp [formV]
      rw [e] at hl ⊢
      exact value_w1b hq (by simpa using hl)
  · obtain ⟨k, n, s, l⟩ := v
    simp only [PV.kind, PV.n, PV.s, PV.l] at h1 h2 h3 h4
    subst h3 h4
    have e : formV (.mk k n [] []) = (printV k n true).1 := by rcases h1 with rfl | rfl <;> simp [formV]
    rw [e] at hl ⊢
    exact value_wn hq k n h1 hl
  · obtain ⟨k, n, s, l⟩ := v
    simp only [PV.kind, PV.n, PV.l] at h1 h2 h4
    subst h1 h2 h4
    have e : formV (.mk 4 0 s []) = textF s := by simp [formV]
    rw [e] at hl ⊢
    exact value_w4 hq s hl
  · obtain ⟨k, n, s, l⟩ := v
    simp only [PV.kind, PV.n, PV.l] at h1 h2 h4
    subst h1 h2 h4
    have e : formV (.mk 5 0 s []) = 47 :: nameF s := by simp [formV]
    rw [e] at hl ⊢
    exact value_w5 hq s hl
  · have e : formV v = 91 :: (rowF v.l ++ [93]) := by
      obtain ⟨k, n, s, l⟩ := v
      simp only [PV.kind] at h1
      subst h1
      simp [formV, PV.l]
    rw [e] at hl ⊢
    exact value_w6 hq h1 h2 h3 hv (HX (.inl h1)) hl
  · have e : formV v = 60 :: 60 :: (rowF v.l ++ [62, 62]) := by
      obtain ⟨k, n, s, l⟩ := v
      simp only [PV.kind] at h1
      subst h1
      simp [formV, PV.l]
    rw [e] at hl ⊢
    exact value_w7 hq h1 h2 h3 hv (HX (.inr h1)) hl
  · obtain ⟨k, n, s, l⟩ := v
    simp only [PV.kind, PV.n, PV.s, PV.l] at h1 h2 h3 h4
    subst h1 h3 h4
    have e : formV (.mk 8 n [] []) = (printV 2 n true).1 ++ [32, 48, 32, 82] := by simp [formV]
    rw [e] at hl ⊢
    exact value_w8 hq n hl

theorem printNe {k : Int} (h1 : k = 2 ∨ k = 3) (n : Int) : (signL n ++ absL k n.natAbs, (0 : Int)).1 ≠ [] := by
  intro e
  have hl := congrArg List.length e
  have h2 := (decL_spec n.natAbs).2.2
  simp only [List.length_append, List.length_nil] at hl
  rcases h1 with rfl | rfl
  · simp only [absL, if_pos] at hl
    omega
  · simp [absL] at hl
/-- What Value tells of a value. -/
def showV (v : PV) : List UInt8 × Int := if checkC v ≠ 0 then ([], checkC v) else (formV v, 0)
theorem formV_ne {v : PV} (h : firstC v = 0) : formV v ≠ [] := by
  have ho := own_casesS (firstC_ownS h)
  obtain ⟨k, n, s, l⟩ := v
  simp only [PV.kind, PV.n, PV.s, PV.l] at ho
  rcases ho with ⟨h1, -⟩ | ⟨h1, h2, -⟩ | ⟨h1, h2, -⟩ | ⟨h1, -⟩ | ⟨h1, -⟩ | ⟨h1, -⟩ | ⟨h1, -⟩ | ⟨h1, h2, -⟩
  · subst h1; simp [formV]
  · subst h1; rcases h2 with rfl | rfl <;> simp [formV]
  · have e : formV (.mk k n s l) = (printV k n true).1 := by rcases h1 with rfl | rfl <;> simp [formV]
    rw [e, printV_ok h2]
    exact printNe h1 n
  · subst h1
    have := textF_ge s
    simp [formV]
    intro e
    rw [e] at this
    simp at this
  · subst h1; simp [formV]
  · subst h1; simp [formV]
  · subst h1; simp [formV]
  · subst h1; simp [formV]
theorem wr_new (w : World) {p : Nat} (hp : p = w.heap.size) : WrQ (w.alloc (.cells #[.pointer none, .slice none 0 0] 49)) (fun b => b = p) p [] :=
  ⟨.pointer none, .slice none 0 0, heapA_new _ hp, .inl rfl, World.ownsRow_nil _ _ _ _, fun b hb => (by cases hb), rfl, fun b hb => by rw [hb, sizeA, hp]; omega⟩
theorem keeps_bel {w w1 w2 : World} {S : Nat → Prop} {p : Nat} (hb : Below w.heap.size w w1) (hk : Keeps S w1 w2) (hS : ∀ b, S b → p ≤ b) (hp : w.heap.size ≤ p) : Below w.heap.size w w2 :=
  hb.trans ⟨hk.os, hk.tape, hk.output, hk.size, fun b hb2 => hk.block b (Nat.lt_of_lt_of_le hb2 hb.size) (fun h => by have := hS b h; omega)⟩

set_option maxRecDepth 8000 in
set_option maxHeartbeats 4000000 in
theorem showValue_any {v : PV} {sl : Value} {w : World} (hv : IsV w anyF v sl) (hd : depthV v ≤ 1000) (hl : (formV v).length ≤ 1000000) :
    Calls Tryd.prog 8 #[pvA v sl] w fun e w' => e = .returned (.tuple #[.string (mkB (showV v).1), .int .i64 (showV v).2]) ∧ Below w.heap.size w w' := by
  have HC := Lib.hid (fun (W : World) (h : Below w.heap.size w W) => vcheck_any (hv.below h) hd)
  have HVV := Lib.hid (IsV.ltS v hv)
  obtain ⟨R, hR⟩ : ∃ R, R = showV v := ⟨_, rfl⟩
  rw [← hR]
  unfold showV at hR
  have HR := Lib.hid hR
  have HW := Lib.hid (fun (p : Nat) (hc : checkC v = 0) => valueW p _ v (Nat.le_refl _) (by unfold checkC at hc; split at hc; cases hc; exact hc))
  have HNE := Lib.hid (fun (hc : checkC v = 0) => formV_ne (v := v) (by unfold checkC at hc; split at hc; cases hc; exact hc))
  obtain ⟨a1, cap1, rfl, -, -, -⟩ := hv.len
  unfold pvA at HC ⊢
  unfold ValW pvA at HW
  clear hv hR
  generalize checkC v = cc at *
  generalize formV v = fv at *
  generalize v.kind = k0 at *
  generalize v.n = n0 at *
  generalize mkB v.s = s0 at *
  generalize v.l.length = m at *
  go_enter Tryd.func8, Tryd.ntmps8
  obtain ⟨B, hB⟩ : ∃ B, B = w.heap.size := ⟨_, rfl⟩
  have HX1 := Lib.hid (heapA_new (w := w) (b := B) (.cells #[.int .i64 k0, .int .i64 n0, .string s0, .slice a1 m cap1] 24) hB)
  have HW1 := Lib.hid (belowA w (.cells #[.int .i64 k0, .int .i64 n0, .string s0, .slice a1 m cap1] 24))
  go_upto_region 1 with fail
  rw [← hB]
  clear hB
  generalize w.alloc _ = W1 at *
  obtain ⟨⟨c0, c1, c2, c3⟩, -⟩ := cells4 HX1.out
  go_wp2_with fail
  refine (HC.out _ HW1.out).mono ?_
  rintro e w2 ⟨rfl, hb2⟩
  have HX2 := Lib.hid (block_keep hb2 HX1.out)
  have HW2 := Lib.hid (HW1.out.trans (hb2.mono HW1.out.size))
  clear hb2 c0 c1 c2 c3 HX1 HW1 HC
  have hR := HR.out
  by_cases hc : cc = 0
  case neg =>
    have e0 : (cc == 0) = false := by rw [beq_eq_false_iff_ne]; exact hc
    have e1 : (cc != 0) = true := by simp only [bne, e0, Bool.not_false]
    rw [if_pos hc] at hR
    subst hR
    clear HR HW HNE HVV hc
    go_wp2
    go_ret2
    exact ⟨rfl, HW2.out⟩
  rw [if_neg (by simpa using hc)] at hR
  subst hR
  have HWV := Lib.hid (fun p => HW.out p hc)
  have HNN := Lib.hid (HNE.out hc)
  subst hc
  clear HR HW HNE
  have HP3 := Lib.hid (wr_new w2 (p := w2.heap.size) rfl)
  have hb3 := belowA w2 (.cells #[.pointer none, .slice none 0 0] 49)
  have HX3 := Lib.hid (block_keep hb3 HX2.out)
  have HW3 := Lib.hid (HW2.out.trans (hb3.mono HW2.out.size))
  have HPB := Lib.hid (show B < w2.heap.size from lt_of_heapS HX2.out)
  have HPW := Lib.hid HW2.out.size
  clear hb3 HX2
  go_upto_region 5 with fail
  obtain ⟨p, hp⟩ : ∃ p, p = w2.heap.size := ⟨_, rfl⟩
  rw [← hp] at HP3 HPB HPW ⊢
  clear hp
  generalize w2.alloc _ = W3 at *
  have HV3 := Lib.hid (IsV.keep (G := fun b => b < p) (Stays.of_below HW3.out) (fun b hb => by have := hb.2; have := HPW.out; omega) _ HVV.out)
  have HCALL := Lib.hid (HWV.out p _ W3 _ [] HV3.out HP3.out (by simpa using hl))
  rw [List.nil_append] at HCALL
  obtain ⟨⟨c0, c1, c2, c3⟩, -⟩ := cells4 HX3.out
  clear HVV HV3 HWV
  go_wp2_with fail
  refine HCALL.out.mono ?_
  rintro e w4 ⟨rfl, hN4⟩
  obtain ⟨S4, q4, k4, s4⟩ := hN4
  have HW4 := Lib.hid (keeps_bel HW3.out k4 (p := p) (fun b hb => by rw [hb]; exact Nat.le_refl _) HPW.out)
  have HSTR := Lib.hid (stringW q4 HNN.out)
  have HS4 := Lib.hid (fun b hb => (q4.lt (b := b) hb).1)
  clear q4 k4 s4 HCALL c0 c1 c2 c3
  go_wp2_with fail
  refine HSTR.out.mono ?_
  rintro e w5 ⟨rfl, k5⟩
  have HW5 := Lib.hid (keeps_bel HW4.out k5 HS4.out HPW.out)
  clear k5
  go_wp2
  go_ret2
  exact ⟨rfl, HW5.out⟩
end Go.Proofs.YtnkodejgiabamaaDoor
/-
  Show walked: Name, Text, Length.
-/
namespace Go.Proofs.YtnkodejgiabamaaDoor
open Go.RowKit

theorem nameOf_any (s : ByteArray) (w : World) : Calls Tryd.prog 19 #[.string s] w fun e w' => e = .returned (.agg #[.int .i64 5, .int .i64 0, .string s, .slice none 0 0]) ∧ Below w.heap.size w w' := by
  go_enter Tryd.func19, Tryd.ntmps19
  go_wp2
  refine bodyPost_ret (results_cell_row rfl _ _ w.heap.size 24 _ (0, 0) _ rfl (heapA_new _ rfl) Tryd.underlying24 rfl (by kernel_rfl)) rfl ?_
  exact ⟨rfl, belowA _ _⟩
theorem refTo_any (n : Int) (w : World) : Calls Tryd.prog 21 #[.int .i64 n] w fun e w' => e = .returned (.agg #[.int .i64 8, .int .i64 n, .string ⟨#[]⟩, .slice none 0 0]) ∧ Below w.heap.size w w' := by
  go_enter Tryd.func21, Tryd.ntmps21
  go_wp2
  refine bodyPost_ret (results_cell_row rfl _ _ w.heap.size 24 _ (0, 0) _ rfl (heapA_new _ rfl) Tryd.underlying24 rfl (by kernel_rfl)) rfl ?_
  exact ⟨rfl, belowA _ _⟩

set_option maxRecDepth 8000 in
set_option maxHeartbeats 4000000 in
theorem showName_any (s : List UInt8) (w : World) (hl : s.length ≤ 100000) :
    Calls Tryd.prog 12 #[.string (mkB s)] w fun e w' => e = .returned (.tuple #[.string (mkB (showV (.mk 5 0 s [])).1), .int .i64 (showV (.mk 5 0 s [])).2]) ∧ Below w.heap.size w w' := by
  have HN := Lib.hid (fun W => nameOf_any (mkB s) W)
  have hfl : (formV (.mk 5 0 s [])).length ≤ 1000000 := by
    have e : formV (.mk 5 0 s []) = 47 :: nameF s := by simp [formV]
    have := nameF_len s
    rw [e]; simp; omega
  have HV := Lib.hid (fun (W : World) => showValue_any (v := .mk 5 0 s []) (sl := .slice none 0 0) (w := W) (IsV.leaf W anyF _ rfl) (by rw [depthV_is]; simp [PV.kind]) hfl)
  simp only [pvA, PV.kind, PV.n, PV.s] at HV
  generalize showV (.mk 5 0 s []) = R at *
  generalize mkB s = sb at *
  clear hfl
  go_enter Tryd.func12, Tryd.ntmps12
  go_wp2_with (first | (go_at_call 19; refine (HN.out _).mono ?_; rintro e w1 ⟨rfl, hb1⟩; have HB1 := Lib.hid hb1; clear hb1) | (go_at_call 8; refine (HV.out _).mono ?_; rintro e w2 ⟨rfl, hb2⟩))
  go_ret2
  exact ⟨rfl, HB1.out.trans (hb2.mono HB1.out.size)⟩

set_option maxRecDepth 8000 in
set_option maxHeartbeats 4000000 in
theorem showLen_any {v : PV} {sl : Value} {w : World} (hv : IsV w anyF v sl) (hd : depthV v ≤ 1000) (hl : (formV v).length ≤ 1000000) :
    Calls Tryd.prog 10 #[pvA v sl] w fun e w' => e = .returned (.int .i64 (showV v).1.length) ∧ Below w.heap.size w w' := by
  have HV := Lib.hid (fun (W : World) (h : Below w.heap.size w W) => showValue_any (hv.below h) hd hl)
  obtain ⟨a1, cap1, rfl, -, -, -⟩ := hv.len
  unfold pvA at HV ⊢
  have hsz : ((mkB (showV v).1).size : Int) = (showV v).1.length := by rw [mkB_size]
  clear hv
  obtain ⟨m2, hm2⟩ : ∃ m2, m2 = (showV v).1.length := ⟨_, rfl⟩
  rw [← hm2] at hsz ⊢
  have HS := Lib.hid hsz
  clear hm2 hsz
  generalize showV v = R at *
  obtain ⟨t, er⟩ := R
  simp only at HV HS
  generalize mkB t = sb at *
  generalize v.kind = k0 at *
  generalize v.n = n0 at *
  generalize mkB v.s = s0 at *
  generalize v.l.length = m at *
  go_enter Tryd.func10, Tryd.ntmps10
  obtain ⟨B, hB⟩ : ∃ B, B = w.heap.size := ⟨_, rfl⟩
  have HX1 := Lib.hid (heapA_new (w := w) (b := B) (.cells #[.int .i64 k0, .int .i64 n0, .string s0, .slice a1 m cap1] 24) hB)
  have HW1 := Lib.hid (belowA w (.cells #[.int .i64 k0, .int .i64 n0, .string s0, .slice a1 m cap1] 24))
  go_upto_region 1 with fail
  rw [← hB]
  clear hB
  generalize w.alloc _ = W1 at *
  obtain ⟨⟨c0, c1, c2, c3⟩, -⟩ := cells4 HX1.out
  go_wp2_with (go_at_call 8; refine (HV.out _ HW1.out).mono ?_; rintro e w2 ⟨rfl, hb2⟩)
  go_ret
  exact ⟨ret_int HS.out, HW1.out.trans (hb2.mono HW1.out.size)⟩

set_option maxRecDepth 8000 in
set_option maxHeartbeats 4000000 in
theorem showText_any (s : List UInt8) (w : World) (hl : s.length ≤ 100000) :
    Calls Tryd.prog 14 #[.string (mkB s)] w fun e w' => e = .returned (.string (mkB (textF s))) ∧ Below w.heap.size w w' := by
  have HT := Lib.hid (textW (wr_new w (p := w.heap.size) rfl) s (by simp; omega))
  rw [List.nil_append] at HT
  have hne : textF s ≠ [] := fun e => by have := textF_ge s; rw [e] at this; simp at this
  have HNN := Lib.hid hne
  have HW1 := Lib.hid (belowA w (.cells #[.pointer none, .slice none 0 0] 49))
  clear hne
  generalize textF s = t at *
  generalize mkB s = sb at *
  go_enter Tryd.func14, Tryd.ntmps14
  obtain ⟨p, hp⟩ : ∃ p, p = w.heap.size := ⟨_, rfl⟩
  have HPW := Lib.hid (Nat.le_of_eq hp.symm)
  rw [← hp] at HT
  go_upto_region 2 with fail
  rw [← hp]
  clear hp
  generalize w.alloc _ = W1 at *
  go_wp2_with fail
  refine HT.out.mono ?_
  rintro e w2 ⟨rfl, hN⟩
  obtain ⟨S4, q4, k4, s4⟩ := hN
  have HW4 := Lib.hid (keeps_bel HW1.out k4 (p := p) (fun b hb => by rw [hb]; exact Nat.le_refl _) HPW.out)
  have HSTR := Lib.hid (stringW q4 HNN.out)
  have HS4 := Lib.hid (fun b hb => (q4.lt (b := b) hb).1)
  clear q4 k4 s4 HT
  go_wp2_with fail
  refine HSTR.out.mono ?_
  rintro e w5 ⟨rfl, k5⟩
  have HW5 := Lib.hid (keeps_bel HW4.out k5 HS4.out HPW.out)
  clear k5
  go_wp2
  go_ret
  exact ⟨rfl, HW5.out⟩
end Go.Proofs.YtnkodejgiabamaaDoor
/-
  A dictionary of one name, put together: what works asks for.
-/
namespace Go.Proofs.YtnkodejgiabamaaDoor
open Go.RowKit

theorem EPVs : ElemT Tryd.prog 22 24 (.agg #[.int .i64 0, .int .i64 0, .string ⟨#[]⟩, .slice none 0 0]) 4 56 := ⟨Tryd.underlying22, by kernel_rfl, rfl, by omega⟩
set_option maxRecDepth 8000 in
set_option maxHeartbeats 4000000 in
theorem vfind_nil (key : ByteArray) (w : World) : Calls Tryd.prog 49 #[.agg #[.int .i64 7, .int .i64 0, .string ⟨#[]⟩, .slice none 0 0], .string key] w fun e w' => e = .returned (.int .i64 (-1)) ∧ Below w.heap.size w w' := by
  have HW := Lib.hid (belowA w (.cells #[.int .i64 7, .int .i64 0, .string ⟨#[]⟩, .slice none 0 0] 24))
  have HX := Lib.hid (heapA_new (w := w) (b := w.heap.size) (.cells #[.int .i64 7, .int .i64 0, .string ⟨#[]⟩, .slice none 0 0] 24) rfl)
  go_enter Tryd.func49, Tryd.ntmps49
  go_upto_region 1 with fail
  obtain ⟨B, hB⟩ : ∃ B, B = w.heap.size := ⟨_, rfl⟩
  rw [← hB] at HX ⊢
  clear hB
  generalize w.alloc _ = W1 at *
  obtain ⟨⟨c0, c1, c2, c3⟩, -⟩ := cells4 HX.out
  go_wp2
  go_loopw [5] (fun vk wr => vk = .int .i64 0 ∧ wr = W1) (fun _ _ => 0)
  case atStart => exact ⟨rfl, rfl⟩
  case round =>
    obtain ⟨rfl, hwr⟩ := hrel
    rw [hwr]
    clear hwr
    go_wp2
    go_ret
    exact ⟨rfl, HW.out⟩
set_option maxRecDepth 8000 in
set_option maxHeartbeats 4000000 in
theorem clone_nilS (w : World) : Calls Tryd.prog 48 #[.slice none 0 0] w fun e w' => e = .returned (.slice none 0 0) ∧ w = w' := by
  have hnil := fun W : World => Lib.run_eql_slice_nil (P := Tryd.prog) W 22 24 none 0 0 0 0 Tryd.underlying22
  go_enter Tryd.func48, Tryd.ntmps48
  go_wp2
  go_ret
  exact ⟨rfl, rfl⟩
set_option maxRecDepth 8000 in
set_option maxHeartbeats 4000000 in
theorem insert_nilS {w : World} {a : Option Addr} {cs : List Value} (hr : Row w 4 a 2 2 cs) (h1 : ∀ u ∈ cs, u.oneCell' = true) :
    Calls Tryd.prog 51 #[.slice none 0 0, .int .i64 0, .slice a 2 2] w fun e w' => ∃ v, e = .returned v ∧ w'.ownsRow w.heap.size 24 4 v 2 cs ∧ Below w.heap.size w w' := by
  have HR := Lib.hid hr
  have H1 := Lib.hid h1
  clear hr h1
  go_enter Tryd.func51, Tryd.ntmps51
  go_wp2_with (at_builtin; refine append_row EPVs rfl _ _ rfl w.heap.size _ 0 [] rfl (World.ownsRow_nil _ _ _ _) a 2 2 cs rfl HR.out H1.out (by unfold maxLen; omega) (by omega) (Nat.le_refl _) ?_; intro v' w5 hO5 hg5 _; have HO5 := Lib.hid hO5; have HB5 := Lib.hid ((Below.refl w.heap.size w).grown hg5 (Nat.le_refl _) (fun q hq => (by cases hq))); clear hO5 hg5)
  go_ret
  exact ⟨_, rfl, HO5.out, HB5.out⟩
/-- What works puts together. -/
def dict1 : PV := .mk 7 0 [] [.mk 5 0 [65] [], .mk 2 7 [] []]
def cs1 : List Value := [.int .i64 5, .int .i64 0, .string ⟨#[65]⟩, .slice none 0 0, .int .i64 2, .int .i64 7, .string ⟨#[]⟩, .slice none 0 0]
theorem cs1_one : ∀ u ∈ cs1, u.oneCell' = true := by
  intro u hu
  simp [cs1] at hu
  rcases hu with rfl | rfl | rfl | rfl | rfl | rfl | rfl | rfl <;> rfl
theorem cs1_vals (w : World) (F : Nat → Prop) : IsVs w F dict1.l cs1 :=
  ⟨.slice none 0 0, _, rfl, IsV.leaf _ _ _ rfl, .slice none 0 0, [], rfl, IsV.leaf _ _ _ rfl, rfl⟩
theorem row_two (w : World) (cs : Array Value) (e : TypeId) (hn : cs.size = 8) {b : Nat} (hb : b = w.heap.size) : Row (w.alloc (.cells cs e)) 4 (some ⟨b, 0, none⟩) 2 2 cs.toList := by
  subst hb
  exact ⟨by simp [hn], Nat.le_refl _, by simp [maxLen], fun h => (by cases h), fun _ => ⟨w.heap.size, 0, rfl, by rw [sizeA]; omega, fun j u hj => by
    rw [Nat.zero_add, cell_of_row _ _ _ _ _ _ (heapA_new _ rfl)]; simpa using hj⟩⟩

/-- What the last statement of Put reads. -/
def SP (w : World) (B : Nat) : Prop := w.cell? ⟨B, 3, none⟩ = some (.slice none 0 0) ∧ w.cell? ⟨B + 1, 0, none⟩ = some (.int .i64 2) ∧ w.cell? ⟨B + 1, 1, none⟩ = some (.int .i64 7) ∧ w.cell? ⟨B + 1, 2, none⟩ = some (.string ⟨#[]⟩) ∧ w.cell? ⟨B + 1, 3, none⟩ = some (.slice none 0 0)
theorem SP.below {w w' : World} {B : Nat} (h : SP w B) (hb : Below w.heap.size w w') : SP w' B := ⟨cell?_keep hb h.1, cell?_keep hb h.2.1, cell?_keep hb h.2.2.1, cell?_keep hb h.2.2.2.1, cell?_keep hb h.2.2.2.2⟩
theorem SP.drew {w : World} {B : Nat} (h : SP w B) : SP w.drew B := h
theorem SP.alloc {w : World} {B : Nat} (h : SP w B) (o : Obj) : SP (w.alloc o) B := h.below (belowA w o)
theorem set4_otherS {W : World} {b r : Nat} (hb : b ≠ r) (y0 y1 y2 y3 : Value) : ((((W.setCell ⟨r, 0, none⟩ y0).setCell ⟨r, 1, none⟩ y1).setCell ⟨r, 2, none⟩ y2).setCell ⟨r, 3, none⟩ y3).heap[b]? = W.heap[b]? := by
  rw [heap_setCell_other _ _ _ _ hb, heap_setCell_other _ _ _ _ hb, heap_setCell_other _ _ _ _ hb, heap_setCell_other _ _ _ _ hb]
theorem set4_sizeS (w : World) (r : Nat) (y0 y1 y2 y3 : Value) : ((((w.setCell ⟨r, 0, none⟩ y0).setCell ⟨r, 1, none⟩ y1).setCell ⟨r, 2, none⟩ y2).setCell ⟨r, 3, none⟩ y3).heap.size = w.heap.size := by simp [World.setCell]
theorem put1_fin {w wI : World} {B Q : Nat} {v : Value} (hO : wI.ownsRow Q 24 4 v 2 cs1) (hQ : B + 3 ≤ Q) (hb : Below w.heap.size w wI) (hB : w.heap.size ≤ B) (y0 y1 y2 y3 : Value) :
    IsV (((((wI.setCell ⟨B, 3, none⟩ v).setCell ⟨B + 1 + 1, 0, none⟩ y0).setCell ⟨B + 1 + 1, 1, none⟩ y1).setCell ⟨B + 1 + 1, 2, none⟩ y2).setCell ⟨B + 1 + 1, 3, none⟩ y3) (fun b => w.heap.size ≤ b) dict1 v ∧
    Below w.heap.size w (((((wI.setCell ⟨B, 3, none⟩ v).setCell ⟨B + 1 + 1, 0, none⟩ y0).setCell ⟨B + 1 + 1, 1, none⟩ y1).setCell ⟨B + 1 + 1, 2, none⟩ y2).setCell ⟨B + 1 + 1, 3, none⟩ y3) := by
  refine ⟨?_, below_set4 (hb.setCell (by show w.heap.size ≤ B; omega) _) (by omega) _ _ _ _⟩
  obtain ⟨a, cap, rfl, hr, hbase⟩ := Row.of_owns hO
  have hst : Stays (fun b => Q ≤ b) wI (((((wI.setCell ⟨B, 3, none⟩ (.slice a 2 cap)).setCell ⟨B + 1 + 1, 0, none⟩ y0).setCell ⟨B + 1 + 1, 1, none⟩ y1).setCell ⟨B + 1 + 1, 2, none⟩ y2).setCell ⟨B + 1 + 1, 3, none⟩ y3) :=
    ⟨by rw [set4_sizeS]; simp [World.setCell], fun b _ hF => by
      have hF : Q ≤ b := hF
      rw [set4_otherS (by omega), heap_setCell_other _ _ _ _ (by show b ≠ B; omega)]⟩
  exact IsV.mk (v := dict1) (hr.stays hst (fun _ x hx => hbase x hx)) (fun _ x hx => by have := hbase x hx; show w.heap.size ≤ x.block; omega) (cs1_vals _ _)
set_option maxRecDepth 8000 in
set_option maxHeartbeats 4000000 in
theorem vput1 (w : World) : Calls Tryd.prog 32 #[.agg #[.int .i64 7, .int .i64 0, .string ⟨#[]⟩, .slice none 0 0], .string ⟨#[65]⟩, .agg #[.int .i64 2, .int .i64 7, .string ⟨#[]⟩, .slice none 0 0]] w fun e w' =>
    ∃ sl, e = .returned (pvA dict1 sl) ∧ IsV w' (fun b => w.heap.size ≤ b) dict1 sl ∧ Below w.heap.size w w' := by
  have HF := Lib.hid (fun W => vfind_nil ⟨#[65]⟩ W)
  have HC := Lib.hid (fun W => clone_nilS W)
  have HN := Lib.hid (fun W => nameOf_any ⟨#[65]⟩ W)
  have HI := Lib.hid (fun (W : World) (a : Option Addr) (h : Row W 4 a 2 2 cs1) => insert_nilS h cs1_one)
  obtain ⟨B, hB⟩ : ∃ B, B = w.heap.size := ⟨_, rfl⟩
  have HX1 := Lib.hid (show (((w.alloc (.cells #[.int .i64 7, .int .i64 0, .string ⟨#[]⟩, .slice none 0 0] 24)).alloc (.cells #[.int .i64 2, .int .i64 7, .string ⟨#[]⟩, .slice none 0 0] 24)).alloc (.cells #[.int .i64 0, .int .i64 0, .string ⟨#[]⟩, .slice none 0 0] 24)).heap[B]? = some (.cells #[.int .i64 7, .int .i64 0, .string ⟨#[]⟩, .slice none 0 0] 24 (0, 0)) from heapA_old _ (heapA_old _ (heapA_new _ hB)))
  have HX2 := Lib.hid (show (((w.alloc (.cells #[.int .i64 7, .int .i64 0, .string ⟨#[]⟩, .slice none 0 0] 24)).alloc (.cells #[.int .i64 2, .int .i64 7, .string ⟨#[]⟩, .slice none 0 0] 24)).alloc (.cells #[.int .i64 0, .int .i64 0, .string ⟨#[]⟩, .slice none 0 0] 24)).heap[B + 1]? = some (.cells #[.int .i64 2, .int .i64 7, .string ⟨#[]⟩, .slice none 0 0] 24 (0, 0)) from heapA_old _ (heapA_new _ (by rw [sizeA, hB])))
  have HX3 := Lib.hid (show (((w.alloc (.cells #[.int .i64 7, .int .i64 0, .string ⟨#[]⟩, .slice none 0 0] 24)).alloc (.cells #[.int .i64 2, .int .i64 7, .string ⟨#[]⟩, .slice none 0 0] 24)).alloc (.cells #[.int .i64 0, .int .i64 0, .string ⟨#[]⟩, .slice none 0 0] 24)).heap[B + 1 + 1]? = some (.cells #[.int .i64 0, .int .i64 0, .string ⟨#[]⟩, .slice none 0 0] 24 (0, 0)) from heapA_new _ (by rw [sizeA, sizeA, hB]))
  have HW := Lib.hid (belowA3 w (.cells #[.int .i64 7, .int .i64 0, .string ⟨#[]⟩, .slice none 0 0] 24) (.cells #[.int .i64 2, .int .i64 7, .string ⟨#[]⟩, .slice none 0 0] 24) (.cells #[.int .i64 0, .int .i64 0, .string ⟨#[]⟩, .slice none 0 0] 24))
  have HBB := Lib.hid (Nat.le_of_eq hB.symm)
  go_enter Tryd.func32, Tryd.ntmps32
  go_upto_region 1 with fail
  rw [← hB]
  clear hB
  generalize ((w.alloc _).alloc _).alloc _ = W1 at *
  obtain ⟨⟨c0, c1, c2, c3⟩, f0, f1, f2, f3⟩ := cells4 HX1.out
  obtain ⟨⟨d0, d1, d2, d3⟩, -⟩ := cells4 HX2.out
  go_wp2_with (go_at_call 48; refine (HC.out _).mono ?_; rintro e w' ⟨rfl, rfl⟩)
  have HX1b := Lib.hid (show (W1.setCell ⟨B, 3, none⟩ (.slice none 0 0)).heap[B]? = some (.cells #[.int .i64 7, .int .i64 0, .string ⟨#[]⟩, .slice none 0 0] 24 (0, 0)) by rw [heap_setCell_same W1 B 3 _ _ _ HX1.out]; rfl)
  have HX2b := Lib.hid (show (W1.setCell ⟨B, 3, none⟩ (.slice none 0 0)).heap[B + 1]? = some (.cells #[.int .i64 2, .int .i64 7, .string ⟨#[]⟩, .slice none 0 0] 24 (0, 0)) from (heap_setCell_other _ _ _ _ (by show B + 1 ≠ B; omega)).trans HX2.out)
  have HX3b := Lib.hid (show (W1.setCell ⟨B, 3, none⟩ (.slice none 0 0)).heap[B + 1 + 1]? = some (.cells #[.int .i64 0, .int .i64 0, .string ⟨#[]⟩, .slice none 0 0] 24 (0, 0)) from (heap_setCell_other _ _ _ _ (by show B + 1 + 1 ≠ B; omega)).trans HX3.out)
  have HWb := Lib.hid (show Below w.heap.size w (W1.setCell ⟨B, 3, none⟩ (.slice none 0 0)) from HW.out.setCell (by show w.heap.size ≤ B; exact HBB.out) _)
  refine (HF.out _).mono ?_
  rintro e W2 ⟨rfl, hb2⟩
  have HY1 := Lib.hid (block_keep hb2 HX1b.out)
  have HY2 := Lib.hid (block_keep hb2 HX2b.out)
  have HY3 := Lib.hid (block_keep hb2 HX3b.out)
  have HW2 := Lib.hid (HWb.out.trans (hb2.mono HWb.out.size))
  clear hb2 c0 c1 c2 c3 f0 f1 f2 f3 d0 d1 d2 d3 HX1 HX2 HX3 HX1b HX2b HX3b HW HWb HF HC
  obtain ⟨⟨c0, c1, c2, c3⟩, f0, f1, f2, f3⟩ := cells4 HY1.out
  obtain ⟨⟨d0, d1, d2, d3⟩, -⟩ := cells4 HY2.out
  go_wp2
  go_loopw [8, 9] (fun va vk wr => va = .int .i64 0 ∧ vk = .int .i64 0 ∧ wr = W2) (fun _ _ _ => 0)
  case atStart => exact ⟨rfl, rfl, rfl⟩
  case round =>
    obtain ⟨rfl, rfl, hwr⟩ := hrel
    rw [hwr]
    clear hwr
    go_upto_region 14 with fail
    have HS0 := Lib.hid (show SP W2 B from ⟨c3, d0, d1, d2, d3⟩)
    go_region_with ((first
        | (go_at_call 19; refine (HN.out _).mono ?_; rintro e wN ⟨rfl, hbN⟩; have HBN := Lib.hid (show Below W2.heap.size W2 wN from (Below.refl _ _).drew.trans hbN); have HSN := Lib.hid (HS0.out.below HBN.out); obtain ⟨n3, x0, x1, x2, x3⟩ := HSN.out; obtain ⟨m3, -⟩ := HSN.out.alloc (.cells #[.int .i64 5, .int .i64 0, .string ⟨#[65]⟩, .slice none 0 0, .int .i64 2, .int .i64 7, .string ⟨#[]⟩, .slice none 0 0] 24); clear hbN)
        | (go_at_call 51; refine (HI.out _ _ (row_two wN #[.int .i64 5, .int .i64 0, .string ⟨#[65]⟩, .slice none 0 0, .int .i64 2, .int .i64 7, .string ⟨#[]⟩, .slice none 0 0] 24 rfl rfl)).mono ?_; rintro e wI ⟨vI, rfl, hOI, hbI⟩; obtain ⟨aI, cI, hvI, -, -⟩ := Row.of_owns hOI; subst hvI; have HBI := Lib.hid (HBN.out.trans ((belowA wN _).trans (hbI.mono (by rw [sizeA]; omega)) |>.mono HBN.out.size)); have HSI := Lib.hid (HS0.out.below HBI.out); have hcI := HSI.out.1; have hfI : wI.frozen? ⟨B, 3, none⟩ = false := frozen_of_row wI B 3 _ _ (block_keep HBI.out HY1.out); have HOI := Lib.hid hOI; have HQI := Lib.hid (show W2.heap.size ≤ (wN.alloc (.cells #[.int .i64 5, .int .i64 0, .string ⟨#[65]⟩, .slice none 0 0, .int .i64 2, .int .i64 7, .string ⟨#[]⟩, .slice none 0 0] 24)).heap.size by rw [sizeA]; have := HBN.out.size; omega); clear hOI hbI)))
    all_goals
      have HFIN := Lib.hid (fun y0 y1 y2 y3 => put1_fin (B := B) HOI.out (by have h1 := HQI.out; have h2 := lt_of_heapS HY3.out; omega) (HW2.out.trans (HBI.out.mono HW2.out.size)) HBB.out y0 y1 y2 y3)
      have HYI := Lib.hid (show (wI.setCell ⟨B, 3, none⟩ (.slice aI 2 cI)).heap[B]? = some (.cells #[.int .i64 7, .int .i64 0, .string ⟨#[]⟩, .slice aI 2 cI] 24 (0, 0)) by rw [heap_setCell_same wI B 3 _ _ _ (block_keep HBI.out HY1.out)]; rfl)
      have HYR := Lib.hid (show (wI.setCell ⟨B, 3, none⟩ (.slice aI 2 cI)).heap[B + 1 + 1]? = some (.cells #[.int .i64 0, .int .i64 0, .string ⟨#[]⟩, .slice none 0 0] 24 (0, 0)) from (heap_setCell_other _ _ _ _ (by show B + 1 + 1 ≠ B; omega)).trans (block_keep HBI.out HY3.out))
      clear HN HI HS0 HSN HBN HBI HSI hcI hfI HOI HQI n3 x0 x1 x2 x3 m3 c0 c1 c2 c3 f0 f1 f2 f3 d0 d1 d2 d3 HY1 HY2 HY3
      generalize wI.setCell _ _ = WX at *
      obtain ⟨⟨c0, c1, c2, c3⟩, -⟩ := cells4 HYI.out
      obtain ⟨⟨r0, r1, r2, r3⟩, rf0, rf1, rf2, rf3⟩ := cells4 HYR.out
      go_wp2
      refine bodyPost_ret (results_cell_row rfl _ _ (B + 1 + 1) 24 _ (0, 0) _ rfl (by exact set4 HYR.out _ _ _ _) Tryd.underlying24 rfl (by kernel_rfl)) rfl ?_
      exact ⟨_, rfl, (HFIN.out _ _ _ _).1, (HFIN.out _ _ _ _).2⟩
end Go.Proofs.YtnkodejgiabamaaDoor
