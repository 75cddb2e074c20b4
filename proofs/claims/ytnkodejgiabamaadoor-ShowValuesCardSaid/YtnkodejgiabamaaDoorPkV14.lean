/-
  Our texts Sw8 to Sx4, in one.
-/
import Derived.Test.YtnkodejgiabamaaDoorPkV13
/-
  Show's writer: truth, references, arrays, dictionaries; any value that may be.
-/
namespace Go.Proofs.YtnkodejgiabamaaDoor
open Go.RowKit

section
variable {w : World} {S : Nat → Prop} {p : Nat} {out : List UInt8} {a : Option Addr} {cap : Nat}
set_option maxRecDepth 8000 in
set_option maxHeartbeats 4000000 in
theorem value_w8 (h : WrQ w S p out) (n : Int) (hl : out.length + ((printV 2 n true).1 ++ [32, 48, 32, 82]).length ≤ 1000000) :
    Calls Tryd.prog 23 #[.pointer (some ⟨p, 0, none⟩), .agg #[.int .i64 8, .int .i64 n, .string ⟨#[]⟩, .slice a 0 cap]] w fun e w' => e = .returned (.tuple #[]) ∧ WrNext w S p (out ++ ((printV 2 n true).1 ++ [32, 48, 32, 82])) w' := by
  have hb := belowA w (.cells #[.int .i64 8, .int .i64 n, .string ⟨#[]⟩, .slice a 0 cap] 24)
  have HB := Lib.hid hb
  have HI := Lib.hid (fun W => intOf_any n W)
  have HP := Lib.hid (fun W => print_any 2 n ⟨#[]⟩ none 0 0 W (by omega))
  rw [show bareV ⟨#[]⟩ 0 = true from rfl] at HP
  unfold PrintEnd at HP
  generalize printV 2 n true = R at *
  obtain ⟨t, er⟩ := R
  simp only at HP hl ⊢
  have HQ := Lib.hid (fun (W : World) (hW : Below w.heap.size w W) => writeStrW (h.keep hW) (t ++ [32, 48, 32, 82]) (by omega))
  have hcat : mkS t ++ ⟨#[32, 48, 32, 82]⟩ = mkB (t ++ [32, 48, 32, 82]) := by
    apply ByteArray.ext
    rw [ByteArray.data_append]
    simp [mkS, mkB]
  have hst : (mkS t).size ≤ 1000000 := by rw [mkS_size]; simp at hl; omega
  generalize mkB (t ++ [32, 48, 32, 82]) = sb at *
  generalize mkS t = st at *
  clear h hb
  go_enter Tryd.func23, Tryd.ntmps23
  go_wp2_with (first | (go_at_call 20; refine (HI.out _).mono ?_; rintro e w0 ⟨rfl, hb0⟩; have HB0 := Lib.hid (HB.out.trans (hb0.mono HB.out.size)); clear hb0) | (go_at_call 38; refine (HP.out _).mono ?_; rintro e w1 ⟨rfl, hb1⟩; have HB1 := Lib.hid (HB0.out.trans (hb1.mono HB0.out.size)); clear hb1))
  refine (HQ.out _ HB1.out).mono ?_
  rintro e w2 ⟨rfl, hN2⟩
  have HN2 := Lib.hid (WrNext.above HB1.out hN2)
  clear hN2
  go_wp2
  go_end0
  exact ⟨rfl, HN2.out⟩

set_option maxRecDepth 8000 in
set_option maxHeartbeats 4000000 in
theorem value_w6 {v : PV} (h : WrQ w S p out) (hk : v.kind = 6) (hn0 : v.n = 0) (hs0 : v.s = []) (hv : IsV w (fun b => b < p) v (.slice a v.l.length cap)) (HX : ∀ (k : Nat) (x : PV), v.l[k]? = some x → ValW p x) (hl : out.length + (91 :: (rowF v.l ++ [93])).length ≤ 1000000) :
    Calls Tryd.prog 23 #[.pointer (some ⟨p, 0, none⟩), pvA v (.slice a v.l.length cap)] w fun e w' => e = .returned (.tuple #[]) ∧ WrNext w S p (out ++ 91 :: (rowF v.l ++ [93])) w' := by
  unfold pvA
  rw [hk, hn0, hs0, show mkB [] = ⟨#[]⟩ from rfl]
  have hb := belowA w (.cells #[.int .i64 6, .int .i64 0, .string ⟨#[]⟩, .slice a v.l.length cap] 24)
  have HB := Lib.hid hb
  have hl' : out.length + (rowF v.l).length + 2 ≤ 1000000 := by simp only [List.length_cons, List.length_append, List.length_nil] at hl; omega
  have HW := Lib.hid (writeByteW (h.keep hb) 91 91 rfl (by omega))
  have HK := Lib.hid (heapA_new (w := w) (b := w.heap.size) (.cells #[.int .i64 6, .int .i64 0, .string ⟨#[]⟩, .slice a v.l.length cap] 24) rfl)
  have HVB := Lib.hid (hv.below hb)
  have HQB := Lib.hid (h.keep hb)
  have HNS := Lib.hid (show ¬ S w.heap.size from fun hS => by have := (h.lt hS).2; omega)
  have HR := Lib.hid (fun (W : World) (S1 : Nat → Prop) (o : List UInt8) (hq : WrQ W S1 p o) (hvv : IsV W (fun b => b < p) v (.slice a v.l.length cap)) (ho : o.length + (rowF v.l).length ≤ 1000000) => rowW hq hvv HX ho)
  have HL := Lib.hid hl'
  clear h hb hv HX hl hk hn0 hs0 hl'
  generalize hrf : rowF v.l = rf at *
  generalize hvl : v.l.length = m at *
  clear hrf hvl
  go_enter Tryd.func23, Tryd.ntmps23
  go_upto_region 1 with fail
  obtain ⟨B, hB⟩ : ∃ B, B = w.heap.size := ⟨_, rfl⟩
  rw [← hB] at HK HNS ⊢
  clear hB
  generalize w.alloc _ = W1 at *
  obtain ⟨⟨c0, c1, c2, c3⟩, -⟩ := cells4 HK.out
  go_wp2_with fail
  refine HW.out.mono ?_
  rintro e w2 ⟨rfl, hN2⟩
  obtain ⟨S2, hq2, hk2, hs2⟩ := hN2
  have HK2 := Lib.hid ((hk2.block B (lt_of_heapS HK.out) HNS.out).trans HK.out)
  have HR2 := Lib.hid (HR.out w2 S2 _ hq2 (HVB.out.wr HQB.out hk2) (by have := HL.out; simp; omega))
  have HF2 := Lib.hid (⟨hk2, hs2⟩ : _ ∧ _)
  clear hq2 hk2 hs2 HR HW HK HVB HQB HNS c0 c1 c2 c3
  obtain ⟨⟨c0, c1, c2, c3⟩, -⟩ := cells4 HK2.out
  go_wp2_with fail
  refine HR2.out.mono ?_
  rintro e w3 ⟨rfl, hN3⟩
  obtain ⟨S3, hq3, hk3, hs3⟩ := hN3
  have HW3 := Lib.hid (writeByteW hq3 93 93 rfl (by have := HL.out; simp; omega))
  have HF3 := Lib.hid (⟨hk3, hs3⟩ : _ ∧ _)
  clear hq3 hk3 hs3 HR2 HK2 c0 c1 c2 c3
  go_wp2_with fail
  refine HW3.out.mono ?_
  rintro e w4 ⟨rfl, hN4⟩
  have HN4 := Lib.hid (show WrNext w S p (out ++ 91 :: (rf ++ [93])) w4 by
    have h5 := WrNext.above HB.out (WrNext.trans HF2.out.1 HF2.out.2 (WrNext.trans HF3.out.1 HF3.out.2 hN4))
    simpa using h5)
  clear hN4
  go_wp2
  go_end0
  exact ⟨rfl, HN4.out⟩
set_option maxRecDepth 8000 in
set_option maxHeartbeats 4000000 in
theorem value_w7 {v : PV} (h : WrQ w S p out) (hk : v.kind = 7) (hn0 : v.n = 0) (hs0 : v.s = []) (hv : IsV w (fun b => b < p) v (.slice a v.l.length cap)) (HX : ∀ (k : Nat) (x : PV), v.l[k]? = some x → ValW p x) (hl : out.length + (60 :: 60 :: (rowF v.l ++ [62, 62])).length ≤ 1000000) :
    Calls Tryd.prog 23 #[.pointer (some ⟨p, 0, none⟩), pvA v (.slice a v.l.length cap)] w fun e w' => e = .returned (.tuple #[]) ∧ WrNext w S p (out ++ 60 :: 60 :: (rowF v.l ++ [62, 62])) w' := by
  unfold pvA
  rw [hk, hn0, hs0, show mkB [] = ⟨#[]⟩ from rfl]
  have hb := belowA w (.cells #[.int .i64 7, .int .i64 0, .string ⟨#[]⟩, .slice a v.l.length cap] 24)
  have HB := Lib.hid hb
  have hl' : out.length + (rowF v.l).length + 4 ≤ 1000000 := by simp only [List.length_cons, List.length_append, List.length_nil] at hl; omega
  have HW := Lib.hid (writeStrW (h.keep hb) [60, 60] (by simp; omega))
  rw [show mkB [60, 60] = ⟨#[60, 60]⟩ from rfl] at HW
  have HK := Lib.hid (heapA_new (w := w) (b := w.heap.size) (.cells #[.int .i64 7, .int .i64 0, .string ⟨#[]⟩, .slice a v.l.length cap] 24) rfl)
  have HVB := Lib.hid (hv.below hb)
  have HQB := Lib.hid (h.keep hb)
  have HNS := Lib.hid (show ¬ S w.heap.size from fun hS => by have := (h.lt hS).2; omega)
  have HR := Lib.hid (fun (W : World) (S1 : Nat → Prop) (o : List UInt8) (hq : WrQ W S1 p o) (hvv : IsV W (fun b => b < p) v (.slice a v.l.length cap)) (ho : o.length + (rowF v.l).length ≤ 1000000) => rowW hq hvv HX ho)
  have HL := Lib.hid hl'
  clear h hb hv HX hl hk hn0 hs0 hl'
  generalize hrf : rowF v.l = rf at *
  generalize hvl : v.l.length = m at *
  clear hrf hvl
  go_enter Tryd.func23, Tryd.ntmps23
  go_upto_region 1 with fail
  obtain ⟨B, hB⟩ : ∃ B, B = w.heap.size := ⟨_, rfl⟩
  rw [← hB] at HK HNS ⊢
  clear hB
  generalize w.alloc _ = W1 at *
  obtain ⟨⟨c0, c1, c2, c3⟩, -⟩ := cells4 HK.out
  go_wp2_with fail
  refine HW.out.mono ?_
  rintro e w2 ⟨rfl, hN2⟩
  obtain ⟨S2, hq2, hk2, hs2⟩ := hN2
  have HK2 := Lib.hid ((hk2.block B (lt_of_heapS HK.out) HNS.out).trans HK.out)
  have HR2 := Lib.hid (HR.out w2 S2 _ hq2 (HVB.out.wr HQB.out hk2) (by have := HL.out; simp; omega))
  have HF2 := Lib.hid (⟨hk2, hs2⟩ : _ ∧ _)
  clear hq2 hk2 hs2 HR HW HK HVB HQB HNS c0 c1 c2 c3
  obtain ⟨⟨c0, c1, c2, c3⟩, -⟩ := cells4 HK2.out
  go_wp2_with fail
  refine HR2.out.mono ?_
  rintro e w3 ⟨rfl, hN3⟩
  obtain ⟨S3, hq3, hk3, hs3⟩ := hN3
  have HW3 := Lib.hid (writeStrW hq3 [62, 62] (by have := HL.out; simp; omega))
  rw [show mkB [62, 62] = ⟨#[62, 62]⟩ from rfl] at HW3
  have HF3 := Lib.hid (⟨hk3, hs3⟩ : _ ∧ _)
  clear hq3 hk3 hs3 HR2 HK2 c0 c1 c2 c3
  go_wp2_with fail
  refine HW3.out.mono ?_
  rintro e w4 ⟨rfl, hN4⟩
  have HN4 := Lib.hid (show WrNext w S p (out ++ 60 :: 60 :: (rf ++ [62, 62])) w4 by
    have h5 := WrNext.above HB.out (WrNext.trans HF2.out.1 HF2.out.2 (WrNext.trans HF3.out.1 HF3.out.2 hN4))
    simpa using h5)
  clear hN4
  go_wp2
  go_end0
  exact ⟨rfl, HN4.out⟩
set_option maxRecDepth 8000 in
set_option maxHeartbeats 4000000 in
theorem value_w1a (h : WrQ w S p out) (hl : out.length + 5 ≤ 1000000) :
    Calls Tryd.prog 23 #[.pointer (some ⟨p, 0, none⟩), .agg #[.int .i64 1, .int .i64 0, .string ⟨#[]⟩, .slice a 0 cap]] w fun e w' => e = .returned (.tuple #[]) ∧ WrNext w S p (out ++ [102, 97, 108, 115, 101]) w' := by
  have hb := belowA w (.cells #[.int .i64 1, .int .i64 0, .string ⟨#[]⟩, .slice a 0 cap] 24)
  have HB := Lib.hid hb
  have HK := Lib.hid (heapA_new (w := w) (b := w.heap.size) (.cells #[.int .i64 1, .int .i64 0, .string ⟨#[]⟩, .slice a 0 cap] 24) rfl)
  have HQ := Lib.hid (fun (W : World) (hW : Below w.heap.size w W) => writeStrW (h.keep hW) [102, 97, 108, 115, 101] (by simp; omega))
  rw [show mkB [102, 97, 108, 115, 101] = ⟨#[102, 97, 108, 115, 101]⟩ from rfl] at HQ
  have HNS := Lib.hid (show ¬ S w.heap.size from fun hS => by have := (h.lt hS).2; omega)
  clear h hb
  go_enter Tryd.func23, Tryd.ntmps23
  go_upto_region 1 with fail
  obtain ⟨B, hB⟩ : ∃ B, B = w.heap.size := ⟨_, rfl⟩
  rw [← hB] at HK HNS ⊢
  clear hB
  generalize w.alloc _ = W1 at *
  obtain ⟨⟨c0, c1, c2, c3⟩, -⟩ := cells4 HK.out
  have HA := Lib.hid (belowA W1 (.cells #[.string ⟨#[102, 97, 108, 115, 101]⟩, .string ⟨#[116, 114, 117, 101]⟩] 9))
  have HC := Lib.hid (cell?_keep HA.out c1)
  have HKA := Lib.hid (heapA_old (.cells #[.string ⟨#[102, 97, 108, 115, 101]⟩, .string ⟨#[116, 114, 117, 101]⟩] 9) HK.out)
  have HD := Lib.hid (show Below w.heap.size w (W1.alloc (.cells #[.string ⟨#[102, 97, 108, 115, 101]⟩, .string ⟨#[116, 114, 117, 101]⟩] 9)).drew from (HB.out.trans (HA.out.mono HB.out.size)).drew)
  have HF := Lib.hid (fun (w3 : World) (hN : WrNext (W1.alloc (.cells #[.string ⟨#[102, 97, 108, 115, 101]⟩, .string ⟨#[116, 114, 117, 101]⟩] 9)).drew S p (out ++ [102, 97, 108, 115, 101]) w3) => show WrNext w S p (out ++ [102, 97, 108, 115, 101]) w3 ∧ w3.cell? ⟨B, 1, none⟩ = some (.int .i64 0) by
    obtain ⟨S3, q3, k3, s3⟩ := hN
    refine ⟨WrNext.above HD.out ⟨S3, q3, k3, s3⟩, ?_⟩
    have h3 : w3.heap[B]? = _ := (k3.block B (by show B < (W1.alloc _).heap.size; exact lt_of_heapS HKA.out) HNS.out).trans HKA.out
    rw [cell_of_row w3 B 1 _ _ _ h3]; rfl)
  have hc5 := HC.out
  have hs5 : (W1.alloc (.cells #[.string ⟨#[102, 97, 108, 115, 101]⟩, .string ⟨#[116, 114, 117, 101]⟩] 9)).cell? ⟨W1.heap.size, 0, none⟩ = some (.string ⟨#[102, 97, 108, 115, 101]⟩) := by
    rw [cell_of_row _ _ 0 _ _ _ (heapA_new _ rfl)]; rfl
  go_wp2
  go_region_with ((go_at_call 37; (with_reducible refine (HQ.out _ HD.out).mono ?_); rintro e w3 ⟨rfl, hN3⟩; have HN3 := Lib.hid (HF.out _ hN3).1; clear hN3))
  all_goals
    go_wp2
    go_end0
    exact ⟨rfl, HN3.out⟩
set_option maxRecDepth 8000 in
set_option maxHeartbeats 4000000 in
theorem value_w1b (h : WrQ w S p out) (hl : out.length + 4 ≤ 1000000) :
    Calls Tryd.prog 23 #[.pointer (some ⟨p, 0, none⟩), .agg #[.int .i64 1, .int .i64 1, .string ⟨#[]⟩, .slice a 0 cap]] w fun e w' => e = .returned (.tuple #[]) ∧ WrNext w S p (out ++ [116, 114, 117, 101]) w' := by
  have hb := belowA w (.cells #[.int .i64 1, .int .i64 1, .string ⟨#[]⟩, .slice a 0 cap] 24)
  have HB := Lib.hid hb
  have HK := Lib.hid (heapA_new (w := w) (b := w.heap.size) (.cells #[.int .i64 1, .int .i64 1, .string ⟨#[]⟩, .slice a 0 cap] 24) rfl)
  have HQ := Lib.hid (fun (W : World) (hW : Below w.heap.size w W) => writeStrW (h.keep hW) [116, 114, 117, 101] (by simp; omega))
  rw [show mkB [116, 114, 117, 101] = ⟨#[116, 114, 117, 101]⟩ from rfl] at HQ
  have HNS := Lib.hid (show ¬ S w.heap.size from fun hS => by have := (h.lt hS).2; omega)
  clear h hb
  go_enter Tryd.func23, Tryd.ntmps23
  go_upto_region 1 with fail
  obtain ⟨B, hB⟩ : ∃ B, B = w.heap.size := ⟨_, rfl⟩
  rw [← hB] at HK HNS ⊢
  clear hB
  generalize w.alloc _ = W1 at *
  obtain ⟨⟨c0, c1, c2, c3⟩, -⟩ := cells4 HK.out
  have HA := Lib.hid (belowA W1 (.cells #[.string ⟨#[102, 97, 108, 115, 101]⟩, .string ⟨#[116, 114, 117, 101]⟩] 9))
  have HC := Lib.hid (cell?_keep HA.out c1)
  have HKA := Lib.hid (heapA_old (.cells #[.string ⟨#[102, 97, 108, 115, 101]⟩, .string ⟨#[116, 114, 117, 101]⟩] 9) HK.out)
  have HD := Lib.hid (show Below w.heap.size w (W1.alloc (.cells #[.string ⟨#[102, 97, 108, 115, 101]⟩, .string ⟨#[116, 114, 117, 101]⟩] 9)).drew from (HB.out.trans (HA.out.mono HB.out.size)).drew)
  have HF := Lib.hid (fun (w3 : World) (hN : WrNext (W1.alloc (.cells #[.string ⟨#[102, 97, 108, 115, 101]⟩, .string ⟨#[116, 114, 117, 101]⟩] 9)).drew S p (out ++ [116, 114, 117, 101]) w3) => show WrNext w S p (out ++ [116, 114, 117, 101]) w3 ∧ w3.cell? ⟨B, 1, none⟩ = some (.int .i64 1) by
    obtain ⟨S3, q3, k3, s3⟩ := hN
    refine ⟨WrNext.above HD.out ⟨S3, q3, k3, s3⟩, ?_⟩
    have h3 : w3.heap[B]? = _ := (k3.block B (by show B < (W1.alloc _).heap.size; exact lt_of_heapS HKA.out) HNS.out).trans HKA.out
    rw [cell_of_row w3 B 1 _ _ _ h3]; rfl)
  have hc5 := HC.out
  have hs5 : (W1.alloc (.cells #[.string ⟨#[102, 97, 108, 115, 101]⟩, .string ⟨#[116, 114, 117, 101]⟩] 9)).cell? ⟨W1.heap.size, 1, none⟩ = some (.string ⟨#[116, 114, 117, 101]⟩) := by
    rw [cell_of_row _ _ 1 _ _ _ (heapA_new _ rfl)]; rfl
  go_wp2
  go_region_with ((go_at_call 37; (with_reducible refine (HQ.out _ HD.out).mono ?_); rintro e w3 ⟨rfl, hN3⟩; have HN3 := Lib.hid (HF.out _ hN3).1; clear hN3))
  all_goals
    go_wp2
    go_end0
    exact ⟨rfl, HN3.out⟩
end
end Go.Proofs.YtnkodejgiabamaaDoor
/-
  Show walked: Value, Name, Text, Length, of anything.
-/
namespace Go.Proofs.YtnkodejgiabamaaDoor
open Go.RowKit

theorem valueW (p : Nat) : ∀ (N : Nat) (v : PV), SizeOf.sizeOf v ≤ N → firstC v = 0 → ValW p v := by
  intro N
  induction N with
  | zero => intro v h; obtain ⟨_, _, _, _⟩ := v; simp at h
  | succ N ih =>
  intro v hN hf sx W S o hv hq hl
  obtain ⟨a, cap, e1, -, -, -⟩ := hv.len
  subst e1
  have HX : (v.kind = 6 ∨ v.kind = 7) → ∀ (k : Nat) (x : PV), v.l[k]? = some x → ValW p x := fun hk k x hx => ih x (by have := sizeOf_mem hx; omega) (first_memS hf hk hx)
  have ho := own_casesS (firstC_ownS hf)
  rcases ho with ⟨h1, h2, h3, h4⟩ | ⟨h1, h2, h3, h4⟩ | ⟨h1, h2, h3, h4⟩ | ⟨h1, h2, h4⟩ | ⟨h1, -, h2, h4⟩ | ⟨h1, h2, h3⟩ | ⟨h1, h2, h3⟩ | ⟨h1, h2, h3, h4⟩
  · obtain ⟨k, n, s, l⟩ := v
    simp only [PV.kind, PV.n, PV.s, PV.l] at h1 h2 h3 h4
    subst h1 h2 h3 h4
    have e : formV (.mk 0 0 [] []) = [110, 117, 108, 108] := by simp [formV]
    rw [e] at hl ⊢
    exact value_w0 hq (by simpa using hl)
  · obtain ⟨k, n, s, l⟩ := v
    simp only [PV.kind, PV.n, PV.s, PV.l] at h1 h2 h3 h4
    subst h1 h3 h4
    rcases h2 with rfl | rfl
    · have e : formV (.mk 1 0 [] []) = [102, 97, 108, 115, 101] := by simp [formV]
      rw [e] at hl ⊢
      exact value_w1a hq (by simpa using hl)
    · have e : formV (.mk 1 1 [] []) = [116, 114, 117, 101] := by simp [formV]
      rw [e] at hl ⊢
      exact value_w1b hq (by simpa using hl)
  · obtain ⟨k, n, s, l⟩ := v
    simp only [PV.kind, PV.n, PV.s, PV.l] at h1 h2 h3 h4
    subst h3 h4
    have e : formV (.mk k n [] []) = (printV k n true).1 := by rcases h1 with rfl | rfl <;> simp [formV]
    rw [e] at hl ⊢
    exact value_wn hq k n h1 hl
  · obtain ⟨k, n, s, l⟩ := v
    simp only [PV.kind, PV.n, PV.l] at h1 h2 h4
    subst h1 h2 h4
    have e : formV (.mk 4 0 s []) = textF s := by simp [formV]
    rw [e] at hl ⊢
    exact value_w4 hq s hl
  · obtain ⟨k, n, s, l⟩ := v
    simp only [PV.kind, PV.n, PV.l] at h1 h2 h4
    subst h1 h2 h4
    have e : formV (.mk 5 0 s []) = 47 :: nameF s := by simp [formV]
    rw [e] at hl ⊢
    exact value_w5 hq s hl
  · have e : formV v = 91 :: (rowF v.l ++ [93]) := by
      obtain ⟨k, n, s, l⟩ := v
      simp only [PV.kind] at h1
      subst h1
      simp [formV, PV.l]
    rw [e] at hl ⊢
    exact value_w6 hq h1 h2 h3 hv (HX (.inl h1)) hl
  · have e : formV v = 60 :: 60 :: (rowF v.l ++ [62, 62]) := by
      obtain ⟨k, n, s, l⟩ := v
      simp only [PV.kind] at h1
      subst h1
      simp [formV, PV.l]
    rw [e] at hl ⊢
    exact value_w7 hq h1 h2 h3 hv (HX (.inr h1)) hl
  · obtain ⟨k, n, s, l⟩ := v
    simp only [PV.kind, PV.n, PV.s, PV.l] at h1 h2 h3 h4
    subst h1 h3 h4
    have e : formV (.mk 8 n [] []) = (printV 2 n true).1 ++ [32, 48, 32, 82] := by simp [formV]
    rw [e] at hl ⊢
    exact value_w8 hq n hl

theorem printNe {k : Int} (h1 : k = 2 ∨ k = 3) (n : Int) : (signL n ++ absL k n.natAbs, (0 : Int)).1 ≠ [] := by
  intro e
  have hl := congrArg List.length e
  have h2 := (decL_spec n.natAbs).2.2
  simp only [List.length_append, List.length_nil] at hl
  rcases h1 with rfl | rfl
  · simp only [absL, if_pos] at hl
    omega
  · simp [absL] at hl
/-- What Value tells of a value. -/
def showV (v : PV) : List UInt8 × Int := if checkC v ≠ 0 then ([], checkC v) else (formV v, 0)
theorem formV_ne {v : PV} (h : firstC v = 0) : formV v ≠ [] := by
  have ho := own_casesS (firstC_ownS h)
  obtain ⟨k, n, s, l⟩ := v
  simp only [PV.kind, PV.n, PV.s, PV.l] at ho
  rcases ho with ⟨h1, -⟩ | ⟨h1, h2, -⟩ | ⟨h1, h2, -⟩ | ⟨h1, -⟩ | ⟨h1, -⟩ | ⟨h1, -⟩ | ⟨h1, -⟩ | ⟨h1, h2, -⟩
  · subst h1; simp [formV]
  · subst h1; rcases h2 with rfl | rfl <;> simp [formV]
  · have e : formV (.mk k n s l) = (printV k n true).1 := by rcases h1 with rfl | rfl <;> simp [formV]
    rw [e, printV_ok h2]
    exact printNe h1 n
  · subst h1
    have := textF_ge s
    simp [formV]
    intro e
    rw [e] at this
    simp at this
  · subst h1; simp [formV]
  · subst h1; simp [formV]
  · subst h1; simp [formV]
  · subst h1; simp [formV]
theorem wr_new (w : World) {p : Nat} (hp : p = w.heap.size) : WrQ (w.alloc (.cells #[.pointer none, .slice none 0 0] 49)) (fun b => b = p) p [] :=
  ⟨.pointer none, .slice none 0 0, heapA_new _ hp, .inl rfl, World.ownsRow_nil _ _ _ _, fun b hb => (by cases hb), rfl, fun b hb => by rw [hb, sizeA, hp]; omega⟩
theorem keeps_bel {w w1 w2 : World} {S : Nat → Prop} {p : Nat} (hb : Below w.heap.size w w1) (hk : Keeps S w1 w2) (hS : ∀ b, S b → p ≤ b) (hp : w.heap.size ≤ p) : Below w.heap.size w w2 :=
  hb.trans ⟨hk.os, hk.tape, hk.output, hk.size, fun b hb2 => hk.block b (Nat.lt_of_lt_of_le hb2 hb.size) (fun h => by have := hS b h; omega)⟩

set_option maxRecDepth 8000 in
set_option maxHeartbeats 4000000 in
theorem showValue_any {v : PV} {sl : Value} {w : World} (hv : IsV w anyF v sl) (hd : depthV v ≤ 1000) (hl : (formV v).length ≤ 1000000) :
    Calls Tryd.prog 8 #[pvA v sl] w fun e w' => e = .returned (.tuple #[.string (mkB (showV v).1), .int .i64 (showV v).2]) ∧ Below w.heap.size w w' := by
  have HC := Lib.hid (fun (W : World) (h : Below w.heap.size w W) => vcheck_any (hv.below h) hd)
  have HVV := Lib.hid (IsV.ltS v hv)
  obtain ⟨R, hR⟩ : ∃ R, R = showV v := ⟨_, rfl⟩
  rw [← hR]
  unfold showV at hR
  have HR := Lib.hid hR
  have HW := Lib.hid (fun (p : Nat) (hc : checkC v = 0) => valueW p _ v (Nat.le_refl _) (by unfold checkC at hc; split at hc; cases hc; exact hc))
  have HNE := Lib.hid (fun (hc : checkC v = 0) => formV_ne (v := v) (by unfold checkC at hc; split at hc; cases hc; exact hc))
  obtain ⟨a1, cap1, rfl, -, -, -⟩ := hv.len
  unfold pvA at HC ⊢
  unfold ValW pvA at HW
  clear hv hR
  generalize checkC v = cc at *
  generalize formV v = fv at *
  generalize v.kind = k0 at *
  generalize v.n = n0 at *
  generalize mkB v.s = s0 at *
  generalize v.l.length = m at *
  go_enter Tryd.func8, Tryd.ntmps8
  obtain ⟨B, hB⟩ : ∃ B, B = w.heap.size := ⟨_, rfl⟩
  have HX1 := Lib.hid (heapA_new (w := w) (b := B) (.cells #[.int .i64 k0, .int .i64 n0, .string s0, .slice a1 m cap1] 24) hB)
  have HW1 := Lib.hid (belowA w (.cells #[.int .i64 k0, .int .i64 n0, .string s0, .slice a1 m cap1] 24))
  go_upto_region 1 with fail
  rw [← hB]
  clear hB
  generalize w.alloc _ = W1 at *
  obtain ⟨⟨c0, c1, c2, c3⟩, -⟩ := cells4 HX1.out
  go_wp2_with fail
  refine (HC.out _ HW1.out).mono ?_
  rintro e w2 ⟨rfl, hb2⟩
  have HX2 := Lib.hid (block_keep hb2 HX1.out)
  have HW2 := Lib.hid (HW1.out.trans (hb2.mono HW1.out.size))
  clear hb2 c0 c1 c2 c3 HX1 HW1 HC
  have hR := HR.out
  by_cases hc : cc = 0
  case neg =>
    have e0 : (cc == 0) = false := by rw [beq_eq_false_iff_ne]; exact hc
    have e1 : (cc != 0) = true := by simp only [bne, e0, Bool.not_false]
    rw [if_pos hc] at hR
    subst hR
    clear HR HW HNE HVV hc
    go_wp2
    go_ret2
    exact ⟨rfl, HW2.out⟩
  rw [if_neg (by simpa using hc)] at hR
  subst hR
  have HWV := Lib.hid (fun p => HW.out p hc)
  have HNN := Lib.hid (HNE.out hc)
  subst hc
  clear HR HW HNE
  have HP3 := Lib.hid (wr_new w2 (p := w2.heap.size) rfl)
  have hb3 := belowA w2 (.cells #[.pointer none, .slice none 0 0] 49)
  have HX3 := Lib.hid (block_keep hb3 HX2.out)
  have HW3 := Lib.hid (HW2.out.trans (hb3.mono HW2.out.size))
  have HPB := Lib.hid (show B < w2.heap.size from lt_of_heapS HX2.out)
  have HPW := Lib.hid HW2.out.size
  clear hb3 HX2
  go_upto_region 5 with fail
  obtain ⟨p, hp⟩ : ∃ p, p = w2.heap.size := ⟨_, rfl⟩
  rw [← hp] at HP3 HPB HPW ⊢
  clear hp
  generalize w2.alloc _ = W3 at *
  have HV3 := Lib.hid (IsV.keep (G := fun b => b < p) (Stays.of_below HW3.out) (fun b hb => by have := hb.2; have := HPW.out; omega) _ HVV.out)
  have HCALL := Lib.hid (HWV.out p _ W3 _ [] HV3.out HP3.out (by simpa using hl))
  rw [List.nil_append] at HCALL
  obtain ⟨⟨c0, c1, c2, c3⟩, -⟩ := cells4 HX3.out
  clear HVV HV3 HWV
  go_wp2_with fail
  refine HCALL.out.mono ?_
  rintro e w4 ⟨rfl, hN4⟩
  obtain ⟨S4, q4, k4, s4⟩ := hN4
  have HW4 := Lib.hid (keeps_bel HW3.out k4 (p := p) (fun b hb => by rw [hb]; exact Nat.le_refl _) HPW.out)
  have HSTR := Lib.hid (stringW q4 HNN.out)
  have HS4 := Lib.hid (fun b hb => (q4.lt (b := b) hb).1)
  clear q4 k4 s4 HCALL c0 c1 c2 c3
  go_wp2_with fail
  refine HSTR.out.mono ?_
  rintro e w5 ⟨rfl, k5⟩
  have HW5 := Lib.hid (keeps_bel HW4.out k5 HS4.out HPW.out)
  clear k5
  go_wp2
  go_ret2
  exact ⟨rfl, HW5.out⟩
end Go.Proofs.YtnkodejgiabamaaDoor
/-
  Show walked: Name, Text, Length.
-/
namespace Go.Proofs.YtnkodejgiabamaaDoor
open Go.RowKit

theorem nameOf_any (s : ByteArray) (w : World) : Calls Tryd.prog 19 #[.string s] w fun e w' => e = .returned (.agg #[.int .i64 5, .int .i64 0, .string s, .slice none 0 0]) ∧ Below w.heap.size w w' := by
  go_enter Tryd.func19, Tryd.ntmps19
  go_wp2
  refine bodyPost_ret (results_cell_row rfl _ _ w.heap.size 24 _ (0, 0) _ rfl (heapA_new _ rfl) Tryd.underlying24 rfl (by kernel_rfl)) rfl ?_
  exact ⟨rfl, belowA _ _⟩
theorem refTo_any (n : Int) (w : World) : Calls Tryd.prog 21 #[.int .i64 n] w fun e w' => e = .returned (.agg #[.int .i64 8, .int .i64 n, .string ⟨#[]⟩, .slice none 0 0]) ∧ Below w.heap.size w w' := by
  go_enter Tryd.func21, Tryd.ntmps21
  go_wp2
  refine bodyPost_ret (results_cell_row rfl _ _ w.heap.size 24 _ (0, 0) _ rfl (heapA_new _ rfl) Tryd.underlying24 rfl (by kernel_rfl)) rfl ?_
  exact ⟨rfl, belowA _ _⟩

set_option maxRecDepth 8000 in
set_option maxHeartbeats 4000000 in
theorem showName_any (s : List UInt8) (w : World) (hl : s.length ≤ 100000) :
    Calls Tryd.prog 12 #[.string (mkB s)] w fun e w' => e = .returned (.tuple #[.string (mkB (showV (.mk 5 0 s [])).1), .int .i64 (showV (.mk 5 0 s [])).2]) ∧ Below w.heap.size w w' := by
  have HN := Lib.hid (fun W => nameOf_any (mkB s) W)
  have hfl : (formV (.mk 5 0 s [])).length ≤ 1000000 := by
    have e : formV (.mk 5 0 s []) = 47 :: nameF s := by simp [formV]
    have := nameF_len s
    rw [e]; simp; omega
  have HV := Lib.hid (fun (W : World) => showValue_any (v := .mk 5 0 s []) (sl := .slice none 0 0) (w := W) (IsV.leaf W anyF _ rfl) (by rw [depthV_is]; simp [PV.kind]) hfl)
  simp only [pvA, PV.kind, PV.n, PV.s] at HV
  generalize showV (.mk 5 0 s []) = R at *
  generalize mkB s = sb at *
  clear hfl
  go_enter Tryd.func12, Tryd.ntmps12
  go_wp2_with (first | (go_at_call 19; refine (HN.out _).mono ?_; rintro e w1 ⟨rfl, hb1⟩; have HB1 := Lib.hid hb1; clear hb1) | (go_at_call 8; refine (HV.out _).mono ?_; rintro e w2 ⟨rfl, hb2⟩))
  go_ret2
  exact ⟨rfl, HB1.out.trans (hb2.mono HB1.out.size)⟩

set_option maxRecDepth 8000 in
set_option maxHeartbeats 4000000 in
theorem showLen_any {v : PV} {sl : Value} {w : World} (hv : IsV w anyF v sl) (hd : depthV v ≤ 1000) (hl : (formV v).length ≤ 1000000) :
    Calls Tryd.prog 10 #[pvA v sl] w fun e w' => e = .returned (.int .i64 (showV v).1.length) ∧ Below w.heap.size w w' := by
  have HV := Lib.hid (fun (W : World) (h : Below w.heap.size w W) => showValue_any (hv.below h) hd hl)
  obtain ⟨a1, cap1, rfl, -, -, -⟩ := hv.len
  unfold pvA at HV ⊢
  have hsz : ((mkB (showV v).1).size : Int) = (showV v).1.length := by rw [mkB_size]
  clear hv
  obtain ⟨m2, hm2⟩ : ∃ m2, m2 = (showV v).1.length := ⟨_, rfl⟩
  rw [← hm2] at hsz ⊢
  have HS := Lib.hid hsz
  clear hm2 hsz
  generalize showV v = R at *
  obtain ⟨t, er⟩ := R
  simp only at HV HS
  generalize mkB t = sb at *
  generalize v.kind = k0 at *
  generalize v.n = n0 at *
  generalize mkB v.s = s0 at *
  generalize v.l.length = m at *
  go_enter Tryd.func10, Tryd.ntmps10
  obtain ⟨B, hB⟩ : ∃ B, B = w.heap.size := ⟨_, rfl⟩
  have HX1 := Lib.hid (heapA_new (w := w) (b := B) (.cells #[.int .i64 k0, .int .i64 n0, .string s0, .slice a1 m cap1] 24) hB)
  have HW1 := Lib.hid (belowA w (.cells #[.int .i64 k0, .int .i64 n0, .string s0, .slice a1 m cap1] 24))
  go_upto_region 1 with fail
  rw [← hB]
  clear hB
  generalize w.alloc _ = W1 at *
  obtain ⟨⟨c0, c1, c2, c3⟩, -⟩ := cells4 HX1.out
  go_wp2_with (go_at_call 8; refine (HV.out _ HW1.out).mono ?_; rintro e w2 ⟨rfl, hb2⟩)
  go_ret
  exact ⟨ret_int HS.out, HW1.out.trans (hb2.mono HW1.out.size)⟩

set_option maxRecDepth 8000 in
set_option maxHeartbeats 4000000 in
theorem showText_any (s : List UInt8) (w : World) (hl : s.length ≤ 100000) :
    Calls Tryd.prog 14 #[.string (mkB s)] w fun e w' => e = .returned (.string (mkB (textF s))) ∧ Below w.heap.size w w' := by
  have HT := Lib.hid (textW (wr_new w (p := w.heap.size) rfl) s (by simp; omega))
  rw [List.nil_append] at HT
  have hne : textF s ≠ [] := fun e => by have := textF_ge s; rw [e] at this; simp at this
  have HNN := Lib.hid hne
  have HW1 := Lib.hid (belowA w (.cells #[.pointer none, .slice none 0 0] 49))
  clear hne
  generalize textF s = t at *
  generalize mkB s = sb at *
  go_enter Tryd.func14, Tryd.ntmps14
  obtain ⟨p, hp⟩ : ∃ p, p = w.heap.size := ⟨_, rfl⟩
  have HPW := Lib.hid (Nat.le_of_eq hp.symm)
  rw [← hp] at HT
  go_upto_region 2 with fail
  rw [← hp]
  clear hp
  generalize w.alloc _ = W1 at *
  go_wp2_with fail
  refine HT.out.mono ?_
  rintro e w2 ⟨rfl, hN⟩
  obtain ⟨S4, q4, k4, s4⟩ := hN
  have HW4 := Lib.hid (keeps_bel HW1.out k4 (p := p) (fun b hb => by rw [hb]; exact Nat.le_refl _) HPW.out)
  have HSTR := Lib.hid (stringW q4 HNN.out)
  have HS4 := Lib.hid (fun b hb => (q4.lt (b := b) hb).1)
  clear q4 k4 s4 HT
  go_wp2_with fail
  refine HSTR.out.mono ?_
  rintro e w5 ⟨rfl, k5⟩
  have HW5 := Lib.hid (keeps_bel HW4.out k5 HS4.out HPW.out)
  clear k5
  go_wp2
  go_ret
  exact ⟨rfl, HW5.out⟩
end Go.Proofs.YtnkodejgiabamaaDoor
/-
  Layer 13's document: names and texts. (Printed by genrname.py.)
-/
namespace Go.Proofs.YtnkodejgiabamaaDoor
open Go.RowKit

theorem ext_one {s : List UInt8} {k : Nat} {c : UInt8} (h : s[k]? = some c) : (mkB s).extract k (k + 1) = mkB [c] := by
  apply ByteArray.ext
  rw [ByteArray.data_extract]
  apply Array.ext'
  rw [Array.toList_extract]
  show ((s.drop k).take (k + 1 - k)) = [c]
  rw [show k + 1 - k = 1 by omega]
  have hk := (List.getElem?_eq_some_iff.1 h)
  obtain ⟨hl, he⟩ := hk
  rw [List.drop_eq_getElem_cons hl, he]
  rfl
theorem showV_name (s : List UInt8) : showV (.mk 5 0 s []) = if nameC s = true then (47 :: nameF s, 0) else ([], 17) := by
  have e : formV (.mk 5 0 s []) = 47 :: nameF s := by simp [formV]
  have ho : ownC (.mk 5 0 s []) = if 127 < s.length ∨ (0 : UInt8) ∈ s then 17 else 0 := by simp [ownC]
  have hf : firstC (.mk 5 0 s []) = if 127 < s.length ∨ (0 : UInt8) ∈ s then 17 else 0 := by
    rw [firstC_is, ho]
    by_cases h : 127 < s.length ∨ (0 : UInt8) ∈ s
    · rw [if_pos h, if_pos (by decide)]
    · rw [if_neg h, if_neg (by decide)]; simp [PV.kind]
  have hc : checkC (.mk 5 0 s []) = if 127 < s.length ∨ (0 : UInt8) ∈ s then 17 else 0 := by
    unfold checkC
    rw [depthV_is, if_neg (by simp [PV.kind]), hf]
    all_goals (try rfl)
  unfold showV
  rw [hc, e]
  unfold nameC
  by_cases h : 127 < s.length ∨ (0 : UInt8) ∈ s
  · rw [if_pos h, if_pos (by decide), if_neg (by rcases h with h | h <;> simp [h])]
  · rw [if_neg h, if_neg (by decide), if_pos (by rw [not_or] at h; rw [decide_eq_false h.1, decide_eq_false h.2]; rfl)]

set_option maxRecDepth 8000 in
set_option maxHeartbeats 4000000 in
theorem rname13 (s : List UInt8) (w : World) (hl : s.length ≤ 100000) :
    Calls Tryd.prog 13 #[.string (mkB s)] w fun e w' => e = .returned (.tuple #[.string (mkB (showV (.mk 5 0 s [])).1), .int .i64 (showV (.mk 5 0 s [])).2]) ∧ Below w.heap.size w w' := by
  rw [showV_name]
  have HT := Lib.hid (fun W => rtext11 s W (by omega))
  have hsz : (mkB s).size = s.length := mkB_size s
  have hszi : ((mkB s).size : Int) = s.length := by rw [hsz]
  by_cases hb : nameC s = true
  case neg =>
    have hb' : nameC s = false := by simpa using hb
    rw [hb'] at HT ⊢
    clear hb hb'
    go_enter Tryd.func13, Tryd.ntmps13
    go_wp2_with (go_at_call 28; refine (HT.out _).mono ?_; rintro e w' ⟨rfl, rfl⟩)
    go_ret2
    exact ⟨rfl, Below.refl _ _⟩
  rw [hb] at HT ⊢
  rw [if_pos rfl]
  have hm : (s.length : Int) ≤ 100000 := by omega
  obtain ⟨R, hR⟩ : ∃ R, R = mkB (47 :: nameF s) := ⟨_, rfl⟩
  have HR := Lib.hid hR
  simp only
  rw [← hR]
  clear hb hR
  go_enter Tryd.func13, Tryd.ntmps13
  go_wp2_with (go_at_call 28; refine (HT.out _).mono ?_; rintro e w' ⟨rfl, rfl⟩)
  go_loopw [4, 5] (fun vo vk wr => ∃ (k : Nat) (O : ByteArray), vk = .int .i64 k ∧ vo = .string O ∧ k ≤ s.length ∧ O.size ≤ 1000000 ∧ Hid (O = mkB (47 :: nameF (s.take k))) ∧ Hid (Below w.heap.size w wr)) (fun _ vk _ => s.length - (intOf vk).toNat)
  case atStart => exact ⟨0, _, rfl, rfl, Nat.zero_le _, by decide, Lib.hid rfl, Below.refl _ _⟩
  case round =>
    obtain ⟨k, O, rfl, rfl, hk, hO, HO, HB⟩ := hrel
    by_cases q1 : k < s.length
    case neg =>
      have hd1 : decide (k < s.length) = false := decide_eq_false q1
      have hd2 : decide ((k : Int) < (s.length : Int)) = false := decide_eq_false (by omega)
      have hq2 : ¬ (k : Int) < (s.length : Int) := by omega
      obtain rfl : R = O := by rw [HR.out, HO.out, List.take_of_length_le (by omega)]
      clear HR HO
      go_wp2
      go_ret2
      exact ⟨rfl, HB.out⟩
    have hd1 : decide (k < s.length) = true := decide_eq_true q1
    have hd2 : decide ((k : Int) < (s.length : Int)) = true := decide_eq_true (by omega)
    have hk0 : (0 : Int) ≤ (k : Int) := by omega
    have hk1 : (k : Int) < (s.length : Int) := by omega
    have hk2 : k < (mkB s).size := by omega
    have hk3 : (k : Int) + 1 ≤ (s.length : Int) := by omega
    have hk4 : k + 1 ≤ (mkB s).size := by omega
    have hkw : IntKind.i64.wrap ((k : Int) + 1) = (k : Int) + 1 := IntWalk.i64_in _ (by omega)
    obtain ⟨c, hc⟩ : ∃ c, c = s[k]'q1 := ⟨_, rfl⟩
    have hcs : s[k]? = some c := by rw [hc]; exact List.getElem?_eq_getElem q1
    obtain ⟨n, hn⟩ : ∃ n, n = c.toNat := ⟨_, rfl⟩
    have hat : ((mkB s)[k]'hk2).toNat = n := by rw [hn, hc]; exact at_mkB q1 hk2
    have hext := ext_one hcs
    have HH := Lib.hid (fun W => rhex13 c W)
    rw [← hn] at HH
    have HD := Lib.hid (fun W => rdelim_any (n : Int) W)
    have hT := nameF_take hcs
    have hch : chF c = if n < 33 ∨ 126 < n ∨ n = 35 ∨ dlI (n : Int) = true then 35 :: hexB c else [c] := by
      unfold chF; rw [hn, dlI_eq]; simp only [eq35]
    have hbd : ∀ t : List UInt8, (mkB (47 :: nameF (s.take t.length))).size ≤ 1000000 ∨ 100000 < t.length := fun t => by
      by_cases h : 100000 < t.length
      · exact .inr h
      · left
        have h1 := nameF_len (s.take t.length)
        rw [List.length_take] at h1
        rw [mkB_size]
        simp
        omega
    have hbn : (mkB (47 :: nameF (s.take (k + 1)))).size ≤ 1000000 := by
      have h1 := nameF_len (s.take (k + 1))
      rw [List.length_take] at h1
      rw [mkB_size]
      simp
      omega
    have HBN := Lib.hid hbn
    have HC1 := Lib.hid (show chF c = [c] → O ++ mkB [c] = mkB (47 :: nameF (s.take (k + 1))) from fun h => by rw [hT, h, HO.out, mkB_app]; rfl)
    have HC2 := Lib.hid (show chF c = 35 :: hexB c → O ++ ⟨#[35]⟩ ++ mkB (hexB c) = mkB (47 :: nameF (s.take (k + 1))) from fun h => by
      rw [hT, h, HO.out, show (⟨#[35]⟩ : ByteArray) = mkB [35] from rfl, mkB_app, mkB_app]
      simp)
    have hos : O.size + 1 ≤ 9223372036854775807 := by omega
    have HCH := Lib.hid hch
    have HN := Lib.hid hn
    have hhs : (mkB (hexB c)).size = 2 := by rw [mkB_size]; rfl
    have hcz : (mkB [c]).size = 1 := rfl
    clear hT hch hbd hbn hcs hc hn HO
    generalize mkB (hexB c) = HX at *
    generalize mkB [c] = CX at *
    generalize dlI (n : Int) = d at *
    by_cases h1 : n < 33
    · have b1 : decide (32 < n) = false := decide_eq_false (by omega)
      have b1' : decide ((32 : Int) < (n : Int)) = false := decide_eq_false (by omega)
      have HC2 := Lib.hid (HC2.out (by rw [HCH.out, if_pos (.inl h1)]))
      clear HCH h1 HC1
      go_wp2_with (first | (go_at_call 30; refine (HH.out _).mono ?_; rintro e w' ⟨rfl, q, rfl⟩))
      go_roundw
      case rel => exact ⟨k + 1, _, by go_num, rfl, by omega, by rw [HC2.out]; exact HBN.out, HC2, Lib.hid (below_drewN HB.out _)⟩
      case measure => simp [intOf]; omega
    have b1 : decide (32 < n) = true := decide_eq_true (by omega)
    have b1' : decide ((32 : Int) < (n : Int)) = true := decide_eq_true (by omega)
    by_cases h2 : 126 < n
    · have b2 : decide (n < 127) = false := decide_eq_false (by omega)
      have b2' : decide ((n : Int) < 127) = false := decide_eq_false (by omega)
      have HC2 := Lib.hid (HC2.out (by rw [HCH.out, if_pos (.inr (.inl h2))]))
      clear HCH h1 h2 HC1
      go_wp2_with (first | (go_at_call 30; refine (HH.out _).mono ?_; rintro e w' ⟨rfl, q, rfl⟩))
      go_roundw
      case rel => exact ⟨k + 1, _, by go_num, rfl, by omega, by rw [HC2.out]; exact HBN.out, HC2, Lib.hid (below_drewN HB.out _)⟩
      case measure => simp [intOf]; omega
    have b2 : decide (n < 127) = true := decide_eq_true (by omega)
    have b2' : decide ((n : Int) < 127) = true := decide_eq_true (by omega)
    by_cases h3 : n = 35
    · have b3 : ((n : Int) == 35) = true := by rw [h3]; rfl
      have b3' : ((n : Int) != 35) = false := by simp only [bne, b3, Bool.not_true]
      have b3n : (n == 35) = true := by rw [h3]; rfl
      have HC2 := Lib.hid (HC2.out (by rw [HCH.out, if_pos (.inr (.inr (.inl h3)))]))
      have H3 := Lib.hid h3
      clear HCH h1 h2 h3 HC1
      go_wp2_with (first | (go_at_call 30; refine (HH.out _).mono ?_; rintro e w' ⟨rfl, q, rfl⟩))
      go_roundw
      case rel => exact ⟨k + 1, _, by go_num, rfl, by omega, by rw [HC2.out]; exact HBN.out, HC2, Lib.hid (below_drewN HB.out _)⟩
      case measure => simp [intOf]; omega
    have b3 : ((n : Int) == 35) = false := by rw [beq_eq_false_iff_ne]; omega
    have b3' : ((n : Int) != 35) = true := by simp only [bne, b3, Bool.not_false]
    have b3n : (n == 35) = false := by rw [beq_eq_false_iff_ne]; exact h3
    cases d with
    | true =>
      have HC2 := Lib.hid (HC2.out (by rw [HCH.out, if_pos (.inr (.inr (.inr rfl)))]))
      clear HCH h1 h2 h3 HC1
      go_wp2_with (first | (go_at_call 30; refine (HH.out _).mono ?_; rintro e w' ⟨rfl, q, rfl⟩) | (go_at_call 29; refine (HD.out _).mono ?_; rintro e w' ⟨rfl, rfl⟩))
      go_roundw
      case rel => exact ⟨k + 1, _, by go_num, rfl, by omega, by rw [HC2.out]; exact HBN.out, HC2, Lib.hid (below_drewN HB.out _)⟩
      case measure => simp [intOf]; omega
    | false =>
      have HC1 := Lib.hid (HC1.out (by rw [HCH.out, if_neg (by rintro (h | h | h | h); exact h1 h; exact h2 h; exact h3 h; cases h)]))
      clear HCH h1 h2 h3 HC2
      go_wp2_with (go_at_call 29; refine (HD.out _).mono ?_; rintro e w' ⟨rfl, rfl⟩)
      go_roundw
      case rel => exact ⟨k + 1, _, by go_num, rfl, by omega, by rw [HC1.out]; exact HBN.out, HC1, HB⟩
      case measure => simp [intOf]; omega
end Go.Proofs.YtnkodejgiabamaaDoor
/-
  Layer 13's document: texts. (Printed by genrname.py.)
-/
namespace Go.Proofs.YtnkodejgiabamaaDoor
open Go.RowKit

set_option maxRecDepth 8000 in
set_option maxHeartbeats 8000000 in
theorem rtext13 (s : List UInt8) (w : World) (hl : s.length ≤ 100000) :
    Calls Tryd.prog 15 #[.string (mkB s)] w fun e w' => e = .returned (.string (mkB (textF s))) ∧ Below w.heap.size w w' := by
  have hsz : (mkB s).size = s.length := mkB_size s
  have hszi : ((mkB s).size : Int) = s.length := by rw [hsz]
  have hm : (s.length : Int) ≤ 100000 := by omega
  obtain ⟨R, hR⟩ : ∃ R, R = mkB (textF s) := ⟨_, rfl⟩
  have HR := Lib.hid hR
  rw [← hR]
  clear hR
  go_enter Tryd.func15, Tryd.ntmps15
  go_wp2
  go_loopw [3, 4, 5, 6] (fun va vb vf vk wr => ∃ (k : Nat) (A B : ByteArray) (f : Bool), vk = .int .i64 k ∧ va = .string A ∧ vb = .string B ∧ vf = .bool f ∧ k ≤ s.length ∧ A.size ≤ 1000000 ∧ B.size ≤ 1000000 ∧ Hid (A = mkB (40 :: bareF (s.take k))) ∧ Hid (B = mkB (60 :: hexF (s.take k))) ∧ Hid (f = readF (s.take k)) ∧ Hid (Below w.heap.size w wr)) (fun _ _ _ vk _ => s.length - (intOf vk).toNat)
  case atStart => exact ⟨0, _, _, true, rfl, rfl, rfl, rfl, Nat.zero_le _, by decide, by decide, Lib.hid rfl, Lib.hid rfl, Lib.hid rfl, Below.refl _ _⟩
  case round =>
    obtain ⟨k, A, B, f, rfl, rfl, rfl, rfl, hk, hA, hB, HA, HBB, HF, HB⟩ := hrel
    by_cases q1 : k < s.length
    case neg =>
      have hd1 : decide (k < s.length) = false := decide_eq_false q1
      have hd2 : decide ((k : Int) < (s.length : Int)) = false := decide_eq_false (by omega)
      have hq2 : ¬ (k : Int) < (s.length : Int) := by omega
      have hf := HF.out
      have htk : s.take k = s := List.take_of_length_le (by omega)
      rw [htk] at hf
      cases f with
      | true =>
        have HX := Lib.hid (show A ++ ⟨#[41]⟩ = R by
          rw [HR.out, HA.out, htk]
          unfold textF
          rw [if_pos hf.symm, show (⟨#[41]⟩ : ByteArray) = mkB [41] from rfl, mkB_app]; rfl)
        clear HR HA HBB HF hf htk
        go_wp2
        go_ret
        exact ⟨by rw [← HX.out]; rfl, HB.out⟩
      | false =>
        have HX := Lib.hid (show B ++ ⟨#[62]⟩ = R by
          rw [HR.out, HBB.out, htk]
          unfold textF
          rw [if_neg (by rw [← hf]; decide), show (⟨#[62]⟩ : ByteArray) = mkB [62] from rfl, mkB_app]; rfl)
        clear HR HA HBB HF hf htk
        go_wp2
        go_ret
        exact ⟨by rw [← HX.out]; rfl, HB.out⟩
    have hd1 : decide (k < s.length) = true := decide_eq_true q1
    have hd2 : decide ((k : Int) < (s.length : Int)) = true := decide_eq_true (by omega)
    have hk0 : (0 : Int) ≤ (k : Int) := by omega
    have hk1 : (k : Int) < (s.length : Int) := by omega
    have hk2 : k < (mkB s).size := by omega
    have hk3 : (k : Int) + 1 ≤ (s.length : Int) := by omega
    have hk4 : k + 1 ≤ (mkB s).size := by omega
    have hkw : IntKind.i64.wrap ((k : Int) + 1) = (k : Int) + 1 := IntWalk.i64_in _ (by omega)
    obtain ⟨c, hc⟩ : ∃ c, c = s[k]'q1 := ⟨_, rfl⟩
    have hcs : s[k]? = some c := by rw [hc]; exact List.getElem?_eq_getElem q1
    obtain ⟨n, hn⟩ : ∃ n, n = c.toNat := ⟨_, rfl⟩
    have hat : ((mkB s)[k]'hk2).toNat = n := by rw [hn, hc]; exact at_mkB q1 hk2
    have hext := ext_one hcs
    have HH := Lib.hid (fun W => rhex13 c W)
    rw [← hn] at HH
    have hT := bareF_take hcs
    have hT2 := hexF_take hcs
    have hT3 := readF_take hcs
    have hbr : brF c = if n = 40 ∨ n = 41 ∨ n = 92 then [92, c] else [c] := by unfold brF; rw [hn]; simp only [eqn 40, eqn 41, eqn 92]; rfl
    have hbn : (mkB (40 :: bareF (s.take (k + 1)))).size ≤ 1000000 := by
      have h1 := bareF_len (s.take (k + 1))
      rw [List.length_take] at h1
      rw [mkB_size]
      simp
      omega
    have hbn2 : (mkB (60 :: hexF (s.take (k + 1)))).size ≤ 1000000 := by
      have h1 := hexF_len (s.take (k + 1))
      rw [List.length_take] at h1
      rw [mkB_size]
      simp
      omega
    have HBN := Lib.hid hbn
    have HBN2 := Lib.hid hbn2
    have HC1 := Lib.hid (show brF c = [c] → A ++ mkB [c] = mkB (40 :: bareF (s.take (k + 1))) from fun h => by rw [hT, h, HA.out, mkB_app]; rfl)
    have HC2 := Lib.hid (show brF c = [92, c] → A ++ ⟨#[92]⟩ ++ mkB [c] = mkB (40 :: bareF (s.take (k + 1))) from fun h => by
      rw [hT, h, HA.out, show (⟨#[92]⟩ : ByteArray) = mkB [92] from rfl, mkB_app, mkB_app]
      simp)
    have HC3 := Lib.hid (show B ++ mkB (hexB c) = mkB (60 :: hexF (s.take (k + 1))) by rw [hT2, HBB.out, mkB_app]; rfl)
    have HF2 := Lib.hid (show readF (s.take (k + 1)) = (f && (decide (32 ≤ n) && decide (n ≤ 126))) by rw [hT3, ← HF.out, ← hn])
    have hos : A.size + 2 ≤ 9223372036854775807 := by omega
    have HBR := Lib.hid hbr
    have hhs : (mkB (hexB c)).size = 2 := by rw [mkB_size]; rfl
    have hcz : (mkB [c]).size = 1 := rfl
    clear hT hT2 hT3 hbr hbn hbn2 hcs hc hn HA HBB HF
    generalize mkB (hexB c) = HX at *
    generalize mkB [c] = CX at *
    by_cases h1 : n = 40
    · subst h1
      have HCC := Lib.hid (HC2.out (by rw [HBR.out, if_pos (.inl rfl)]))
      have HFF := Lib.hid (show f = readF (s.take (k + 1)) by rw [HF2.out]; cases f <;> rfl)
      clear HBR HC1 HC2 HF2
      cases f
      all_goals
        go_wp2_with (go_at_call 30; refine (HH.out _).mono ?_; rintro e w' ⟨rfl, q, rfl⟩)
        go_roundw
        case rel => exact ⟨k + 1, _, _, _, by go_num, rfl, rfl, rfl, by omega, by rw [HCC.out]; exact HBN.out, by rw [HC3.out]; exact HBN2.out, HCC, HC3, HFF, Lib.hid (below_drewN HB.out _)⟩
        case measure => simp [intOf]; omega
    have b40 : ((n : Int) == 40) = false := by rw [beq_eq_false_iff_ne]; omega
    have b40n : (n == 40) = false := by rw [beq_eq_false_iff_ne]; exact h1
    
    by_cases h2 : n = 41
    · subst h2
      have HCC := Lib.hid (HC2.out (by rw [HBR.out, if_pos (.inr (.inl rfl))]))
      have HFF := Lib.hid (show f = readF (s.take (k + 1)) by rw [HF2.out]; cases f <;> rfl)
      clear HBR HC1 HC2 HF2
      cases f
      all_goals
        go_wp2_with (go_at_call 30; refine (HH.out _).mono ?_; rintro e w' ⟨rfl, q, rfl⟩)
        go_roundw
        case rel => exact ⟨k + 1, _, _, _, by go_num, rfl, rfl, rfl, by omega, by rw [HCC.out]; exact HBN.out, by rw [HC3.out]; exact HBN2.out, HCC, HC3, HFF, Lib.hid (below_drewN HB.out _)⟩
        case measure => simp [intOf]; omega
    have b41 : ((n : Int) == 41) = false := by rw [beq_eq_false_iff_ne]; omega
    have b41n : (n == 41) = false := by rw [beq_eq_false_iff_ne]; exact h2
    
    by_cases h3 : n = 92
    · subst h3
      have HCC := Lib.hid (HC2.out (by rw [HBR.out, if_pos (.inr (.inr rfl))]))
      have HFF := Lib.hid (show f = readF (s.take (k + 1)) by rw [HF2.out]; cases f <;> rfl)
      clear HBR HC1 HC2 HF2
      cases f
      all_goals
        go_wp2_with (go_at_call 30; refine (HH.out _).mono ?_; rintro e w' ⟨rfl, q, rfl⟩)
        go_roundw
        case rel => exact ⟨k + 1, _, _, _, by go_num, rfl, rfl, rfl, by omega, by rw [HCC.out]; exact HBN.out, by rw [HC3.out]; exact HBN2.out, HCC, HC3, HFF, Lib.hid (below_drewN HB.out _)⟩
        case measure => simp [intOf]; omega
    have b92 : ((n : Int) == 92) = false := by rw [beq_eq_false_iff_ne]; omega
    have b92n : (n == 92) = false := by rw [beq_eq_false_iff_ne]; exact h3
    have HCC := Lib.hid (HC1.out (by rw [HBR.out, if_neg (by omega)]))
    clear h1 h2 h3
    cases f with
    | false =>
      have HFF := Lib.hid (show false = readF (s.take (k + 1)) by rw [HF2.out, Bool.false_and])
      clear HBR HC1 HC2 HF2
      go_wp2_with (go_at_call 30; refine (HH.out _).mono ?_; rintro e w' ⟨rfl, q, rfl⟩)
      go_roundw
      case rel => exact ⟨k + 1, _, _, _, by go_num, rfl, rfl, rfl, by omega, by rw [HCC.out]; exact HBN.out, by rw [HC3.out]; exact HBN2.out, HCC, HC3, HFF, Lib.hid (below_drewN HB.out _)⟩
      case measure => simp [intOf]; omega
    | true =>
      by_cases g1 : n < 32
      · have d1 : decide (32 ≤ n) = false := decide_eq_false (by omega)
        have d1' : decide ((32 : Int) ≤ (n : Int)) = false := decide_eq_false (by omega)
        have HFF := Lib.hid (show false = readF (s.take (k + 1)) by rw [HF2.out, d1]; rfl)
        clear HBR HC1 HC2 HF2 g1
        go_wp2_with (go_at_call 30; refine (HH.out _).mono ?_; rintro e w' ⟨rfl, q, rfl⟩)
        go_roundw
        case rel => exact ⟨k + 1, _, _, _, by go_num, rfl, rfl, rfl, by omega, by rw [HCC.out]; exact HBN.out, by rw [HC3.out]; exact HBN2.out, HCC, HC3, HFF, Lib.hid (below_drewN HB.out _)⟩
        case measure => simp [intOf]; omega
      have d1 : decide (32 ≤ n) = true := decide_eq_true (by omega)
      have d1' : decide ((32 : Int) ≤ (n : Int)) = true := decide_eq_true (by omega)
      by_cases g2 : 126 < n
      · have d2 : decide (n ≤ 126) = false := decide_eq_false (by omega)
        have d2' : decide ((n : Int) ≤ 126) = false := decide_eq_false (by omega)
        have HFF := Lib.hid (show false = readF (s.take (k + 1)) by rw [HF2.out, d2, Bool.and_false, Bool.and_false])
        clear HBR HC1 HC2 HF2 g1 g2
        go_wp2_with (go_at_call 30; refine (HH.out _).mono ?_; rintro e w' ⟨rfl, q, rfl⟩)
        go_roundw
        case rel => exact ⟨k + 1, _, _, _, by go_num, rfl, rfl, rfl, by omega, by rw [HCC.out]; exact HBN.out, by rw [HC3.out]; exact HBN2.out, HCC, HC3, HFF, Lib.hid (below_drewN HB.out _)⟩
        case measure => simp [intOf]; omega
      have d2 : decide (n ≤ 126) = true := decide_eq_true (by omega)
      have d2' : decide ((n : Int) ≤ 126) = true := decide_eq_true (by omega)
      have HFF := Lib.hid (show true = readF (s.take (k + 1)) by rw [HF2.out, d1, d2]; rfl)
      clear HBR HC1 HC2 HF2 g1 g2
      go_wp2_with (go_at_call 30; refine (HH.out _).mono ?_; rintro e w' ⟨rfl, q, rfl⟩)
      go_roundw
      case rel => exact ⟨k + 1, _, _, _, by go_num, rfl, rfl, rfl, by omega, by rw [HCC.out]; exact HBN.out, by rw [HC3.out]; exact HBN2.out, HCC, HC3, HFF, Lib.hid (below_drewN HB.out _)⟩
      case measure => simp [intOf]; omega
end Go.Proofs.YtnkodejgiabamaaDoor
