/-
  Go's stable merge in place, at elements of one cell ([]int): two runs.
-/
import Derived.Test.YtlmdgaajkjbpgaaSym2
namespace Go.Proofs.Ytlmdgaajkjbpgaa
open Go.RowKit Go.Sort

/-- The contract of the merge: two runs, each sorted by an order with which the comparing function agrees across them. -/
def MergeSaid {α : Type} [Inhabited α] (enc : α → Value) (cf : α → α → Int) (lt : α → α → Bool) (D : α → Prop) (f : FuncId) (cb : Array Value) (g cap : Nat) (rest : List Value) (n : Nat) (w0 : World) (N : Nat) : Prop :=
  ∀ (a m b : Nat) (d : Array α) (w : World), b - a ≤ N → d.size = n → SB enc w0 g 3 rest d w → (∀ i, i < d.size → D d[i]!) → a < m → m < b → b ≤ n → SortedIn lt a m d → SortedIn lt m b d → Agree (ltOf cf) lt d a m b →
    Calls Try.prog 70 #[.slice (some ⟨g, 0, none⟩) n cap, .int .i64 a, .int .i64 m, .int .i64 b, .func (.func f) #[] cb] w fun e w' => MergeP enc lt g a b rest d w0 e w'

/-- What the search's end makes of the rest. -/
def FinSaid {α : Type} [Inhabited α] (enc : α → Value) (lt : α → α → Bool) (f : FuncId) (cb : Array Value) (g cap : Nat) (rest : List Value) (n : Nat) (w0 : World) (a m b mid s0 r0 : Nat) (d : Array α) : Prop :=
  ∀ (s : Nat) (wr : World), s0 ≤ s → s ≤ r0 → SB enc w0 g 3 rest d wr → (s0 < s → lt d[mid + m - s]! d[s - 1]! = false) → (s < r0 → lt d[mid + m - s - 1]! d[s]! = true) →
      ∃ e, e = mid + m - s ∧ m ≤ e ∧ e ≤ b ∧ mid ≤ e ∧ s + (e - m) = mid ∧
      (s < m → m < e → Calls Try.prog 71 #[.slice (some ⟨g, 0, none⟩) n cap, .int .i64 s, .int .i64 m, .int .i64 e, .func (.func f) #[] cb] wr fun e1 w' => e1 = .returned (.tuple #[]) ∧ ∃ R : Array α, R.size = n ∧ SB enc w0 g 3 rest R w' ∧ (∀ k, R[k]! = rotF d s m e k) ∧ PermIn a b d R) ∧
      (∀ (R : Array α) (W : World), R.size = n → SB enc w0 g 3 rest R W → (∀ k, R[k]! = rotF d s m e k) → PermIn a b d R → a < s → s < mid → Calls Try.prog 70 #[.slice (some ⟨g, 0, none⟩) n cap, .int .i64 a, .int .i64 s, .int .i64 mid, .func (.func f) #[] cb] W fun e1 w' => MergeP enc lt g a mid rest R w0 e1 w') ∧
      (∀ (R R1 : Array α) (W : World), R.size = n → R1.size = n → SB enc w0 g 3 rest R1 W → (∀ k, R[k]! = rotF d s m e k) → PermIn a b d R → PermIn a mid R R1 → mid < e → e < b → Calls Try.prog 70 #[.slice (some ⟨g, 0, none⟩) n cap, .int .i64 mid, .int .i64 e, .int .i64 b, .func (.func f) #[] cb] W fun e1 w' => MergeP enc lt g mid b rest R1 w0 e1 w') ∧
      (∀ R : Array α, (∀ k, R[k]! = rotF d s m e k) → (s = a ∨ s = mid) → SortedIn lt a mid R) ∧
      (∀ R R1 : Array α, (∀ k, R[k]! = rotF d s m e k) → PermIn a mid R R1 → (e = mid ∨ e = b) → SortedIn lt mid b R1) ∧
      (∀ R R1 R2 : Array α, R.size = n → (∀ k, R[k]! = rotF d s m e k) → PermIn a b d R → PermIn a mid R R1 → SortedIn lt a mid R1 → PermIn mid b R1 R2 → SortedIn lt mid b R2 → PermIn a b d R2 ∧ SortedIn lt a b R2)

theorem sym_fin {α : Type} [Inhabited α] (enc : α → Value) (hE : ∀ x, ∃ n, enc x = .int .i64 n) (cf : α → α → Int) (lt : α → α → Bool) (hL : SWO lt) (D : α → Prop) (f : FuncId) (cb : Array Value) (g cap : Nat) (rest : List Value) (n : Nat) (w0 : World) (N : Nat)
    (hsz : n < 4611686018427387904) (ih : MergeSaid enc cf lt D f cb g cap rest n w0 N)
    (a m b mid s0 r0 : Nat) (d : Array α) (hN : b - a ≤ N + 1) (hdn : d.size = n) (hD : ∀ i, i < d.size → D d[i]!) (hb : b ≤ n) (h1 : SortedIn lt a m d) (h2 : SortedIn lt m b d) (hA : Agree (ltOf cf) lt d a m b)
    (hma : a < mid) (hmB : mid < b) (hs0a : a ≤ s0) (hr0m : r0 ≤ m) (hr0d : r0 ≤ mid) (hs0b : mid + m - s0 ≤ b) (hend0 : s0 = a ∨ mid + m - s0 = b) (hend1 : r0 = m ∨ r0 = mid) : FinSaid enc lt f cb g cap rest n w0 a m b mid s0 r0 d := by
  have HD := Lib.hid hD
  have H1 := Lib.hid h1
  have H2 := Lib.hid h2
  have HA := Lib.hid hA
  have HI := Lib.hid ih
  clear hD h1 h2 hA ih
  intro s wr h3 h4 hSB h5 h6
  refine ⟨mid + m - s, rfl, by omega, by omega, by omega, by omega, ?_, ?_, ?_, ?_, ?_, ?_⟩
  · intro h7 h8
    have h9 := rot_any enc hE (.func (.func f) #[] cb) g cap s m (mid + m - s) rest d w0 wr hSB h7 h8 (by omega) (by omega)
    rw [hdn] at h9
    exact h9.mono fun e1 w' ⟨q1, R, q2, q3, q4, q5⟩ => ⟨q1, R, q2, q3, q4, permIn_mono d R s (mid + m - s) a b (by omega) (by omega) (by omega) q5⟩
  · intro R W hR1 hR2 hR3 hR4 h7 h8
    refine HI.out a s mid R W (by omega) hR1 hR2 (all_perm D (by omega) hR4 HD.out) h7 h8 (by omega) (sp1 hR3 (by omega) (by omega) H1.out) ?_ ?_
    · have := sp2 hR3 (by omega) (by omega) (by omega) H2.out
      rwa [show s + (mid + m - s - m) = mid from by omega] at this
    · have := agree_lo hR3 (a := a) (by omega) (by omega) (by omega : mid + m - s ≤ b) HA.out
      rwa [show s + (mid + m - s - m) = mid from by omega] at this
  · intro R R1 W hR1 hR2 hR3 hR4 hR5 hR6 h7 h8
    have hc : ∀ k, mid ≤ k → R1[k]! = R[k]! := fun k hk => hR6.2.1 k (by omega)
    refine HI.out mid (mid + m - s) b R1 W (by omega) hR2 hR3 (all_perm D (by omega) hR6 (all_perm D (by omega) hR5 HD.out)) h7 h8 hb ?_ ?_ ?_
    · have := sp3 hR4 (a := a) (by omega) (by omega) (by omega) H1.out
      rw [show s + (mid + m - s - m) = mid from by omega] at this
      exact sorted_congr this (fun k h9 _ => hc k h9)
    · exact sorted_congr (sp4 hR4 (by omega) (by omega) (by omega) H2.out) (fun k h9 _ => hc k (by omega))
    · have := agree_hi hR4 (b := b) (by omega : a ≤ s) (by omega) (by omega) HA.out
      rw [show s + (mid + m - s - m) = mid from by omega] at this
      exact agree_congr this (fun k h9 _ => hc k h9)
  · intro R hR h7
    have := skip_lo hR (by omega : a ≤ s) (by omega) (by omega) (by omega : mid + m - s ≤ b) H1.out H2.out (by omega)
    rwa [show s + (mid + m - s - m) = mid from by omega] at this
  · intro R R1 hR hP h7
    have := skip_hi hR (by omega : a ≤ s) (by omega) (by omega) (by omega : mid + m - s ≤ b) H1.out H2.out (by omega)
    rw [show s + (mid + m - s - m) = mid from by omega] at this
    exact sorted_congr this (fun k h9 _ => hP.2.1 k (by omega))
  · intro R R1 R2 hR1 hR hP p1 s1 p2 s2
    have hm2 : s + (mid + m - s - m) = mid := by omega
    refine ⟨permIn_trans _ _ _ _ _ (permIn_trans _ _ _ _ _ hP (permIn_mono R R1 a mid a b (by omega) (by omega) (by omega) p1)) (permIn_mono R1 R2 mid b a b (by omega) (by omega) (by have := p1.1; omega) p2), ?_⟩
    refine merge_done hL d R R1 R2 a m b s (mid + m - s) (by omega) (by omega) (by omega) (by omega) (by omega) (by omega) H1.out H2.out hR (fun q1 q2 => h5 (by omega)) (fun q1 q2 => ?_) (by rw [hm2]; exact p1) (by rw [hm2]; exact s1) (by rw [hm2]; exact p2) (by rw [hm2]; exact s2)
    have h8 := h6 (by omega)
    cases h9 : lt d[s]! d[mid + m - s - 1]! with
    | false => rfl
    | true => have := hL.trans _ _ _ h8 h9; rw [hL.irrefl] at this; cases this
end Go.Proofs.Ytlmdgaajkjbpgaa
