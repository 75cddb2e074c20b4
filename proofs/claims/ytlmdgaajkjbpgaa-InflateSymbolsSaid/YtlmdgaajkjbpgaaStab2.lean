/-
  Go's stable sort by a comparing function, at any number of elements of one cell ([]int).
-/
import Derived.Test.YtlmdgaajkjbpgaaSym6
import Derived.Test.YtlmdgaajkjbpgaaStabP
import Derived.Test.YtlmdgaajkjbpgaaIns
import Derived.Test.YtlmdgaajkjbpgaaNew2
namespace Go.Proofs.Ytlmdgaajkjbpgaa
open Go.RowKit Go.Sort

set_option maxRecDepth 8000 in
set_option maxHeartbeats 4000000 in
theorem stable_core {α : Type} [Inhabited α] (enc : α → Value) (hE : ∀ x, ∃ n, enc x = .int .i64 n) (cf : α → α → Int) (lt2 : α → α → Bool) (hO : SWO lt2) (D : α → Prop) (f : FuncId) (cb : Array Value) (g cap n : Nat) (rest : List Value) (d : Array α) (w0 w : World)
    (hC : CmpQ Try.prog f cb enc cf D w0 g) (hS : SB enc w0 g 3 rest d w) (hD : ∀ i, i < d.size → D d[i]!) (hag : ∀ p q, p < q → q < d.size → ltOf cf d[q]! d[p]! = lt2 d[q]! d[p]!) (hdn : d.size = n) (hsz : n < 1152921504606846976) :
    Calls Try.prog 66 #[.slice (some ⟨g, 0, none⟩) n cap, .int .i64 n, .func (.func f) #[] cb] w fun e w' => e = .returned (.tuple #[]) ∧ ∃ R, SB enc w0 g 3 rest R w' ∧ PermIn 0 d.size d R ∧ SortedIn lt2 0 d.size R := by
  have eg := hC.enters
  have insert : ∀ (A B : Nat) (R : Array α) (wr : World), R.size = n → SB enc w0 g 3 rest R wr → PermIn 0 d.size d R → A ≤ B → B ≤ n →
      Calls Try.prog 69 #[.slice (some ⟨g, 0, none⟩) n cap, .int .i64 A, .int .i64 B, .func (.func f) #[] cb] wr fun e w' => e = .returned (.tuple #[]) ∧ SB enc w0 g 3 rest (Sort.insertionSort (ltOf cf) R A B) w' := by
    intro A B R wr h1 h2 h3 h4 h5
    have := ins_any enc hE cf D f cb g cap A B rest R w0 wr hC h2 (all_perm D (Nat.le_refl _) h3 hD) h4 (by omega) (by omega)
    rwa [h1] at this
  have merge : ∀ (A s m b i : Nat) (R : Array α) (wr : World), SB enc w0 g 3 rest R wr → MrgInv lt2 d s i R → A = 2 * s * i → m = A + s → 0 < s → b = min (A + 2 * s) n → m < b →
      Calls Try.prog 70 #[.slice (some ⟨g, 0, none⟩) n cap, .int .i64 A, .int .i64 ((A : Int) + (s : Int)), .int .i64 b, .func (.func f) #[] cb] wr fun e w' => e = .returned (.tuple #[]) ∧ ∃ R', SB enc w0 g 3 rest R' w' ∧ MrgInv lt2 d s (i + 1) R' := by
    intro A s m b i R wr h1 h2 h3 h4 h5 h6 h7
    obtain ⟨q1, q2, q3⟩ := mrg_facts (b := b) h2 h3 hag (by rw [hdn]; exact h6) (by omega)
    rw [← h4] at q1 q2 q3
    have hc := merge_all enc hE cf lt2 hO D f cb g cap rest n w0 hC (by omega) (b - A) A m b R wr (Nat.le_refl _) (h2.sz.trans hdn) h1 (all_perm D (Nat.le_refl _) h2.perm hD) (by omega) h7 (by omega) q1 q2 q3
    rw [show (m : Int) = (A : Int) + (s : Int) from by omega] at hc
    exact hc.mono fun e w' ⟨e1, R', _, e3, e4, e5⟩ => ⟨e1, R', e3, mrg_step h2 h3 (by rw [hdn]; exact h6) (by omega) e4 e5⟩
  have HINS := Lib.hid insert
  have HMRG := Lib.hid merge
  have HAG := Lib.hid hag
  have HO := Lib.hid hO
  have HS := Lib.hid hS
  have HDN := Lib.hid hdn
  clear insert merge hag hO hS hC hD hdn
  go_enter Try.func66, Try.ntmps66
  go_wp2
  go_loopw [7, 8] (fun va vb wr => ∃ (i A B : Nat) (R : Array α), va = .int .i64 A ∧ vb = .int .i64 B ∧ A ≤ n ∧ A + 20 ≤ B ∧ B ≤ A + 20 ∧ Hid (A = 20 * i) ∧ Hid (SB enc w0 g 3 rest R wr) ∧ Hid (InsInv lt2 d 20 i R)) (fun va _ _ => n - (intOf va).toNat)
  case atStart => exact ⟨0, 0, 20, d, rfl, rfl, Nat.zero_le _, by omega, by omega, Lib.hid rfl, HS, Lib.hid InsInv.start⟩
  case round =>
    obtain ⟨i, A, B, R, rfl, rfl, hAn, hB1, hB2, HA, HR, HI⟩ := hrel
    clear HS
    have hRn : R.size = n := HI.out.sz.trans HDN.out
    have HRN := Lib.hid hRn
    clear hRn
    by_cases hlt : B ≤ n
    · have hins := HINS.out A B R wr HRN.out HR.out HI.out.perm (by omega) hlt
      have hst := ins_stable (ltOf cf) lt2 HO.out A B R (by omega) (by rw [HRN.out]; exact hlt) (ins_agree HI.out HA.out HAG.out (by rw [HDN.out]; exact hlt))
      have HC1 := Lib.hid hins
      have HST := Lib.hid hst
      clear hins hst
      go_wp2_with (go_at_call 69; refine HC1.out.mono ?_; rintro e w2 ⟨rfl, hS2⟩; have HS2 := Lib.hid hS2; clear hS2)
      go_roundw
      case rel => exact ⟨i + 1, B, B + 20, _, rfl, by go_num, hlt, by omega, by omega, Lib.hid (by have := HA.out; omega), HS2, Lib.hid (ins_step HI.out HA.out (by rw [HDN.out]; omega) (by omega) HST.out.1 HST.out.2)⟩
      case measure => simp [intOf]; omega
    · have hins := HINS.out A n R wr HRN.out HR.out HI.out.perm hAn (Nat.le_refl _)
      have hst := ins_stable (ltOf cf) lt2 HO.out A n R hAn (by rw [HRN.out]; exact Nat.le_refl _) (ins_agree HI.out HA.out HAG.out (by rw [HDN.out]; exact Nat.le_refl _))
      have hall := fun (R' : Array α) (h1 : PermIn A n R R') (h2 : SortedIn lt2 A n R') => ins_step HI.out HA.out (by rw [HDN.out]; omega) hAn h1 h2
      have hnn : d.size ≤ 20 * (i + 1) := by have := HA.out; have := HDN.out; omega
      have HALL := Lib.hid (hall _ hst.1 hst.2)
      have HC1 := Lib.hid hins
      have HNN := Lib.hid hnn
      clear hins hst hall hnn
      go_wp2_with (go_at_call 69; refine HC1.out.mono ?_; rintro e w2 ⟨rfl, hS2⟩; have HS2 := Lib.hid hS2; clear hS2)
      go_loopw [6] (fun vs wr => ∃ (s : Nat) (R : Array α), vs = .int .i64 s ∧ 20 ≤ s ∧ s ≤ 2305843009213693952 ∧ Hid (SB enc w0 g 3 rest R wr) ∧ Hid (R.size = d.size) ∧ Hid (PermIn 0 d.size d R) ∧ Hid (∀ j, Good lt2 d (s * j) (s * (j + 1)) R)) (fun vs _ => n - (intOf vs).toNat)
      case atStart => exact ⟨20, _, rfl, by omega, by omega, HS2, Lib.hid HALL.out.sz, Lib.hid HALL.out.perm, Lib.hid (HALL.out.all HNN.out)⟩
      case round =>
        obtain ⟨s, R2, rfl, hs20, hsb, HR2, HZ2, HP2, HG2⟩ := hrel
        clear HS2 HALL HC1 HNN HR HI HA hAn hB1 hB2 hlt HRN
        by_cases hsn : s < n
        · go_wp2
          go_loopw [7, 8] (fun va vb wr => ∃ (i A B : Nat) (R : Array α), va = .int .i64 A ∧ vb = .int .i64 B ∧ A ≤ n ∧ A + 2 * s ≤ B ∧ B ≤ A + 2 * s ∧ Hid (A = 2 * s * i) ∧ Hid (SB enc w0 g 3 rest R wr) ∧ Hid (MrgInv lt2 d s i R)) (fun va _ _ => n - (intOf va).toNat)
          case atStart => exact ⟨0, 0, 2 * s, R2, rfl, by go_num, Nat.zero_le _, by omega, by omega, Lib.hid (by simp), HR2, Lib.hid (MrgInv.start HZ2.out HP2.out HG2.out)⟩
          case round =>
            obtain ⟨j, A2, B2, R3, rfl, rfl, hAn2, hB3, hB4, HA2, HR3, HM⟩ := hrel
            clear HR2 HZ2 HP2 HG2
            by_cases hlt2 : B2 ≤ n
            · have HC2 := Lib.hid (HMRG.out A2 s (A2 + s) B2 j R3 _ HR3.out HM.out HA2.out rfl (by omega) (by omega) (by omega))
              go_wp2_with (go_at_call 70; refine HC2.out.mono ?_; rintro e w3 ⟨rfl, R4, hS3, hM3⟩; have HS3 := Lib.hid hS3; have HM3 := Lib.hid hM3; clear hS3 hM3)
              go_roundw
              case rel => exact ⟨j + 1, B2, B2 + 2 * s, R4, rfl, by go_num, hlt2, by omega, by omega, Lib.hid (by rw [Nat.mul_succ, ← HA2.out]; omega), HS3, HM3⟩
              case measure => simp [intOf]; omega
            · by_cases hm : A2 + s < n
              · have hmI : (A2 : Int) + (s : Int) < (n : Int) := by omega
                have HC2 := Lib.hid (HMRG.out A2 s (A2 + s) n j R3 _ HR3.out HM.out HA2.out rfl (by omega) (by omega) hm)
                go_wp2_with (go_at_call 70; refine HC2.out.mono ?_; rintro e w3 ⟨rfl, R4, hS3, hM3⟩; have HS3 := Lib.hid hS3; have HM3 := Lib.hid hM3; clear hS3 hM3)
                go_roundw
                case rel => exact ⟨2 * s, R4, by go_num, by omega, by omega, HS3, Lib.hid HM3.out.sz, Lib.hid HM3.out.perm, Lib.hid (HM3.out.done (by rw [Nat.mul_succ, ← HA2.out, HDN.out]; omega))⟩
                case measure => simp [intOf]; omega
              · have hmI : (n : Int) ≤ (A2 : Int) + (s : Int) := by omega
                go_wp2
                go_roundw
                case rel => exact ⟨2 * s, R3, by go_num, by omega, by omega, HR3, Lib.hid HM.out.sz, Lib.hid HM.out.perm, Lib.hid (HM.out.done (by rw [← HA2.out, HDN.out]; omega))⟩
                case measure => simp [intOf]; omega
        · go_wp2
          go_end0
          exact ⟨rfl, R2, HR2.out, HP2.out, good_end HG2.out (by rw [HDN.out]; omega)⟩

theorem stable_any {α : Type} [Inhabited α] (enc : α → Value) (hE : ∀ x, ∃ n, enc x = .int .i64 n) (cf : α → α → Int) (lt2 : α → α → Bool) (hO : SWO lt2) (D : α → Prop) (f : FuncId) (cb : Array Value) (g cap : Nat) (rest : List Value) (d : Array α) (w0 w : World)
    (hC : CmpQ Try.prog f cb enc cf D w0 g) (hS : SB enc w0 g 3 rest d w) (hD : ∀ i, i < d.size → D d[i]!) (hag : ∀ p q, p < q → q < d.size → ltOf cf d[q]! d[p]! = lt2 d[q]! d[p]!) (hsz : d.size < 1152921504606846976) :
    Calls Try.prog 59 #[.slice (some ⟨g, 0, none⟩) d.size cap, .func (.func f) #[] cb] w fun e w' => e = .returned (.tuple #[]) ∧ ∃ R, SB enc w0 g 3 rest R w' ∧ PermIn 0 d.size d R ∧ SortedIn lt2 0 d.size R := by
  obtain ⟨n, hn⟩ : ∃ n, n = d.size := ⟨_, rfl⟩
  have hcore := stable_core enc hE cf lt2 hO D f cb g cap n rest d w0 w hC hS hD hag hn.symm (by omega)
  rw [← hn] at hsz ⊢
  rw [← hn] at hcore
  have HC := Lib.hid hcore
  clear hcore hC hS hD hag hn
  go_enter Try.func59, Try.ntmps59
  go_wp2_with (go_at_call 66; refine HC.out.mono ?_; rintro e w2 ⟨rfl, R, h1, h2, h3⟩)
  go_end0
  exact ⟨rfl, R, h1, h2, h3⟩

theorem stable320 : StableSaid 320 := fun cf lt2 D f cb g cap rest d w0 w hO hC hS hD hag hsz => stable_any (Value.int .i64) (fun x => ⟨x, rfl⟩) cf lt2 hO D f cb g cap rest d w0 w hC hS hD hag (by omega)
end Go.Proofs.Ytlmdgaajkjbpgaa
