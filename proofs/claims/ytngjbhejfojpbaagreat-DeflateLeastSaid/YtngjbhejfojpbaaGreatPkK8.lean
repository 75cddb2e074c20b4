/-
  Our texts NSym6 to Dw6, in one.
-/
import Derived.Test.YtngjbhejfojpbaaGreatPkK7
import Derived.Test.YtngjbhejfojpbaaGreatProg
import Derived.BigQuiet
import Derived.Deep.QuietTactic
import Derived.Deep.RegionHeldLaw
set_option maxRecDepth 8000
set_option maxHeartbeats 8000000
namespace Go.Proofs.YtngjbhejfojpbaaGreat
open Go.RowKit Go.Sort
theorem zeT {α : Type} [Inhabited α] (enc : α → Value) (hE : ∀ x, ∃ n, enc x = .pointer n) (cf : α → α → Int) (lt : α → α → Bool) (hL : SWO lt) (D : α → Prop) (f : FuncId) (cb : Array Value) (g cap : Nat) (rest pre : List Value) (o : Nat) (n : Nat) (w0 : World)
   (hC : CmpQ Tryz.prog f cb enc cf D w0 g) (hsz : n < 4611686018427387904) : ∀ N, zeW enc cf lt D f cb g cap rest pre o n w0 N
 | 0 => fun a m b d w h1 h2 h3 h4 h5 h6 => by omega
 | N + 1 => by
   have ih := zeT enc hE cf lt hL D f cb g cap rest pre o n w0 hC hsz N
   intro a m b d w hN hdn hS hD ham hmb hb h1 h2 hA
   by_cases c1 : m = a + 1
   · subst hdn
     exact sym_leftN enc hE cf lt hL D f cb g cap a m b rest pre o d w0 w hC hS hD c1 hmb hb hsz h2 hA
   by_cases c2 : b = m + 1
   · subst hdn
     exact sym_rightN enc hE cf lt hL D f cb g cap a m b rest pre o d w0 w hC hS hD (by omega) c2 hb hsz h1 hA
   obtain ⟨mid, hmid⟩ : ∃ mid, mid = (a + b) / 2 := ⟨_, rfl⟩
   by_cases c3 : mid < m
   · exact sym_hiN enc hE cf lt D f cb g cap rest pre o n w0 hC hsz a m b mid (mid + m - b) mid d w hdn hS hD (by omega) (by omega) hb hA hmid c3 rfl rfl
       (sym_finN enc hE cf lt hL D f cb g cap rest pre o n w0 N hsz ih a m b mid (mid + m - b) mid d hN hdn hD hb h1 h2 hA (by omega) (by omega) (by omega) (by omega) (by omega) (by omega) (by omega) (by omega))
   · exact sym_loN enc hE cf lt D f cb g cap rest pre o n w0 hC hsz a m b mid a m d w hdn hS hD (by omega) (by omega) hb hA hmid (by omega) rfl rfl
       (sym_finN enc hE cf lt hL D f cb g cap rest pre o n w0 N hsz ih a m b mid a m d hN hdn hD hb h1 h2 hA (by omega) (by omega) (by omega) (by omega) (by omega) (by omega) (by omega) (by omega))
theorem ins_anyN {α : Type} [Inhabited α] (enc : α → Value) (hE : ∀ x, ∃ n, enc x = .pointer n) (cf : α → α → Int) (D : α → Prop) (f : FuncId) (cb : Array Value) (g cap a b : Nat) (rest pre : List Value) (o : Nat) (d : Array α) (w0 w : World)
   (hC : CmpQ Tryz.prog f cb enc cf D w0 g) (hS : SBo enc w0 g 137 rest pre o d w) (hD : ∀ i, i < d.size → D d[i]!) (hab : a ≤ b) (hb : b ≤ d.size) (hsz : d.size < 4611686018427387904) :
   Calls Tryz.prog 101 #[.slice (some ⟨g, o, none⟩) d.size cap, .int .i64 a, .int .i64 b, .func (.func f) #[] cb] w fun e w' => e = .returned (.tuple #[]) ∧ SBo enc w0 g 137 rest pre o (Sort.insertionSort (ltOf cf) d a b) w' := by
 have eg := hC.enters
 have HC := Lib.hid hC
 have HS := Lib.hid hS
 have HD := Lib.hid hD
 clear hC hS hD
 go_enter Tryz.func101, Tryz.ntmps101
 go_wp2
 go_loopw [8] (fun vi wr => ∃ (i : Nat) (dk : Array α), vi = .int .i64 i ∧ a < i ∧ i ≤ b + 1 ∧ dk.size = d.size ∧ Hid (SBo enc w0 g 137 rest pre o dk wr) ∧ Hid (∀ i, i < dk.size → D dk[i]!) ∧
     Hid (insOuter (ltOf cf) a b i dk = insOuter (ltOf cf) a b (a + 1) d)) (fun vi _ => b + 1 - (intOf vi).toNat)
 case atStart => exact ⟨a + 1, d, by go_num, by omega, by omega, rfl, HS, HD, rfl⟩
 case round =>
   obtain ⟨i, dk, rfl, hai, hib, hsk, HSk, HDk, HO⟩ := hrel
   clear HS
   by_cases hlt : i < b
   · go_wp2
     go_loopw [9] (fun vj wr2 => ∃ (j : Nat) (dj : Array α), vj = .int .i64 j ∧ a ≤ j ∧ j ≤ i ∧ dj.size = d.size ∧ Hid (SBo enc w0 g 137 rest pre o dj wr2) ∧ Hid (∀ i, i < dj.size → D dj[i]!) ∧
         Hid (insInner (ltOf cf) a j dj = insInner (ltOf cf) a i dk)) (fun vj _ => (intOf vj).toNat)
     case atStart => exact ⟨i, dk, rfl, by omega, Nat.le_refl _, hsk, HSk, HDk, rfl⟩
     case round =>
       obtain ⟨j, dj, rfl, haj, hji, hsj, HSj, HDj, HI⟩ := hrel
       clear HSk HDk
       by_cases hja : a < j
       · have hc1 := HSj.out.cell j (by omega)
         have hc2 := HSj.out.cell (j - 1) (by omega)
         have hf1 := HSj.out.free j
         have hf2 := HSj.out.free (j - 1)
         have hcall := fun q => HC.out.calls (wr.drewN q) (HSj.out.drewN q).grown dj[j]! dj[j-1]! (HDj.out j (by omega)) (HDj.out (j - 1) (by omega))
         obtain ⟨X, hX⟩ : ∃ X, X = dj[j]! := ⟨_, rfl⟩
         obtain ⟨Y, hY⟩ : ∃ Y, Y = dj[j-1]! := ⟨_, rfl⟩
         rw [← hX] at hc1 hcall
         rw [← hY] at hc2 hcall
         have HX := Lib.hid hX
         have HY := Lib.hid hY
         obtain ⟨x, hx⟩ := hE X
         obtain ⟨y, hy⟩ := hE Y
         rw [hx] at hc1 hcall
         rw [hy] at hc2 hcall
         have HCALL := Lib.hid hcall
         have HEx := Lib.hid hx
         have HEy := Lib.hid hy
         clear hcall hx hy hX hY
         have hj1 : (0 : Int) ≤ (j : Int) - 1 := by omega
         have hj2 : ((j : Int) - 1).toNat = j - 1 := by omega
         have hjd : j < d.size := by omega
         have hjd1 : (j : Int) < (d.size : Int) := by omega
         have out : ltOf cf X Y = false → ∀ q, ∃ i' dk', Value.int .i64 ((i : Int) + 1) = .int .i64 (i' : Nat) ∧ a < i' ∧ i' ≤ b + 1 ∧ dk'.size = d.size ∧ Hid (SBo enc w0 g 137 rest pre o dk' (wr.drewN q)) ∧ Hid (∀ i, i < dk'.size → D dk'[i]!) ∧ Hid (insOuter (ltOf cf) a b i' dk' = insOuter (ltOf cf) a b (a + 1) d) :=
           fun hl q => ⟨i + 1, dj, by go_num, by omega, by omega, hsj, HSj.out.drewN q, HDj, by rw [← HO.out, zch _ _ _ _ _ hlt, ← HI.out, zcm _ _ _ _ (.inr (by rw [← HX.out, ← HY.out]; exact hl))]; exact Lib.hid rfl⟩
         have OUT := Lib.hid out
         clear out
         by_cases hcf : cf X Y < 0
         · have hl : ltOf cf X Y = true := by simpa [ltOf] using hcf
           have HL := Lib.hid hl
           clear hl
           go_wp2_with fail
           go_quiet ((refine Calls.quiet_of (HCALL.out _)))
           go_wp2
           go_region
           all_goals go_wp2
           go_roundw
           case rel =>
             refine ⟨j - 1, swp dj j (j - 1), by congr 1; omega, by omega, by omega, by rw [size_swp]; exact hsj, ?_, ?_, ?_⟩
             · have hw := HSj.out.swp j (j - 1) (by omega) (by omega) (nq + 1)
               rw [← HX.out, ← HY.out, HEx.out, HEy.out] at hw
               exact Lib.hid hw
             · exact Lib.hid (fun q hq => by
                 rw [size_swp] at hq
                 by_cases h1 : q = j
                 · subst h1; rw [swp_left _ _ _ hq (by omega)]; exact HDj.out _ (by omega)
                 · by_cases h2 : q = j - 1
                   · subst h2; rw [swp_right _ _ _ hq]; exact HDj.out _ (by omega)
                   · rw [swp_other _ _ _ _ h1 h2]; exact HDj.out _ hq)
             · exact Lib.hid (by rw [← HI.out, inner_go (ltOf cf) a j dj hja (by rw [← HX.out, ← HY.out]; exact HL.out)])
           case measure => simp [intOf]; omega
         · have hl : ltOf cf X Y = false := by simpa [ltOf] using hcf
           have HL := Lib.hid hl
           clear hl
           go_wp2_with fail
           go_quiet ((refine Calls.quiet_of (HCALL.out _)))
           go_wp2
           go_roundw
           case rel => exact OUT.out HL.out nq
           case measure => simp [intOf]; omega
       · have out : ∀ q, ∃ i' dk', Value.int .i64 ((i : Int) + 1) = .int .i64 (i' : Nat) ∧ a < i' ∧ i' ≤ b + 1 ∧ dk'.size = d.size ∧ Hid (SBo enc w0 g 137 rest pre o dk' (wr.drewN q)) ∧ Hid (∀ i, i < dk'.size → D dk'[i]!) ∧ Hid (insOuter (ltOf cf) a b i' dk' = insOuter (ltOf cf) a b (a + 1) d) :=
           fun q => ⟨i + 1, dj, by go_num, by omega, by omega, hsj, HSj.out.drewN q, HDj, by rw [← HO.out, zch _ _ _ _ _ hlt, ← HI.out, zcm _ _ _ _ (.inl (by omega))]; exact Lib.hid rfl⟩
         have OUT := Lib.hid out
         clear out
         have hja2 : decide ((a : Int) < (j : Int)) = false := by simp; omega
         go_wp2
         go_quiet (fail)
         go_wp2
         go_roundw
         case rel => exact OUT.out nq
         case measure => simp [intOf]; omega
   · go_wp2
     go_end0
     refine ⟨rfl, ?_⟩
     have e : Sort.insertionSort (ltOf cf) d a b = dk := by
       unfold Sort.insertionSort; rw [← HO.out, zbo _ _ _ _ _ hlt]
     rw [e]
     exact HSk.out
theorem stable_coreN {α : Type} [Inhabited α] (enc : α → Value) (hE : ∀ x, ∃ n, enc x = .pointer n) (cf : α → α → Int) (lt2 : α → α → Bool) (hO : SWO lt2) (D : α → Prop) (f : FuncId) (cb : Array Value) (g cap n : Nat) (rest pre : List Value) (o : Nat) (d : Array α) (w0 w : World)
   (hC : CmpQ Tryz.prog f cb enc cf D w0 g) (hS : SBo enc w0 g 137 rest pre o d w) (hD : ∀ i, i < d.size → D d[i]!) (hag : ∀ p q, p < q → q < d.size → ltOf cf d[q]! d[p]! = lt2 d[q]! d[p]!) (hdn : d.size = n) (hsz : n < 1152921504606846976) :
   Calls Tryz.prog 96 #[.slice (some ⟨g, o, none⟩) n cap, .int .i64 n, .func (.func f) #[] cb] w fun e w' => e = .returned (.tuple #[]) ∧ ∃ R, SBo enc w0 g 137 rest pre o R w' ∧ PermIn 0 d.size d R ∧ SortedIn lt2 0 d.size R := by
 have eg := hC.enters
 have insert : ∀ (A B : Nat) (R : Array α) (wr : World), R.size = n → SBo enc w0 g 137 rest pre o R wr → PermIn 0 d.size d R → A ≤ B → B ≤ n →
     Calls Tryz.prog 101 #[.slice (some ⟨g, o, none⟩) n cap, .int .i64 A, .int .i64 B, .func (.func f) #[] cb] wr fun e w' => e = .returned (.tuple #[]) ∧ SBo enc w0 g 137 rest pre o (Sort.insertionSort (ltOf cf) R A B) w' := by
   intro A B R wr h1 h2 h3 h4 h5
   have := ins_anyN enc hE cf D f cb g cap A B rest pre o R w0 wr hC h2 (zba D (Nat.le_refl _) h3 hD) h4 (by omega) (by omega)
   rwa [h1] at this
 have merge : ∀ (A s m b i : Nat) (R : Array α) (wr : World), SBo enc w0 g 137 rest pre o R wr → zaP lt2 d s i R → A = 2 * s * i → m = A + s → 0 < s → b = min (A + 2 * s) n → m < b →
     Calls Tryz.prog 102 #[.slice (some ⟨g, o, none⟩) n cap, .int .i64 A, .int .i64 ((A : Int) + (s : Int)), .int .i64 b, .func (.func f) #[] cb] wr fun e w' => e = .returned (.tuple #[]) ∧ ∃ R', SBo enc w0 g 137 rest pre o R' w' ∧ zaP lt2 d s (i + 1) R' := by
   intro A s m b i R wr h1 h2 h3 h4 h5 h6 h7
   obtain ⟨q1, q2, q3⟩ := mrg_facts (b := b) h2 h3 hag (by rw [hdn]; exact h6) (by omega)
   rw [← h4] at q1 q2 q3
   have hc := zeT enc hE cf lt2 hO D f cb g cap rest pre o n w0 hC (by omega) (b - A) A m b R wr (Nat.le_refl _) (h2.sz.trans hdn) h1 (zba D (Nat.le_refl _) h2.perm hD) (by omega) h7 (by omega) q1 q2 q3
   rw [show (m : Int) = (A : Int) + (s : Int) from by omega] at hc
   exact hc.mono fun e w' ⟨e1, R', _, e3, e4, e5⟩ => ⟨e1, R', e3, mrg_step h2 h3 (by rw [hdn]; exact h6) (by omega) e4 e5⟩
 have HINS := Lib.hid insert
 have HMRG := Lib.hid merge
 have HAG := Lib.hid hag
 have HO := Lib.hid hO
 have HS := Lib.hid hS
 have HDN := Lib.hid hdn
 clear insert merge hag hO hS hC hD hdn
 go_enter Tryz.func96, Tryz.ntmps96
 go_wp2
 go_loopw [7, 8] (fun va vb wr => ∃ (i A B : Nat) (R : Array α), va = .int .i64 A ∧ vb = .int .i64 B ∧ A ≤ n ∧ A + 20 ≤ B ∧ B ≤ A + 20 ∧ Hid (A = 20 * i) ∧ Hid (SBo enc w0 g 137 rest pre o R wr) ∧ Hid (zbC lt2 d 20 i R)) (fun va _ _ => n - (intOf va).toNat)
 case atStart => exact ⟨0, 0, 20, d, rfl, rfl, Nat.zero_le _, by omega, by omega, Lib.hid rfl, HS, Lib.hid zbC.start⟩
 case round =>
   obtain ⟨i, A, B, R, rfl, rfl, hAn, hB1, hB2, HA, HR, HI⟩ := hrel
   clear HS
   have hRn : R.size = n := HI.out.sz.trans HDN.out
   have HRN := Lib.hid hRn
   clear hRn
   by_cases hlt : B ≤ n
   · have hins := HINS.out A B R wr HRN.out HR.out HI.out.perm (by omega) hlt
     have hst := zcc (ltOf cf) lt2 HO.out A B R (by omega) (by rw [HRN.out]; exact hlt) (zcN HI.out HA.out HAG.out (by rw [HDN.out]; exact hlt))
     have HC1 := Lib.hid hins
     have HST := Lib.hid hst
     clear hins hst
     go_wp2_with (go_at_call 101; refine HC1.out.mono ?_; rintro e w2 ⟨rfl, hS2⟩; have HS2 := Lib.hid hS2; clear hS2)
     go_roundw
     case rel => exact ⟨i + 1, B, B + 20, _, rfl, by go_num, hlt, by omega, by omega, Lib.hid (by have := HA.out; omega), HS2, Lib.hid (zdx HI.out HA.out (by rw [HDN.out]; omega) (by omega) HST.out.1 HST.out.2)⟩
     case measure => simp [intOf]; omega
   · have hins := HINS.out A n R wr HRN.out HR.out HI.out.perm hAn (Nat.le_refl _)
     have hst := zcc (ltOf cf) lt2 HO.out A n R hAn (by rw [HRN.out]; exact Nat.le_refl _) (zcN HI.out HA.out HAG.out (by rw [HDN.out]; exact Nat.le_refl _))
     have hall := fun (R' : Array α) (h1 : PermIn A n R R') (h2 : SortedIn lt2 A n R') => zdx HI.out HA.out (by rw [HDN.out]; omega) hAn h1 h2
     have hnn : d.size ≤ 20 * (i + 1) := by have := HA.out; have := HDN.out; omega
     have HALL := Lib.hid (hall _ hst.1 hst.2)
     have HC1 := Lib.hid hins
     have HNN := Lib.hid hnn
     clear hins hst hall hnn
     go_wp2_with (go_at_call 101; refine HC1.out.mono ?_; rintro e w2 ⟨rfl, hS2⟩; have HS2 := Lib.hid hS2; clear hS2)
     go_loopw [6] (fun vs wr => ∃ (s : Nat) (R : Array α), vs = .int .i64 s ∧ 20 ≤ s ∧ s ≤ 2305843009213693952 ∧ Hid (SBo enc w0 g 137 rest pre o R wr) ∧ Hid (R.size = d.size) ∧ Hid (PermIn 0 d.size d R) ∧ Hid (∀ j, Good lt2 d (s * j) (s * (j + 1)) R)) (fun vs _ => n - (intOf vs).toNat)
     case atStart => exact ⟨20, _, rfl, by omega, by omega, HS2, Lib.hid HALL.out.sz, Lib.hid HALL.out.perm, Lib.hid (HALL.out.all HNN.out)⟩
     case round =>
       obtain ⟨s, R2, rfl, hs20, hsb, HR2, HZ2, HP2, HG2⟩ := hrel
       clear HS2 HALL HC1 HNN HR HI HA hAn hB1 hB2 hlt HRN
       by_cases hsn : s < n
       · go_wp2
         go_loopw [7, 8] (fun va vb wr => ∃ (i A B : Nat) (R : Array α), va = .int .i64 A ∧ vb = .int .i64 B ∧ A ≤ n ∧ A + 2 * s ≤ B ∧ B ≤ A + 2 * s ∧ Hid (A = 2 * s * i) ∧ Hid (SBo enc w0 g 137 rest pre o R wr) ∧ Hid (zaP lt2 d s i R)) (fun va _ _ => n - (intOf va).toNat)
         case atStart => exact ⟨0, 0, 2 * s, R2, rfl, by go_num, Nat.zero_le _, by omega, by omega, Lib.hid (by simp), HR2, Lib.hid (zaP.start HZ2.out HP2.out HG2.out)⟩
         case round =>
           obtain ⟨j, A2, B2, R3, rfl, rfl, hAn2, hB3, hB4, HA2, HR3, HM⟩ := hrel
           clear HR2 HZ2 HP2 HG2
           by_cases hlt2 : B2 ≤ n
           · have HC2 := Lib.hid (HMRG.out A2 s (A2 + s) B2 j R3 _ HR3.out HM.out HA2.out rfl (by omega) (by omega) (by omega))
             go_wp2_with (go_at_call 102; refine HC2.out.mono ?_; rintro e w3 ⟨rfl, R4, hS3, hM3⟩; have HS3 := Lib.hid hS3; have HM3 := Lib.hid hM3; clear hS3 hM3)
             go_roundw
             case rel => exact ⟨j + 1, B2, B2 + 2 * s, R4, rfl, by go_num, hlt2, by omega, by omega, Lib.hid (by rw [Nat.mul_succ, ← HA2.out]; omega), HS3, HM3⟩
             case measure => simp [intOf]; omega
           · by_cases hm : A2 + s < n
             · have hmI : (A2 : Int) + (s : Int) < (n : Int) := by omega
               have HC2 := Lib.hid (HMRG.out A2 s (A2 + s) n j R3 _ HR3.out HM.out HA2.out rfl (by omega) (by omega) hm)
               go_wp2_with (go_at_call 102; refine HC2.out.mono ?_; rintro e w3 ⟨rfl, R4, hS3, hM3⟩; have HS3 := Lib.hid hS3; have HM3 := Lib.hid hM3; clear hS3 hM3)
               go_roundw
               case rel => exact ⟨2 * s, R4, by go_num, by omega, by omega, HS3, Lib.hid HM3.out.sz, Lib.hid HM3.out.perm, Lib.hid (HM3.out.done (by rw [Nat.mul_succ, ← HA2.out, HDN.out]; omega))⟩
               case measure => simp [intOf]; omega
             · have hmI : (n : Int) ≤ (A2 : Int) + (s : Int) := by omega
               go_wp2
               go_roundw
               case rel => exact ⟨2 * s, R3, by go_num, by omega, by omega, HR3, Lib.hid HM.out.sz, Lib.hid HM.out.perm, Lib.hid (HM.out.done (by rw [← HA2.out, HDN.out]; omega))⟩
               case measure => simp [intOf]; omega
       · go_wp2
         go_end0
         exact ⟨rfl, R2, HR2.out, HP2.out, good_end HG2.out (by rw [HDN.out]; omega)⟩
theorem stable_anyN {α : Type} [Inhabited α] (enc : α → Value) (hE : ∀ x, ∃ n, enc x = .pointer n) (cf : α → α → Int) (lt2 : α → α → Bool) (hO : SWO lt2) (D : α → Prop) (f : FuncId) (cb : Array Value) (g cap : Nat) (rest pre : List Value) (o : Nat) (d : Array α) (w0 w : World)
   (hC : CmpQ Tryz.prog f cb enc cf D w0 g) (hS : SBo enc w0 g 137 rest pre o d w) (hD : ∀ i, i < d.size → D d[i]!) (hag : ∀ p q, p < q → q < d.size → ltOf cf d[q]! d[p]! = lt2 d[q]! d[p]!) (hsz : d.size < 1152921504606846976) :
   Calls Tryz.prog 89 #[.slice (some ⟨g, o, none⟩) d.size cap, .func (.func f) #[] cb] w fun e w' => e = .returned (.tuple #[]) ∧ ∃ R, SBo enc w0 g 137 rest pre o R w' ∧ PermIn 0 d.size d R ∧ SortedIn lt2 0 d.size R := by
 obtain ⟨n, hn⟩ : ∃ n, n = d.size := ⟨_, rfl⟩
 have hcore := stable_coreN enc hE cf lt2 hO D f cb g cap n rest pre o d w0 w hC hS hD hag hn.symm (by omega)
 rw [← hn] at hsz ⊢
 rw [← hn] at hcore
 have HC := Lib.hid hcore
 clear hcore hC hS hD hag hn
 go_enter Tryz.func89, Tryz.ntmps89
 go_wp2_with (go_at_call 96; refine HC.out.mono ?_; rintro e w2 ⟨rfl, R, h1, h2, h3⟩)
 go_end0
 exact ⟨rfl, R, h1, h2, h3⟩
end Go.Proofs.YtngjbhejfojpbaaGreat
namespace Go.Proofs.YtngjbhejfojpbaaGreat
open Go.Sort
theorem zdw {α : Type} {r : α → α → Prop} : ∀ l m : List α, (∀ a ∈ l, ∀ b ∈ l, r a b → r b a → a = b) → l.Pairwise r → m.Pairwise r → l.Perm m → l = m
 | [], m, _, _, _, h => (List.Perm.nil_eq h).symm ▸ rfl
 | x :: l, [], _, _, _, h => absurd h.length_eq (by simp)
 | x :: l, y :: m, ha, hl, hm, h => by
   have hxy : x = y := by
     have h1 : x ∈ y :: m := h.mem_iff.1 List.mem_cons_self
     have h2 : y ∈ x :: l := h.mem_iff.2 List.mem_cons_self
     rcases List.mem_cons.1 h1 with h1 | h1
     · exact h1
     · rcases List.mem_cons.1 h2 with h2' | h2'
       · exact h2'.symm
       · exact ha x List.mem_cons_self y h2 ((List.pairwise_cons.1 hl).1 y h2') ((List.pairwise_cons.1 hm).1 x h1)
   subst hxy
   rw [zdw l m (fun a h1 b h2 => ha a (List.mem_cons_of_mem _ h1) b (List.mem_cons_of_mem _ h2)) (List.pairwise_cons.1 hl).2 (List.pairwise_cons.1 hm).2 ((List.perm_cons x).1 h)]
def leK (l : List Int) (i j : Nat) : Prop := zbb l (j : Int) (i : Int) = false
theorem leK_anti {l : List Int} {i j : Nat} (h1 : leK l i j) (h2 : leK l j i) : i = j := by
 unfold leK zbb at h1 h2
 simp only [Bool.or_eq_false_iff, Bool.and_eq_false_iff, decide_eq_false_iff_not] at h1 h2
 omega
def SrtK (l l2 : List (Nat × HT)) : Prop := ∃ R : List Nat, R.Perm (List.range l.length) ∧ R.Pairwise (leK (l.map fun x => (x.1 : Int))) ∧ l2 = R.map fun i => l.getD i (0, .leaf 0)
theorem SrtK.one {l a b : List (Nat × HT)} (ha : SrtK l a) (hb : SrtK l b) : a = b := by
 obtain ⟨R, h1, h2, rfl⟩ := ha
 obtain ⟨Q, g1, g2, rfl⟩ := hb
 rw [zdw R Q (fun _ _ _ _ => leK_anti) h2 g2 (h1.trans g1.symm)]
inductive zeu : List (Nat × HT) → Nat × HT → Prop
 | one (x : Nat × HT) : zeu [x] x
 | more {l : List (Nat × HT)} {x y : Nat × HT} {rest : List (Nat × HT)} {z : Nat × HT} : 2 ≤ l.length → SrtK l (x :: y :: rest) → zeu (rest ++ [(x.1 + y.1, .node x.2 y.2)]) z → zeu l z
theorem zeu.det {l : List (Nat × HT)} {a b : Nat × HT} (ha : zeu l a) : zeu l b → a = b := by
 induction ha with
 | one x =>
   intro hb
   cases hb with
   | one => rfl
   | more h => simp at h
 | more h1 h2 _ ih =>
   intro hb
   cases hb with
   | one => simp at h1
   | more g1 g2 g3 =>
     have e := h2.one g2
     simp only [List.cons.injEq] at e
     obtain ⟨rfl, rfl, rfl⟩ := e
     exact ih g3
end Go.Proofs.YtngjbhejfojpbaaGreat
namespace Go.Proofs.YtngjbhejfojpbaaGreat
open Go.RowKit Go.Sort
structure TN where
 p : Nat
 t : HT
 c : Nat
instance : Inhabited TN := ⟨⟨0, .leaf 0, 0⟩⟩
def TN.v (x : TN) : Value := .pointer (some ⟨x.p, 0, none⟩)
def TN.key (x : TN) : Nat × HT := (x.c, x.t)
def zcq (ns : List TN) : List (Nat × HT) := ns.map TN.key
def ptrs (ns : List TN) : List Value := ns.map TN.v
theorem cmpT_any (p q c d : Nat) (w : World) (h1 : w.cell? ⟨p, 0, none⟩ = some (.int .i64 c)) (h2 : w.cell? ⟨q, 0, none⟩ = some (.int .i64 d)) :
   Calls Tryz.prog 90 #[.pointer (some ⟨p, 0, none⟩), .pointer (some ⟨q, 0, none⟩)] w fun e w' => e = .returned (.int .i64 (cmpI c d)) ∧ ∃ n, w' = w.drewN n := by
 obtain ⟨R, hR⟩ : ∃ R, R = cmpI c d := ⟨_, rfl⟩
 have HC := Lib.hid (fun W => zdA (c : Int) (d : Int) W)
 rw [← hR] at HC ⊢
 go_enter Tryz.func90, Tryz.ntmps90
 go_wp2
 go_quiet ((go_at_call 63; exact zcU (HC.out _)))
 go_wp2
 go_ret
 exact ⟨rfl, _, rfl⟩
theorem agree_lt (l : List Int) {x y : Int} (h : x < y) : ltOf (cfL l) y x = zbb l y x := by
 unfold ltOf cfL zbb cmpI
 have hyx : decide (y < x) = false := by simp; omega
 rw [hyx, Bool.and_false, Bool.or_false]
 by_cases h1 : l.getD y.toNat 0 < l.getD x.toNat 0
 · rw [if_pos h1]; simp only [List.getD] at h1; simp [h1]
 · rw [if_neg h1]
   by_cases h2 : l.getD x.toNat 0 < l.getD y.toNat 0
   · rw [if_pos h2]; simp only [List.getD] at h1; simp [h1]
   · rw [if_neg h2]; simp only [List.getD] at h1; simp [h1]
def idx (m : Nat) : List Int := (List.range m).map fun n : Nat => (n : Int)
theorem idx_get {m i : Nat} (h : i < m) : (idx m).toArray[i]! = (i : Int) := by
 rw [zdY (by unfold idx; simpa using h)]
 unfold idx; simp
structure zeQ (w : World) (base : Nat) (S : Nat → Prop) (v : Value) (ns : List TN) : Prop where
 own : OwnO w base 137 v (ptrs ns)
 tree : ∀ x ∈ ns, IsHT w S x.t x.p x.c
 apart : ∀ b, v.ownBlock = some b → ¬ S b
 lt : ∀ b, S b → base ≤ b ∧ b < w.heap.size
theorem sort_nodes {w : World} {base : Nat} {S : Nat → Prop} {v : Value} {ns : List TN} (h : zeQ w base S v ns) (hl : ns.length ≤ 1000) :
   Calls Tryz.prog 89 #[v, .func (.func 90) #[] #[]] w fun e w' => e = .returned (.tuple #[]) ∧ ∃ ns', ns'.Perm ns ∧ zeQ w' base S v ns' ∧ w.grownBy w' v.ownBlock ∧ SrtK (zcq ns) (zcq ns') := by
 have hown := h.own
 obtain ⟨g, o, cap, cur, rfl, hb, hg, hc, hm, hs, ht⟩ := h.own
 have hpl : (ptrs ns).length = ns.length := by simp [ptrs]
 rw [hpl] at hc ht ⊢
 let enc : Int → Value := fun i => (ns.getD i.toNat default).v
 have henc : (idx ns.length).map enc = ptrs ns := by
   apply List.ext_getElem (by simp [idx, ptrs])
   intro i h1 h2
   simp [idx, ptrs, enc, List.getD, show i < ns.length from by simpa [idx] using h1]
 have hsz : (idx ns.length).toArray.size = ns.length := by simp [idx]
 have hS : SBo enc w g 137 (cur.toList.drop (o + ns.length)) (cur.toList.take o) o (idx ns.length).toArray w := by
   refine ⟨grownBy_refl w _, ?_, by simp; omega⟩
   rw [hg]
   congr 2
   rw [List.toList_toArray, henc, ← ht, ← List.drop_drop, List.take_append_drop, List.take_append_drop]
 have hC : CmpQ Tryz.prog 90 #[] enc (cfL (ns.map fun x => (x.c : Int))) (fun x => ∃ q : Nat, q < ns.length ∧ x = (q : Int)) w g := by
   refine ⟨fun _ _ => by kernel_rfl, fun W hgr x y hx hy => ?_⟩
   obtain ⟨i, hi, rfl⟩ := hx
   obtain ⟨j, hj, rfl⟩ := hy
   have key : ∀ k, k < ns.length → ∃ y, ns[k]? = some y ∧ enc (k : Int) = .pointer (some ⟨y.p, 0, none⟩) ∧ W.cell? ⟨y.p, 0, none⟩ = some (.int .i64 y.c) ∧ (ns.map fun x => (x.c : Int)).getD k 0 = y.c := fun k hk => by
     have hy := List.getElem?_eq_getElem hk
     refine ⟨_, hy, by simp [enc, List.getD, hy, TN.v], ?_, by simp [List.getD, hy]⟩
     obtain ⟨q1, q2, q3⟩ := (h.tree _ (List.getElem_mem hk)).top
     rw [World.cell?_of_block (w := w) (a := ⟨ns[k].p, 0, none⟩) (hgr.block _ q2 (fun e => h.apart g rfl (by cases e; exact q1)))]
     exact q3
   obtain ⟨x, -, x1, x2, x3⟩ := key i hi
   obtain ⟨y, -, y1, y2, y3⟩ := key j hj
   rw [x1, y1]
   have hv : cfL (ns.map fun x => (x.c : Int)) i j = cmpI x.c y.c := by
     show cmpI ((ns.map fun x => (x.c : Int)).getD i 0) ((ns.map fun x => (x.c : Int)).getD j 0) = _
     rw [x3, y3]
   rw [hv]
   exact cmpT_any _ _ _ _ W x2 y2
 have hst := stable_anyN enc (fun x => ⟨_, rfl⟩) (cfL (ns.map fun x => (x.c : Int))) (zbb (ns.map fun x => (x.c : Int))) (zbM _) _ 90 #[] g cap _ _ o (idx ns.length).toArray w w hC hS
   (fun i hi => by rw [hsz] at hi; rw [idx_get hi]; exact ⟨i, hi, rfl⟩) (fun p q hpq hq => by
     rw [hsz] at hq
     rw [idx_get hq, idx_get (by omega : p < ns.length)]
     exact agree_lt _ (by omega)) (by rw [hsz]; omega)
 rw [hsz] at hst
 refine hst.mono fun e w' ⟨he, R, h1, h2, h3⟩ => ⟨he, (R.toList.map fun i => ns.getD i.toNat default), ?_, ?_, h1.grown, ?_⟩
 · have hp := h2.2.2
   have hRs : R.size = ns.length := by have := h2.1; rw [hsz] at this; exact this
   have ex : ∀ A : Array Int, A.size = ns.length → (A.extract 0 ns.length).toList = A.toList := fun A hA => by rw [← hA]; simp
   have e1 := ex R hRs
   have e2 := ex _ hsz
   rw [e1, e2] at hp
   have := hp.map fun i : Int => ns.getD i.toNat default
   have e3 : (idx ns.length).map (fun i : Int => ns.getD i.toNat default) = ns := by
     apply List.ext_getElem (by simp [idx])
     intro i g1 g2
     simp [idx, List.getD, g2]
   rw [e3] at this
   exact this
 · have hp := h2.2.2
   have hRs : R.size = ns.length := by have := h2.1; rw [hsz] at this; exact this
   have ex : ∀ A : Array Int, A.size = ns.length → (A.extract 0 ns.length).toList = A.toList := fun A hA => by rw [← hA]; simp
   have e1 := ex R hRs
   have e2 := ex _ hsz
   rw [e1, e2] at hp
   have hmem : ∀ i ∈ R.toList, ∃ q : Nat, q < ns.length ∧ i = (q : Int) := fun i hi => by
     have := hp.mem_iff.1 hi
     unfold idx at this
     obtain ⟨q, hq, rfl⟩ := List.mem_map.1 this
     exact ⟨q, by simpa using hq, rfl⟩
   have hk : zaa (fun b => b = g) w w' := zaa.of_grown h1.grown (fun k hk => by simpa using hk.symm)
   have hll : (R.toList.map fun i => ns.getD i.toNat default).length = ns.length := by rw [List.length_map]; simpa using hRs
   refine ⟨⟨g, o, cap, _, by unfold ptrs; rw [List.length_map, hll], hb, h1.blk, by unfold ptrs; rw [List.length_map, hll]; exact hc, hm, ?_, ?_⟩, fun x hx => ?_, h.apart, fun b hb2 => ⟨(h.lt b hb2).1, Nat.lt_of_lt_of_le (h.lt b hb2).2 h1.grown.size⟩⟩
   · simp [hRs]; omega
   · rw [List.toList_toArray, List.drop_left' (by simp; omega)]
     unfold ptrs
     rw [List.map_map, List.take_left' (by simp)]; rfl
   · obtain ⟨i, hi, rfl⟩ := List.mem_map.1 hx
     obtain ⟨q, hq, rfl⟩ := hmem i hi
     have hin : ns.getD (q : Int).toNat default ∈ ns := by
       simp only [Int.toNat_natCast, List.getD, List.getElem?_eq_getElem hq, Option.getD_some]
       exact List.getElem_mem hq
     exact (h.tree _ hin).keep hk (fun b hb2 e => h.apart g rfl (by rw [← e]; exact hb2))
 · have hp := h2.2.2
   have hRs : R.size = ns.length := by have := h2.1; rw [hsz] at this; exact this
   have ex : ∀ A : Array Int, A.size = ns.length → (A.extract 0 ns.length).toList = A.toList := fun A hA => by rw [← hA]; simp
   rw [ex R hRs, ex _ hsz] at hp
   have hnn : ∀ i ∈ R.toList, ∃ q : Nat, q < ns.length ∧ i = (q : Int) := fun i hi => by
     have := hp.mem_iff.1 hi
     unfold idx at this
     obtain ⟨q, hq, rfl⟩ := List.mem_map.1 this
     exact ⟨q, by simpa using hq, rfl⟩
   refine ⟨R.toList.map Int.toNat, ?_, ?_, ?_⟩
   · have h := hp.map Int.toNat
     have e : (idx ns.length).map Int.toNat = List.range ns.length := by unfold idx; rw [List.map_map]; exact List.map_id' _
     rw [List.toList_toArray, e] at h
     simpa [zcq] using h
   · rw [List.pairwise_iff_getElem]
     intro i j hi hj hij
     have hi' : i < R.size := by simpa using hi
     have hj' : j < R.size := by simpa using hj
     have h := h3 i j (Nat.zero_le _) hij (by rw [← hRs]; exact hj')
     rw [getElem!_pos R i hi', getElem!_pos R j hj'] at h
     obtain ⟨x, -, hx⟩ := hnn R[i] (by simp)
     obtain ⟨y, -, hy⟩ := hnn R[j] (by simp)
     unfold leK
     simp only [List.getElem_map, Array.getElem_toList]
     rw [hx, hy] at h ⊢
     have e : (zcq ns).map (fun x => (x.1 : Int)) = ns.map fun x => (x.c : Int) := by unfold zcq; rw [List.map_map]; rfl
     rw [e]
     exact h
   · unfold zcq
     rw [List.map_map, List.map_map]
     refine List.map_congr_left fun i hi => ?_
     obtain ⟨q, hq, rfl⟩ := hnn i hi
     simp [List.getD, hq, TN.key]
theorem ENod : zcJ Tryz.prog 136 137 (.pointer none) 1 8 := ⟨Tryz.underlying136, by kernel_rfl, rfl, by omega⟩
def zbY (ns : List TN) : List Nat := ns.flatMap fun x => x.t.leaves
def sumN : List TN → Nat
 | [] => 0
 | x :: l => x.c + sumN l
theorem sumN_app : ∀ a b : List TN, sumN (a ++ b) = sumN a + sumN b
 | [], b => by simp [sumN]
 | x :: a, b => by rw [List.cons_append, sumN, sumN, sumN_app a b]; omega
theorem sumN_perm {a b : List TN} (h : a.Perm b) : sumN a = sumN b := by
 induction h with
 | nil => rfl
 | cons x _ ih => simp only [sumN, ih]
 | swap x y l => simp only [sumN]; omega
 | trans _ _ i1 i2 => rw [i1, i2]
theorem leavesN_perm {a b : List TN} (h : a.Perm b) : (zbY a).Perm (zbY b) := h.flatMap_right _
def slN : Value → Nat
 | .slice _ n _ => n
 | _ => 0
structure zeE (w wr : World) (base : Nat) (S S' : Nat → Prop) (v0 v : Value) (ns0 ns : List TN) : Prop where
 q : zeQ wr base S' v ns
 keeps : zaa (fun b => v0.ownBlock = some b) w wr
 new : ∀ b, S' b → S b ∨ w.heap.size ≤ b
 own : ∀ b, v.ownBlock = some b → v0.ownBlock = some b ∨ w.heap.size ≤ b
 perm : (zbY ns).Perm (zbY ns0)
 sum : sumN ns = sumN ns0
 cont : ∀ z, zeu (zcq ns) z → zeu (zcq ns0) z
theorem zeE.step {w wr w2 w7 : World} {base : Nat} {S S' : Nat → Prop} {v0 v v' : Value} {ns0 ns rest : List TN} {x y : TN} {H : Nat} (h : zeE w wr base S S' v0 v ns0 ns) (hp : (x :: y :: rest).Perm ns) (hk : SrtK (zcq ns) (zcq (x :: y :: rest)))
   (hq : zeQ w2 base S' v (x :: y :: rest)) (hg : wr.grownBy w2 v.ownBlock) (hH : w2.heap.size = H) (hO : OwnO w7 base 137 v' (ptrs (rest ++ [⟨H, .node x.t y.t, x.c + y.c⟩])))
   {o8 : Obj} (hg2 : ((w2.alloc (.cells #[.int .i64 (x.c + y.c : Nat), .int .i64 0, .pointer (some ⟨x.p, 0, none⟩), .pointer (some ⟨y.p, 0, none⟩)] 139)).alloc o8).drew.grownBy w7 v.ownBlock)
   (hv : ∀ b, v'.ownBlock = some b → v.ownBlock = some b ∨ H < b) (hbase : base ≤ w.heap.size) (hvs : ∀ b, v.ownBlock = some b → b < wr.heap.size) :
   zeE w w7 base S (fun b => S' b ∨ b = H) v0 v' ns0 (rest ++ [⟨H, .node x.t y.t, x.c + y.c⟩]) := by
 subst hH
 have k1 : zaa (fun b => v.ownBlock = some b) wr w2 := zaa.of_grown hg fun _ h => h
 have k2 : zaa (fun b => v.ownBlock = some b) w2 w7 := ((((zaa.refl _ w2).alloc _).alloc _).drewN 1).grown hg2 (fun k hk => .inl hk)
 have hw := h.keeps.size
 have hs2 := k1.size
 have hs7 := k2.size
 have hap : ∀ b, S' b → ¬ v.ownBlock = some b := fun b hb e => h.q.apart b e hb
 have hnew : w7.heap[w2.heap.size]? = some (.cells #[.int .i64 (x.c + y.c : Nat), .int .i64 0, .pointer (some ⟨x.p, 0, none⟩), .pointer (some ⟨y.p, 0, none⟩)] 139 (0, 0)) := by
   rw [hg2.block _ (by show _ < ((w2.alloc _).alloc _).heap.size; rw [zae, zae]; omega) (fun e => by have := hvs _ e.symm; omega)]
   show ((w2.alloc _).alloc _).heap[w2.heap.size]? = _
   rw [Below.heap_alloc (w2.alloc _) _ _ (by rw [zae]; omega)]
   exact heap_alloc_new w2 _
 have hlt7 : w2.heap.size < w7.heap.size := (Array.getElem?_eq_some_iff.1 hnew).1
 refine ⟨⟨hO, fun z hz => ?_, fun b hb hc => ?_, fun b hb => ?_⟩, ?_, fun b hb => ?_, fun b hb => ?_, ?_, ?_, fun z hz => h.cont z (.more (by unfold zcq; rw [List.length_map, ← hp.length_eq]; simp) hk (by unfold zcq at hz; rw [List.map_append] at hz; exact hz))⟩
 · rcases List.mem_append.1 hz with h1 | h1
   · exact ((hq.tree z (List.mem_cons_of_mem _ (List.mem_cons_of_mem _ h1))).keep k2 hap).weaken fun b hb => .inl hb
   · rw [List.mem_singleton] at h1
     subst h1
     exact ⟨.inr rfl, x.p, y.p, x.c, y.c, hnew, ((hq.tree x (List.mem_cons_self ..)).keep k2 hap).weaken fun b hb => .inl hb, ((hq.tree y (List.mem_cons_of_mem _ (List.mem_cons_self ..))).keep k2 hap).weaken fun b hb => .inl hb⟩
 · rcases hc with hc | hc
   · rcases hv b hb with h1 | h1
     · exact h.q.apart b h1 hc
     · have := (hq.lt b hc).2; omega
   · rcases hv b hb with h1 | h1
     · have := hvs b h1; omega
     · omega
 · rcases hb with hb | hb
   · have := hq.lt b hb; exact ⟨this.1, by omega⟩
   · subst hb; exact ⟨by omega, hlt7⟩
 · exact (h.keeps.trans k1 (fun b hb => (h.own b hb).imp id id)).trans k2 (fun b hb => (h.own b hb).imp id id)
 · rcases hb with hb | hb
   · exact h.new b hb
   · exact .inr (by omega)
 · rcases hv b hb with h1 | h1
   · exact h.own b h1
   · exact .inr (by omega)
 · refine List.Perm.trans ?_ ((leavesN_perm hp).trans h.perm)
   unfold zbY
   rw [List.flatMap_append]
   simp only [List.flatMap_cons, List.flatMap_nil, List.append_nil, HT.leaves]
   refine List.perm_append_comm.trans ?_
   rw [List.append_assoc]
 · have := sumN_perm hp
   have hs := h.sum
   rw [sumN_app]
   simp only [sumN] at this ⊢
   omega
set_option maxRecDepth 20000 in
theorem tree_any {w : World} {base : Nat} {S : Nat → Prop} {v : Value} {ns : List TN} (h : zeQ w base S v ns) (h0 : 0 < ns.length) (hl : ns.length ≤ 400) (hsum : sumN ns ≤ 1000000000000) (hbase : base ≤ w.heap.size) :
   Calls Tryz.prog 81 #[v] w fun e w' => ∃ (x : TN) (S' : Nat → Prop), e = .returned x.v ∧ IsHT w' S' x.t x.p x.c ∧ (x.t.leaves).Perm (zbY ns) ∧ (∀ b, S' b → S b ∨ w.heap.size ≤ b) ∧ zaa (fun b => v.ownBlock = some b) w w' ∧ zeu (zcq ns) (x.c, x.t) := by
 obtain ⟨g0, o0, cap0, rfl, -, -, -⟩ := h.own.row
 have hpl : (ptrs ns).length = ns.length := by simp [ptrs]
 rw [hpl] at h ⊢
 have HT0 := Lib.hid (show zeE w w base S S (.slice (some ⟨g0, o0, none⟩) ns.length cap0) (.slice (some ⟨g0, o0, none⟩) ns.length cap0) ns ns from ⟨h, zaa.refl _ _, fun b h => .inl h, fun b h => .inl h, List.Perm.refl _, rfl, fun _ h => h⟩)
 clear h hpl
 go_enter Tryz.func81, Tryz.ntmps81
 go_wp2_with fail
 go_loopw [0] (fun vl wr => ∃ (m g o cap : Nat) (ns' : List TN) (S' : Nat → Prop), vl = .slice (some ⟨g, o, none⟩) m cap ∧ 0 < m ∧ m ≤ ns.length ∧ Hid (ns'.length = m) ∧ Hid (zeE w wr base S S' (.slice (some ⟨g0, o0, none⟩) ns.length cap0) vl ns ns')) (fun vl _ => slN vl)
 case atStart => exact ⟨_, _, _, _, ns, S, rfl, h0, Nat.le_refl _, Lib.hid rfl, HT0⟩
 case round =>
   obtain ⟨m, g, o, cap, ns', S', rfl, hm0, hml, HM, HT⟩ := hrel
   by_cases hlt : 1 < m
   · have hcd : decide ((m : Int) > 1) = true := decide_eq_true (by omega)
     have hcd2 : decide ((1 : Int) < m) = true := decide_eq_true (by omega)
     have HS := Lib.hid (sort_nodes HT.out.q (by rw [HM.out]; omega))
     clear HT0
     go_wp2_with (go_at_call 89; refine HS.out.mono ?_; rintro e w2 ⟨rfl, ns2, hp2, hq2, hg2, hk2⟩)
     have hl2 : ns2.length = m := by rw [hp2.length_eq, HM.out]
     obtain ⟨x, y, rest, rfl⟩ : ∃ x y rest, ns2 = x :: y :: rest := by
       match ns2, hl2 with
       | [], h => simp at h; omega
       | [_], h => simp at h; omega
       | x :: y :: rest, _ => exact ⟨x, y, rest, rfl⟩
     have hpl2 : (ptrs (x :: y :: rest)).length = m := by rw [← hl2]; simp [ptrs]
     obtain ⟨g', o', cap', ev, hrow, -, -⟩ := hq2.own.row
     rw [hpl2] at ev hrow
     simp only [Value.slice.injEq, Option.some.injEq, Addr.mk.injEq, and_true, true_and] at ev
     obtain ⟨⟨rfl, rfl⟩, rfl⟩ := ev
     obtain ⟨b, off, eb, hblt, hcell⟩ := hrow.2.2.2.2 (by omega)
     simp only [Option.some.injEq, Addr.mk.injEq, and_true] at eb
     obtain ⟨rfl, rfl⟩ := eb
     have r0 : w2.cell? ⟨g, o, none⟩ = some (.pointer (some ⟨x.p, 0, none⟩)) := hcell 0 _ rfl
     have r1 : w2.cell? ⟨g, o + 1, none⟩ = some (.pointer (some ⟨y.p, 0, none⟩)) := hcell 1 _ rfl
     obtain ⟨-, xl, x0⟩ := (hq2.tree x (List.mem_cons_self ..)).top
     obtain ⟨-, yl, y0⟩ := (hq2.tree y (List.mem_cons_of_mem _ (List.mem_cons_self ..))).top
     have hcap : m ≤ cap := hrow.2.1
     have hmi : (1 : Int) < m := by omega
     have hm2 : (2 : Int) ≤ m := by omega
     have hrl : (ptrs rest).length + 2 = m := by rw [← hpl2]; simp [ptrs]
     have hxy : x.c + y.c ≤ 1000000000000 := by
       have e1 := sumN_perm hp2
       have e2 := HT.out.sum
       simp only [sumN] at e1; omega
     obtain ⟨C, hC⟩ : ∃ C, C = x.c + y.c := ⟨_, rfl⟩
     have hw1 : IntKind.i64.wrap ((x.c : Int) + y.c) = (C : Int) := by rw [IntWalk.i64_in _ (by omega)]; omega
     have hxg : ¬ x.p = g := fun e => hq2.apart g rfl (e ▸ (hq2.tree x (List.mem_cons_self ..)).top.1)
     have hyg : ¬ y.p = g := fun e => hq2.apart g rfl (e ▸ (hq2.tree y (List.mem_cons_of_mem _ (List.mem_cons_self ..))).top.1)
     have hOd : ∀ o1 o2, OwnO ((w2.alloc o1).alloc o2).drew base 137 (.slice (if cap = 2 then some ⟨g, o, none⟩ else some ⟨g, o + 2, none⟩) (m - 2) (cap - 2)) (ptrs rest) := fun o1 o2 =>
       (OwnO.drop2i (by exact hq2.own)).keep (S := fun _ => False) ((((zaa.refl (fun _ => False) w2).alloc o1).alloc o2).drewN 1) (fun _ _ h => h)
     have hnc : ∀ (o1 : Obj) (u : Value), ((w2.alloc o1).alloc (.cells #[u] 137)).drew.cell? ⟨w2.heap.size + 1, 0, none⟩ = some u := fun o1 u => by
       have e := zae w2 o1
       have h := cell_of_row _ _ 0 _ _ _ (heap_alloc_new (w2.alloc o1) (.cells #[u] 137))
       rw [e] at h
       exact h
     have hszb : ∀ o1 o2, base ≤ ((w2.alloc o1).alloc o2).drew.heap.size := fun o1 o2 => by
       show base ≤ ((w2.alloc o1).alloc o2).heap.size
       rw [zae, zae]; have := HT.out.keeps.size; have := hg2.size; omega
     obtain ⟨o2, hif⟩ : ∃ o2, (if cap = 2 then some (⟨g, o, none⟩ : Addr) else some ⟨g, o + 2, none⟩) = some ⟨g, o2, none⟩ := by split <;> exact ⟨_, rfl⟩
     have hkc : ∀ k, k < o + 2 → ∀ g' o' n c, Value.slice (some ⟨g, o2, none⟩) (m - 2) (cap - 2) = .slice (some ⟨g', o', none⟩) n c → g ≠ g' ∨ k < o' + n ∨ c ≤ n := fun k hk g' o' n c e => by
       simp only [Value.slice.injEq, Option.some.injEq, Addr.mk.injEq, and_true] at e
       obtain ⟨⟨rfl, rfl⟩, rfl, rfl⟩ := e
       by_cases h2 : cap = 2
       · exact .inr (.inr (by omega))
       · rw [if_neg h2] at hif
         simp only [Option.some.injEq, Addr.mk.injEq, and_true, true_and] at hif
         exact .inr (.inl (by omega))
     have hkx : ∀ p, ¬ p = g → ∀ k : Nat, ∀ g' o' n c, Value.slice (some ⟨g, o2, none⟩) (m - 2) (cap - 2) = .slice (some ⟨g', o', none⟩) n c → p ≠ g' ∨ k < o' + n ∨ c ≤ n := fun p hp k g' o' n c e => by
       simp only [Value.slice.injEq, Option.some.injEq, Addr.mk.injEq, and_true] at e
       obtain ⟨⟨rfl, rfl⟩, rfl, rfl⟩ := e
       exact .inl hp
     have HKC := Lib.hid hkc
     have HKX := Lib.hid hkx
     have HXG := Lib.hid hxg
     have HYG := Lib.hid hyg
     rw [hif] at hOd
     have HOD := Lib.hid hOd
     have HSZ := Lib.hid hszb
     have HRL := Lib.hid hrl
     have hr4 : (ptrs rest).length ≤ 400 := by omega
     have HNC := Lib.hid hnc
     have HQ2 := Lib.hid hq2
     have HP2 := Lib.hid hp2
     have HKK := Lib.hid hk2
     clear hk2
     have HG2 := Lib.hid hg2
     have HC := Lib.hid hC
     have hbw : base ≤ w2.heap.size := by have := HT.out.keeps.size; have := hg2.size; omega
     have hgl : g < wr.heap.size := (HT.out.q.own.lt g rfl).2
     clear hOd hnc hszb hq2 hp2 hg2 hC HS hcell hrow hl2 hpl2 hrl hxy hcd hcd2 xl yl hblt hkc hkx hxg hyg
     have HML := Lib.hid hml
     have HBW := Lib.hid hbw
     have HGL := Lib.hid hgl
     have HBS := Lib.hid hbase
     have HR4 := Lib.hid hr4
     clear hml hbw hgl hr4 h0 hl hsum hbase
     go_wp2_with fail
     go_region_held_law (fun w' => w'.cell? ⟨g, o, none⟩ = some (.pointer (some ⟨x.p, 0, none⟩)) ∧ w'.cell? ⟨g, o + 1, none⟩ = some (.pointer (some ⟨y.p, 0, none⟩)) ∧ w'.cell? ⟨x.p, 0, none⟩ = some (.int .i64 x.c) ∧ w'.cell? ⟨y.p, 0, none⟩ = some (.int .i64 y.c))
       (first
         | go_keep
         | (go_split_ands; exact ⟨HA7.out _ _ _ (by assumption) (HKC.out _ (by omega)), HA7.out _ _ _ (by assumption) (HKC.out _ (by omega)), HA7.out _ _ _ (by assumption) (HKX.out _ HXG.out _), HA7.out _ _ _ (by assumption) (HKX.out _ HYG.out _)⟩))
       (first
         | (refine zef ENod (by rfl) _ _ (by rfl) base (.slice (some ⟨g, o2, none⟩) (m - 2) (cap - 2)) (ptrs rest) (by rfl) (HOD.out _ _) ⟨w2.heap.size + 1, 0, none⟩ 1 (.pointer (some ⟨w2.heap.size, 0, none⟩)) (by rfl) (HNC.out _ _) (by rfl) (by have := HR4.out; unfold maxLen; omega) (by have := HR4.out; omega) (HSZ.out _ _) ?_; intro g7 o7 cap7 w7 hO7 hg7 hat7 hA7; have HO7 := Lib.hid hO7; have HG7 := Lib.hid hg7; have HB7 := Lib.hid hat7; have HA7 := Lib.hid hA7; clear hO7 hg7 hat7 hA7))
     simp only [List.getElem_toArray, List.getElem_cons_succ, List.getElem_cons_zero, List.setIfInBounds_toArray, List.set_cons_zero, List.set_cons_succ]
     go_wp2_with fail
     go_roundw
     case rel =>
       have hst := zeE.step HT.out HP2.out HKK.out HQ2.out HG2.out (H := w2.heap.size) rfl (o8 := .cells #[.pointer (some ⟨w2.heap.size, 0, none⟩)] 137) (w7 := w7) (v' := .slice (some ⟨g7, o7, none⟩) ((ptrs rest).length + 1) cap7) (by
         unfold ptrs at HO7 ⊢
         rw [List.map_append]
         exact HO7.out) (by rw [← HC.out]; exact HG7.out) (fun b hb => by
         have h7 := HB7.out
         have e : g7 = b := by simpa [Value.ownBlock] using hb
         subst e
         rcases h7 with h7 | h7
         · exact .inl h7
         · refine .inr ?_
           have h8 : ((w2.alloc (.cells #[.int .i64 C, .int .i64 0, .pointer (some ⟨x.p, 0, none⟩), .pointer (some ⟨y.p, 0, none⟩)] 139)).alloc (.cells #[.pointer (some ⟨w2.heap.size, 0, none⟩)] 137)).heap.size ≤ g7 := h7
           rw [zae, zae] at h8; omega) HBS.out (fun b hb => by
         have e : g = b := by simpa [Value.ownBlock] using hb
         subst e
         exact HGL.out)
       have hr := HRL.out
       have hm := HML.out
       exact ⟨(ptrs rest).length + 1, g7, o7, cap7, _, _, rfl, by omega, by omega, Lib.hid (by simp [ptrs]), Lib.hid hst⟩
     case measure =>
       have hr := HRL.out
       show (ptrs rest).length + 1 < m
       omega
   · have hcd : decide ((m : Int) > 1) = false := decide_eq_false (by omega)
     have hm1 : m = 1 := by omega
     subst hm1
     obtain ⟨x, rfl⟩ : ∃ x, ns' = [x] := by
       have h := HM.out
       match ns', h with
       | [x], _ => exact ⟨x, rfl⟩
     have hq := HT.out.q
     obtain ⟨g', o', cap', ev, hrow, -, -⟩ := hq.own.row
     simp only [Value.slice.injEq, Option.some.injEq, Addr.mk.injEq, and_true] at ev
     obtain ⟨⟨rfl, rfl⟩, -, rfl⟩ := ev
     obtain ⟨b, off, eb, hblt, hcell⟩ := hrow.2.2.2.2 (by simp [ptrs])
     simp only [Option.some.injEq, Addr.mk.injEq, and_true] at eb
     obtain ⟨rfl, rfl⟩ := eb
     have r0 : wr.cell? ⟨g, o, none⟩ = some (.pointer (some ⟨x.p, 0, none⟩)) := hcell 0 _ rfl
     clear hrow hcell hq
     go_wp2_with fail
     go_ret
     refine ⟨x, S', rfl, HT.out.q.tree x (List.mem_singleton_self _), ?_, HT.out.new, HT.out.keeps, HT.out.cont _ (.one _)⟩
     have hp := HT.out.perm
     simpa [zbY] using hp
end Go.Proofs.YtngjbhejfojpbaaGreat
namespace Go.Proofs.YtngjbhejfojpbaaGreat
open Go.RowKit
theorem rowR_get {n : Nat} {R D : List Nat} (hn : R.Nodup) (hr : ∀ r ∈ R, r < n) (hD : D.length = R.length) {i : Nat} (hi : i < R.length) : (rowR n R D).getD (R.getD i 0) 0 = D.getD i 0 := zee hn hD hr hi
structure CutM (W : World) (bo B1 Br og n : Nat) (R D : List Nat) (room : Int) : Prop where
 out : OutR W bo (rowR n R D)
 box : W.heap[B1]? = some (.cells #[.slice (some ⟨bo, 0, none⟩) n n] 59 (0, 0))
 rm : W.heap[Br]? = some (.cells #[.int .i64 room] 3 (0, 0))
 ord : ∀ i, i < R.length → W.cell? ⟨og, i, none⟩ = some (.int .i64 (R.getD i 0 : Nat))
 len : D.length = R.length
 nd : R.Nodup
 lt : ∀ r ∈ R, r < n
 ne1 : bo ≠ B1
 ne2 : bo ≠ Br
 ne3 : B1 ≠ Br
 ne4 : og ≠ bo
 ne5 : og ≠ B1
 ne6 : og ≠ Br
section
variable {W : World} {bo B1 Br og n : Nat} {R D : List Nat} {room : Int}
theorem zcW {R : List Nat} {i : Nat} (hi : i < R.length) : R.getD i 0 ∈ R := by
 rw [List.getD_eq_getElem?_getD, List.getElem?_eq_getElem hi]; exact List.getElem_mem hi
theorem CutM.at (h : CutM W bo B1 Br og n R D room) {i : Nat} (hi : i < R.length) : R.getD i 0 < n ∧ W.cell? ⟨og, i, none⟩ = some (.int .i64 (R.getD i 0 : Nat)) ∧ W.cell? ⟨bo, R.getD i 0, none⟩ = some (.int .i64 (D.getD i 0 : Nat)) := by
 have hl := h.lt _ (zcW hi)
 refine ⟨hl, h.ord i hi, ?_⟩
 have := h.out.cell (k := R.getD i 0) (by rw [zbU]; exact hl)
 rw [rowR_get h.nd h.lt h.len hi] at this
 exact this
theorem CutM.cbox (h : CutM W bo B1 Br og n R D room) : W.cell? ⟨B1, 0, none⟩ = some (.slice (some ⟨bo, 0, none⟩) n n) := by rw [cell_of_row W _ 0 _ _ _ h.box]; rfl
theorem CutM.crm (h : CutM W bo B1 Br og n R D room) : W.cell? ⟨Br, 0, none⟩ = some (.int .i64 room) := by rw [cell_of_row W _ 0 _ _ _ h.rm]; rfl
theorem CutM.frm (h : CutM W bo B1 Br og n R D room) : W.frozen? ⟨Br, 0, none⟩ = false := frozen_of_row W Br 0 _ _ h.rm
theorem CutM.fout (h : CutM W bo B1 Br og n R D room) (k : Nat) : W.frozen? ⟨bo, k, none⟩ = false := h.out.free k
theorem CutM.drewN (h : CutM W bo B1 Br og n R D room) (q : Nat) : CutM (W.drewN q) bo B1 Br og n R D room := ⟨h.out, h.box, h.rm, h.ord, h.len, h.nd, h.lt, h.ne1, h.ne2, h.ne3, h.ne4, h.ne5, h.ne6⟩
theorem CutM.keep {W' : World} {T : Nat → Prop} (h : CutM W bo B1 Br og n R D room) (hk : zaa T W W') (h1 : ¬ T bo) (h2 : ¬ T B1) (h3 : ¬ T Br) (h4 : ¬ T og) : CutM W' bo B1 Br og n R D room :=
 ⟨h.out.keep hk h1, hk.obj h.box h2, hk.obj h.rm h3, fun i hi => hk.cell (h.ord i hi) h4, h.len, h.nd, h.lt, h.ne1, h.ne2, h.ne3, h.ne4, h.ne5, h.ne6⟩
theorem CutM.alloc (h : CutM W bo B1 Br og n R D room) (o : Obj) : CutM (W.alloc o) bo B1 Br og n R D room := h.keep (T := fun _ => False) ((zaa.refl _ W).alloc o) id id id id
theorem CutM.setR (h : CutM W bo B1 Br og n R D room) (r : Int) : CutM (W.setCell ⟨Br, 0, none⟩ (.int .i64 r)) bo B1 Br og n R D r := by
 have hk : zaa (fun x => x = Br) W (W.setCell ⟨Br, 0, none⟩ (.int .i64 r)) := (zaa.refl (fun x => x = Br) W).setCell (a := ⟨Br, 0, none⟩) (.inl rfl) _
 refine ⟨h.out.keep hk h.ne2, hk.obj h.box h.ne3, ?_, fun i hi => hk.cell (h.ord i hi) h.ne6, h.len, h.nd, h.lt, h.ne1, h.ne2, h.ne3, h.ne4, h.ne5, h.ne6⟩
 rw [heap_setCell_same W Br 0 _ _ _ h.rm]; rfl
theorem CutM.setO (h : CutM W bo B1 Br og n R D room) {i : Nat} (hi : i < R.length) (v : Nat) : CutM (W.setCell ⟨bo, R.getD i 0, none⟩ (.int .i64 v)) bo B1 Br og n R (D.set i v) room := by
 have hk : zaa (fun x => x = bo) W (W.setCell ⟨bo, R.getD i 0, none⟩ (.int .i64 v)) := (zaa.refl (fun x => x = bo) W).setCell (a := ⟨bo, R.getD i 0, none⟩) (.inl rfl) _
 refine ⟨?_, hk.obj h.box (fun e => h.ne1 e.symm), hk.obj h.rm (fun e => h.ne2 e.symm), fun i hi => hk.cell (h.ord i hi) h.ne4, by rw [List.length_set]; exact h.len, h.nd, h.lt, h.ne1, h.ne2, h.ne3, h.ne4, h.ne5, h.ne6⟩
 have := h.out.set (R.getD i 0) v
 rwa [rowR_set h.nd h.lt h.len hi] at this
end
theorem zeS {n : Nat} : ∀ {D : List Nat} {i : Nat}, i < D.length → D.getD i 0 = n → (∀ j, j < i → D.getD j 0 ≠ n) → inc1 n D = some (D.set i (n + 1))
 | [], i, h, _, _ => by simp at h
 | x :: l, 0, _, h, _ => by
   have h : x = n := by simpa using h
   unfold inc1; rw [if_pos h]; rfl
 | x :: l, i + 1, hi, h, hj => by
   have h0 : x ≠ n := by simpa using hj 0 (by omega)
   unfold inc1
   rw [if_neg h0, zeS (i := i) (by simpa using hi) (by simpa using h) (fun j hj' => by simpa using hj (j + 1) (by omega))]
   rfl
theorem inc1_off {n : Nat} : ∀ {D : List Nat}, (∀ j, j < D.length → D.getD j 0 ≠ n) → inc1 n D = none
 | [], _ => rfl
 | x :: l, h => by
   have h0 : x ≠ n := by simpa using h 0 (by simp)
   unfold inc1
   rw [if_neg h0, inc1_off (fun j hj => by simpa using h (j + 1) (by simpa using hj))]
   rfl
theorem cut1_any {W : World} {bo B1 Bn n k x m : Nat} (c1 : W.cell? ⟨B1, 0, none⟩ = some (.slice (some ⟨bo, 0, none⟩) n n)) (c2 : W.cell? ⟨bo, k, none⟩ = some (.int .i64 x)) (c3 : W.cell? ⟨Bn, 0, none⟩ = some (.int .i64 m)) (hk : k < n) :
   Calls Tryz.prog 91 #[.int .i64 k, .pointer (some ⟨B1, 0, none⟩), .pointer (some ⟨Bn, 0, none⟩)] W fun e w' => e = .returned (.bool (decide (x = m))) ∧ ∃ q, w' = W.drewN q := by
 have hd : ((x : Int) == (m : Int)) = decide (x = m) := by
   rw [show ((x : Int) == (m : Int)) = decide ((x : Int) = m) from rfl]; exact decide_eq_decide.2 (by omega)
 have hk0 : (k : Int) < (n : Int) := by omega
 obtain ⟨r, hr⟩ : ∃ r, r = decide (x = m) := ⟨_, rfl⟩
 rw [← hr] at hd ⊢
 have HD := Lib.hid hd
 clear hr hd
 go_enter Tryz.func91, Tryz.ntmps91
 go_wp2
 go_quiet (fail)
 go_wp2
 go_ret
 refine ⟨?_, _, rfl⟩
 rw [← HD.out]; simp
theorem idx_cut {W : World} {bo B1 Br og n Bn m cap : Nat} {R D : List Nat} {room : Int} (h : CutM W bo B1 Br og n R D room) (hb : W.cell? ⟨Bn, 0, none⟩ = some (.int .i64 m)) (hl : R.length ≤ 400) :
   Calls Tryz.prog 86 #[.slice (some ⟨og, 0, none⟩) R.length cap, .func (.func 91) #[] #[.pointer (some ⟨B1, 0, none⟩), .pointer (some ⟨Bn, 0, none⟩)]] W fun e w' => (∃ q, w' = W.drewN q) ∧
     ((∃ i, i < R.length ∧ e = .returned (.int .i64 i) ∧ inc1 m D = some (D.set i (m + 1)) ∧ D.getD i 0 = m) ∨ (e = .returned (.int .i64 (-1)) ∧ inc1 m D = none)) := by
 have H := Lib.hid h
 have HB := Lib.hid hb
 clear h hb
 go_enter Tryz.func86, Tryz.ntmps86
 go_wp2_with fail
 go_loopw [8] (fun v wr => ∃ j : Nat, v = .int .i64 j ∧ j ≤ R.length ∧ Hid (∃ q, wr = W.drewN q) ∧ Hid (∀ i, i < j → D.getD i 0 ≠ m)) (fun v _ => R.length - (intOf v).toNat)
 case atStart => exact ⟨0, rfl, Nat.zero_le _, Lib.hid ⟨0, rfl⟩, Lib.hid (fun i hi => by omega)⟩
 case round =>
   obtain ⟨j, rfl, hj, HW, HA⟩ := hrel
   by_cases hlt : j < R.length
   case neg =>
     have hje : j = R.length := by omega
     subst hje
     have hcd : decide ((R.length : Int) < (R.length : Int)) = false := decide_eq_false (by omega)
     have hcd2 : decide (R.length < R.length) = false := decide_eq_false (by omega)
     have HN := Lib.hid (inc1_off (D := D) (n := m) (by rw [H.out.len]; exact HA.out))
     go_wp2
     go_ret
     exact ⟨HW.out, .inr ⟨rfl, HN.out⟩⟩
   have hcd : decide ((j : Int) < (R.length : Int)) = true := decide_eq_true (by omega)
   have hcd2 : decide (j < R.length) = true := decide_eq_true hlt
   have hjl : (j : Int) < (R.length : Int) := by omega
   obtain ⟨q, hq⟩ := HW.out
   obtain ⟨z1, z2, z3⟩ := (H.out.drewN q).at hlt
   rw [← hq] at z2 z3
   have HC := Lib.hid (cut1_any (W := wr) (by rw [hq]; exact (H.out.drewN q).cbox) z3 (by rw [hq]; exact HB.out) z1)
   have HX := Lib.hid (show D.getD j 0 = m → inc1 m D = some (D.set j (m + 1)) from fun e => zeS (by rw [H.out.len]; exact hlt) e HA.out)
   have HY := Lib.hid (show D.getD j 0 ≠ m → ∀ i, i < j + 1 → D.getD i 0 ≠ m from fun e i hi => by
     rcases Nat.lt_or_eq_of_le (Nat.le_of_lt_succ hi) with h1 | h1
     · exact HA.out i h1
     · rw [h1]; exact e)
   have HQ := Lib.hid hq
   clear hq z3 HA
   generalize R.getD j 0 = k at *
   generalize hx : D.getD j 0 = x at HC HX HY
   have HE := Lib.hid hx
   clear hx
   by_cases he : x = m
   · have hd : decide (x = m) = true := decide_eq_true he
     rw [hd] at HC
     have HX2 := Lib.hid (HX.out he)
     have HE2 := Lib.hid (HE.out.trans he)
     clear HX HY HE hd he
     go_wp2_with (refine HC.out.mono ?_; rintro e w2 ⟨rfl, q2, hq2⟩; have HQ2 := Lib.hid hq2; clear hq2)
     go_ret
     refine ⟨?_, .inl ⟨j, hlt, rfl, HX2.out, HE2.out⟩⟩
     rw [HQ2.out, HQ.out]; exact ⟨q + q2, by simp [World.drewN, Nat.add_assoc]⟩
   · have hd : decide (x = m) = false := decide_eq_false he
     rw [hd] at HC
     have HY2 := Lib.hid (HY.out he)
     clear HX HY hd he
     go_wp2_with (refine HC.out.mono ?_; rintro e w2 ⟨rfl, q2, hq2⟩; have HQ2 := Lib.hid hq2; clear hq2)
     go_roundw
     case rel => exact ⟨j + 1, by go_num, by omega, Lib.hid (by rw [HQ2.out, HQ.out]; exact ⟨q + q2, by simp [World.drewN, Nat.add_assoc]⟩), HY2⟩
     case measure => simp [intOf]; omega
end Go.Proofs.YtngjbhejfojpbaaGreat
namespace Go.Proofs.YtngjbhejfojpbaaGreat
def minN (limit : Nat) (D : List Nat) (i : Nat) : List Nat := ((D.take i).map fun x => min x limit) ++ D.drop i
theorem minN_len (limit : Nat) (D : List Nat) (i : Nat) : (minN limit D i).length = D.length := by
 unfold minN
 rw [List.length_append, List.length_map, ← List.length_append, List.take_append_drop]
theorem minN_zero (limit : Nat) (D : List Nat) : minN limit D 0 = D := by simp [minN]
theorem minN_all (limit : Nat) (D : List Nat) : minN limit D D.length = D.map fun x => min x limit := by simp [minN]
theorem minN_get (limit : Nat) (D : List Nat) {i : Nat} (h : i < D.length) : (minN limit D i).getD i 0 = D.getD i 0 := by
 unfold minN
 rw [List.getD_eq_getElem?_getD, List.getD_eq_getElem?_getD, List.getElem?_append_right (by simp; omega), List.getElem?_drop]
 congr 2
 simp; omega
theorem zdG (D : List Nat) {i : Nat} (h : i < D.length) : D.take (i + 1) = D.take i ++ [D.getD i 0] := by
 rw [List.take_add_one, List.getD_eq_getElem?_getD, List.getElem?_eq_getElem h]; rfl
theorem minN_step (limit : Nat) (D : List Nat) {i : Nat} (h : i < D.length) : (minN limit D i).set i (min (D.getD i 0) limit) = minN limit D (i + 1) := by
 unfold minN
 have hl : ((D.take i).map fun x => min x limit).length = i := by simp; omega
 rw [List.set_append_right _ _ (by omega), hl, Nat.sub_self, List.drop_eq_getElem_cons h, List.set_cons_zero, zdG D h, List.map_append, List.append_assoc]
 rfl
def zeo (limit : Nat) (D : List Nat) (i : Nat) : Int := 32768 - (sumW ((D.take i).map fun x => min x limit) : Nat)
theorem sumW_app : ∀ a b : List Nat, sumW (a ++ b) = sumW a + sumW b
 | [], b => by simp [sumW]
 | x :: a, b => by rw [List.cons_append, sumW, sumW, sumW_app a b]; omega
theorem roomN_step (limit : Nat) (D : List Nat) {i : Nat} (h : i < D.length) : zeo limit D (i + 1) = zeo limit D i - (zao (min (D.getD i 0) limit) : Nat) := by
 unfold zeo
 rw [zdG D h, List.map_append, sumW_app]
 simp only [List.map_cons, List.map_nil, sumW]
 omega
theorem zdu (x : Nat) : zao x ≤ 32768 := Nat.div_le_self _ _
theorem sumW_le : ∀ L : List Nat, sumW L ≤ L.length * 32768
 | [] => by simp [sumW]
 | x :: l => by
   have := sumW_le l
   have := zdu x
   rw [sumW, List.length_cons, Nat.add_mul]; omega
theorem roomN_bd (limit : Nat) (D : List Nat) (i : Nat) : -((D.length : Int) * 32768) ≤ zeo limit D i ∧ zeo limit D i ≤ 32768 := by
 unfold zeo
 have h := sumW_le ((D.take i).map fun x => min x limit)
 have h2 : ((D.take i).map fun x => min x limit).length ≤ D.length := by simp; omega
 have h3 := Nat.mul_le_mul_right 32768 h2
 omega
theorem sumW_set : ∀ {D : List Nat} {i : Nat} (v : Nat), i < D.length → sumW (D.set i v) + zao (D.getD i 0) = sumW D + zao v
 | x :: l, 0, v, _ => by simp [sumW]; omega
 | x :: l, i + 1, v, h => by
   have := sumW_set (D := l) (i := i) v (by simpa using h)
   simp only [List.set_cons_succ, sumW, List.getD_cons_succ] at *
   omega
theorem roomW_two {x : Nat} (h0 : 1 ≤ x) (h : x + 1 ≤ 15) : zao x = 2 * zao (x + 1) := by
 obtain ⟨y, rfl⟩ : ∃ y, x = y + 1 := ⟨x - 1, by omega⟩
 exact zeR (by omega)
theorem roomW_pos {x : Nat} (h : x ≤ 15) : 1 ≤ zao x := by
 have : ∀ y, y ≤ 15 → 1 ≤ zao y := by decide
 exact this x h
def stpS (s : List Nat × Nat) (i : Nat) : List Nat × Nat := (s.1.set i (zay (s.1.getD i 0) s.2).1, (zay (s.1.getD i 0) s.2).2)
theorem stpS_fold : ∀ (A B : List Nat) (r : Nat), (List.range A.length).reverse.foldl stpS (A ++ B, r) = ((zak A.reverse r).1.reverse ++ B, (zak A.reverse r).2) := by
 intro A
 induction hA : A.length generalizing A with
 | zero =>
   intro B r
   have : A = [] := List.eq_nil_of_length_eq_zero hA
   subst this
   simp [zak]
 | succ m ih =>
   intro B r
   obtain ⟨A0, x, rfl⟩ : ∃ A0 x, A = A0 ++ [x] := by
     rcases List.eq_nil_or_concat A with h | ⟨l, a, h⟩
     · subst h; simp at hA
     · exact ⟨l, a, by rw [h, List.concat_eq_append]⟩
   have hm : A0.length = m := by simpa using hA
   rw [List.range_succ, List.reverse_append, List.reverse_singleton, List.singleton_append, List.foldl_cons]
   have e : stpS (A0 ++ [x] ++ B, r) m = (A0 ++ ((zay x r).1 :: B), (zay x r).2) := by
     unfold stpS
     have g : (A0 ++ [x] ++ B).getD m 0 = x := by
       rw [List.getD_eq_getElem?_getD, List.append_assoc, List.getElem?_append_right (by omega), hm, Nat.sub_self]; rfl
     simp only [g]
     rw [List.append_assoc, List.set_append_right _ _ (by omega), hm, Nat.sub_self]
     rfl
   rw [e, ih A0 hm ((zay x r).1 :: B) (zay x r).2, List.reverse_append]
   simp [zak]
theorem stpS_all {A : List Nat} {r c : Nat} (h : A.length = c) : (List.range c).reverse.foldl stpS (A, r) = ((zak A.reverse r).1.reverse, (zak A.reverse r).2) := by
 have := stpS_fold A [] r
 rw [List.append_nil, List.append_nil, h] at this
 exact this
theorem cutLoop_stop {limit : Nat} : ∀ {g : Nat} {D M : List Nat}, zaZ limit g D = some M → sumW D ≤ 32768 → M = D
 | 0, _, _, h, _ => by simp [zaZ] at h
 | g + 1, D, M, h, hs => by
   unfold zaZ at h
   rw [if_pos hs] at h
   simpa using h.symm
theorem cutLoop_go {limit : Nat} : ∀ {g : Nat} {D M : List Nat}, zaZ limit g D = some M → ¬ sumW D ≤ 32768 → ∃ g' n D', za5 D (limit - 1) = some (n, D') ∧ zaZ limit g' D' = some M
 | 0, _, _, h, _ => by simp [zaZ] at h
 | g + 1, D, M, h, hs => by
   unfold zaZ at h
   rw [if_neg hs] at h
   cases hx : za5 D (limit - 1) with
   | none => rw [hx] at h; simp at h
   | some x => rw [hx] at h; exact ⟨g, x.1, x.2, rfl, h⟩
theorem incTop_hit {D M : List Nat} {m : Nat} (h : inc1 (m + 1) D = some M) : za5 D (m + 1) = some (m + 1, M) := by unfold za5; rw [h]
theorem incTop_miss {D : List Nat} {m : Nat} (h : inc1 (m + 1) D = none) : za5 D (m + 1) = za5 D m := by
 rw [show za5 D (m + 1) = (match inc1 (m + 1) D with | some M => some (m + 1, M) | none => za5 D m) from rfl, h]
theorem sumW_inc {D : List Nat} {i m : Nat} (hi : i < D.length) (h : D.getD i 0 = m) (h0 : 1 ≤ m) (h1 : m + 1 ≤ 15) : sumW (D.set i (m + 1)) + zao (m + 1) = sumW D := by
 have := sumW_set (D := D) (i := i) (m + 1) hi
 rw [h, roomW_two h0 h1] at this
 omega
theorem zeh {y r : Nat} (h : y ≤ 1 ∨ r < zao y) : zay y r = (y, r) := by
 match y with
 | 0 => rfl
 | 1 => rfl
 | y + 2 =>
   unfold zay
   rw [if_neg (by omega)]
theorem shrink_go {y r : Nat} (h : 2 ≤ y) (h2 : zao y ≤ r) : zay y r = zay (y - 1) (r - zao y) := by
 match y with
 | 0 => omega
 | 1 => omega
 | y + 2 =>
   rw [show zay (y + 2) r = (if zao (y + 2) ≤ r then zay (y + 1) (r - zao (y + 2)) else (y + 2, r)) from rfl, if_pos h2]; rfl
theorem stp_one {D : List Nat} {r i y r2 : Nat} (h : zay (D.getD i 0) r = (y, r2)) : stpS (D, r) i = (D.set i y, r2) := by unfold stpS; simp only [h]
theorem set_set2 (D : List Nat) (i a b : Nat) : (D.set i a).set i b = D.set i b := by simp
theorem zb0 {D : List Nat} {i : Nat} (h : i < D.length) (v : Nat) : (D.set i v).getD i 0 = v := by
 rw [List.getD_eq_getElem?_getD, List.getElem?_set_self h]; rfl
theorem set_get (D : List Nat) (i : Nat) : D.set i (D.getD i 0) = D := by
 induction D generalizing i with
 | nil => rfl
 | cons x l ih =>
   cases i with
   | zero => rfl
   | succ i => simp only [List.set_cons_succ, List.getD_cons_succ]; rw [ih]
theorem le_set {D : List Nat} {i v m : Nat} (h : ∀ z ∈ D, z ≤ m) (hv : v ≤ m) : ∀ z ∈ D.set i v, z ≤ m := fun z hz => by
 rcases List.mem_or_eq_of_mem_set hz with h1 | h1
 · exact h z h1
 · omega
end Go.Proofs.YtngjbhejfojpbaaGreat
namespace Go.Proofs.YtngjbhejfojpbaaGreat
open Go.RowKit Go.Sort
def SortISaid : Prop :=
 ∀ (base g cap : Nat) (D : List Nat) (w : World), w.ownsRow base 3 1 (.slice (some ⟨g, 0, none⟩) D.length cap) D.length (natV D) → D.length ≤ 1000 →
   Calls Tryz.prog 93 #[.slice (some ⟨g, 0, none⟩) D.length cap, .func (.func 94) #[] #[]] w fun e w' => e = .returned (.tuple #[]) ∧ ∃ D' : List Nat, D'.Perm D ∧ (∀ i j, i ≤ j → j < D'.length → D'.getD j 0 ≤ D'.getD i 0) ∧
     w'.ownsRow base 3 1 (.slice (some ⟨g, 0, none⟩) D.length cap) D.length (natV D') ∧ w.grownBy w' (some g)
theorem take_natV (D : List Nat) {k : Nat} (h : k < D.length) : natV (D.take (k + 1)) = natV (D.take k) ++ [.int .i64 (D.getD k 0 : Nat)] := by
 rw [zdG D h]; simp [natV]
theorem mix_step {D D2 : List Nat} {i : Nat} (h : i < D.length) (hl : D2.length = D.length) : (D2.take i ++ D.drop i).set i (D2.getD i 0) = D2.take (i + 1) ++ D.drop (i + 1) := by
 have ht : (D2.take i).length = i := by simp; omega
 rw [List.set_append_right _ _ (by omega), ht, Nat.sub_self, List.drop_eq_getElem_cons h, List.set_cons_zero, zdG D2 (by omega), List.append_assoc]; rfl
set_option maxRecDepth 20000 in
theorem sorted_any (hsort : SortISaid) {w : World} {bo og n ocap : Nat} {R D : List Nat} (hO : OutR w bo (rowR n R D)) (hord : ∀ i, i < R.length → w.cell? ⟨og, i, none⟩ = some (.int .i64 (R.getD i 0 : Nat))) (hne : og ≠ bo) (hog : og < w.heap.size)
   (h0 : 0 < R.length) (hR : R.length ≤ 400) (hD : D.length = R.length) (hnd : R.Nodup) (hlt : ∀ r ∈ R, r < n) :
   Calls Tryz.prog 85 #[.slice (some ⟨bo, 0, none⟩) n n, .slice (some ⟨og, 0, none⟩) R.length ocap] w fun e w' => e = .returned (.tuple #[]) ∧ ∃ D' : List Nat, D'.Perm D ∧ (∀ i j, i ≤ j → j < D'.length → D'.getD j 0 ≤ D'.getD i 0) ∧ OutR w' bo (rowR n R D') ∧ zaa (fun b => b = bo) w w' := by
 have hbo := hO.lt
 have HO := Lib.hid hO
 have HORD := Lib.hid hord
 have HS := Lib.hid hsort
 have HD := Lib.hid hD
 have HND := Lib.hid hnd
 have HLT := Lib.hid hlt
 clear hO hord hsort hD hnd hlt
 go_enter Tryz.func85, Tryz.ntmps85
 go_wp2_with fail
 go_loopw [4, 11] (fun S v wr => ∃ i : Nat, v = .int .i64 i ∧ i ≤ R.length ∧ Hid (wr.ownsRow w.heap.size 3 1 S i (natV (D.take i))) ∧ Hid (Below w.heap.size w wr)) (fun _ v _ => R.length - (intOf v).toNat)
 case atStart => exact ⟨0, rfl, Nat.zero_le _, Lib.hid (by rw [List.take_zero]; exact World.ownsRow_nil _ _ _ _), Lib.hid (Below.refl _ _)⟩
 case round =>
   obtain ⟨i, rfl, hi, HSk, HB⟩ := hrel
   by_cases hlt : i < R.length
   · have hcd : decide ((i : Int) < (R.length : Int)) = true := decide_eq_true (by omega)
     have hil : (i : Int) < (R.length : Int) := by omega
     have z2 := zag HB.out hog (HORD.out i hlt)
     have hk1 := HLT.out _ (zcW hlt)
     have hOb : OutR wr bo (rowR n R D) := (HB.out.block bo hbo).trans HO.out
     have z3 := hOb.cell (k := R.getD i 0) (by rw [zbU]; exact hk1)
     rw [rowR_get HND.out HLT.out HD.out hlt] at z3
     have HT := Lib.hid (take_natV D (k := i) (by rw [HD.out]; exact hlt))
     generalize R.getD i 0 = k at z2 z3 hk1
     generalize D.getD i 0 = x at z3 HT
     have hkn : (k : Int) < (n : Int) := by omega
     obtain ⟨aS, cS, hS, -, hSb⟩ := Row.of_owns HSk.out
     subst hS
     have hsz := HB.out.size
     clear hSb hOb
     go_wp2_with (at_builtin; refine zan ETI rfl (.tmp 15) (.tmp 20) rfl w.heap.size (Value.slice aS i cS) i _ rfl (HSk.out.alloc _) _ 1 _ _ rfl (zbl _ _ _) (zb5 rfl) (by unfold maxLen; omega) (by omega) (by rw [zae]; omega) ?_; intro v' w5 hO5 hg5 hnil5; have HO5 := Lib.hid hO5; have HG5 := Lib.hid hg5; clear hO5 hg5 hnil5)
     go_roundw
     case rel => exact ⟨i + 1, by go_num, by omega, Lib.hid (by rw [HT.out]; exact HO5.out), Lib.hid ((HB.out.alloc hsz _).grown HG5.out (by rw [zae]; omega) (fun q hq => (HSk.out.lt q hq).1))⟩
     case measure => simp [intOf]; omega
   · have hie : i = R.length := by omega
     subst hie
     have hcd : decide ((R.length : Int) < (R.length : Int)) = false := decide_eq_false (by omega)
     have hcd2 : decide (R.length < R.length) = false := decide_eq_false (by omega)
     have hrow := HSk.out
     rw [List.take_of_length_le (by rw [HD.out]; exact Nat.le_refl _)] at hrow
     obtain ⟨g, cS, hS, hgb⟩ : ∃ g cS, u4 = .slice (some ⟨g, 0, none⟩) R.length cS ∧ w.heap.size ≤ g := by
       rcases hrow.2 with ⟨-, h1⟩ | ⟨g, cap, cur, hv, hb, -⟩
       · omega
       · exact ⟨g, cap, hv, hb⟩
     subst hS
     have hgl := (hrow.lt g rfl).2
     have HX := Lib.hid (by have h := HS.out w.heap.size g cS D wr (by rw [HD.out]; exact hrow) (by rw [HD.out]; omega); rw [HD.out] at h; exact h)
     clear hrow HSk HS
     go_wp2_with (go_at_call 93; refine HX.out.mono ?_; rintro e w3 ⟨rfl, D2, hp2, hs2, hr2, hg2⟩; have HP2 := Lib.hid hp2; have HS2 := Lib.hid hs2; have HR2 := Lib.hid hr2; have HG2 := Lib.hid hg2; clear hp2 hs2 hr2 hg2)
     have hD2 : D2.length = R.length := by rw [HP2.out.length_eq, HD.out]
     have HB3 := Lib.hid (HB.out.grown HG2.out HB.out.size (fun q hq => by cases hq; exact hgb))
     have HO3 := Lib.hid (show OutR w3 bo (rowR n R (D2.take 0 ++ D.drop 0)) from by rw [List.take_zero, List.nil_append, List.drop_zero]; exact (HB3.out.block bo hbo).trans HO.out)
     have HD2 := Lib.hid hD2
     have hg3 : g < w3.heap.size := Nat.lt_of_lt_of_le hgl HG2.out.size
     clear HX hD2
     go_loopw [27] (fun v wr => ∃ i : Nat, v = .int .i64 i ∧ i ≤ R.length ∧ Hid (OutR wr bo (rowR n R (D2.take i ++ D.drop i))) ∧ Hid (zaa (fun b => b = bo) w3 wr)) (fun v _ => R.length - (intOf v).toNat)
     case atStart => exact ⟨0, rfl, Nat.zero_le _, HO3, Lib.hid (zaa.refl _ _)⟩
     case round =>
       clear HO3
       obtain ⟨i, rfl, hi, HOi, HK⟩ := hrel
       by_cases hlt : i < R.length
       · have hcd : decide ((i : Int) < (R.length : Int)) = true := decide_eq_true (by omega)
         have hil : (i : Int) < (R.length : Int) := by omega
         have z2 := HK.out.cell (zag HB3.out hog (HORD.out i hlt)) hne
         have hk1 := HLT.out _ (zcW hlt)
         obtain ⟨b, off, eb, hbl, hcc⟩ := (Row.of_own HR2.out).2.2.2.2.2 (by omega)
         simp only [Option.some.injEq, Addr.mk.injEq, and_true] at eb
         obtain ⟨rfl, rfl⟩ := eb
         have z3 := HK.out.cell (hcc i _ (zcB (L := D2) (k := i) (by rw [HD2.out]; exact hlt))) (by omega)
         rw [Nat.zero_add] at z3
         have f3 := HOi.out.free (R.getD i 0)
         have hlm : (D2.take i ++ D.drop i).length = R.length := by rw [List.length_append, List.length_take, List.length_drop, HD2.out, HD.out]; omega
         have HN := Lib.hid (show OutR (wr.setCell ⟨bo, R.getD i 0, none⟩ (.int .i64 (D2.getD i 0 : Nat))) bo (rowR n R (D2.take (i + 1) ++ D.drop (i + 1))) from by
           have h := HOi.out.set (R.getD i 0) (D2.getD i 0)
           rw [rowR_set HND.out HLT.out hlm hlt, mix_step (by rw [HD.out]; exact hlt) (by rw [HD2.out, HD.out])] at h
           exact h)
         have z4 := HOi.out.cell (k := R.getD i 0) (by rw [zbU]; exact hk1)
         generalize R.getD i 0 = k at z2 f3 hk1 HN z4
         generalize D2.getD i 0 = x at z3 HN
         generalize (rowR n R (D2.take i ++ D.drop i)).getD k 0 = y at z4
         have hkn : (k : Int) < (n : Int) := by omega
         clear hcc hlm
         go_wp2_with fail
         go_roundw
         case rel => exact ⟨i + 1, by go_num, by omega, HN, Lib.hid (HK.out.setCell (a := ⟨bo, k, none⟩) (.inl rfl) _)⟩
         case measure => simp [intOf]; omega
       · have hie : i = R.length := by omega
         subst hie
         have HF := Lib.hid HOi.out
         go_wp2_with fail
         go_end0
         have hb := HB3.out
         refine ⟨rfl, D2, HP2.out, HS2.out, ?_, (show zaa (fun b => b = bo) w w3 from ⟨hb.os, hb.tape, hb.output, hb.size, fun b h _ => hb.block b h⟩).trans HK.out (fun b hb => .inl hb)⟩
         · have h := HF.out
           rw [List.take_of_length_le (by rw [HD2.out]; exact Nat.le_refl _), List.drop_of_length_le (by rw [HD.out]; exact Nat.le_refl _), List.append_nil] at h
           exact h
theorem keeps_of {w w' : World} (S : Nat → Prop) (h : Below w.heap.size w w') : zaa S w w' := ⟨h.os, h.tape, h.output, h.size, fun b hb _ => h.block b hb⟩
structure LN where
 p : Nat
 s : Nat
 c : Nat
def LN.v (x : LN) : Value := .pointer (some ⟨x.p, 0, none⟩)
def LN.tn (x : LN) : TN := ⟨x.p, .leaf x.s, x.c⟩
def LN.obj (x : LN) : Obj := .cells #[.int .i64 x.c, .int .i64 x.s, .pointer none, .pointer none] 139 (0, 0)
structure zbB (w : World) (B : Nat) (S6 S7 : Value) (ns : List LN) : Prop where
 r6 : w.ownsRow B 137 1 S6 ns.length (ns.map LN.v)
 r7 : w.ownsRow B 3 1 S7 ns.length (natV (ns.map LN.s))
 tree : ∀ x ∈ ns, B ≤ x.p ∧ w.heap[x.p]? = some x.obj
 a6 : ∀ b, S6.ownBlock = some b → ∀ x ∈ ns, x.p ≠ b
 a7 : ∀ b, S7.ownBlock = some b → ∀ x ∈ ns, x.p ≠ b
 a67 : ∀ b, S6.ownBlock = some b → S7.ownBlock ≠ some b
theorem zbB.nil (w : World) (B : Nat) : zbB w B (.slice none 0 0) (.slice none 0 0) [] :=
 ⟨World.ownsRow_nil _ _ _ _, World.ownsRow_nil _ _ _ _, fun x h => (by cases h), fun b h => (by cases h), fun b h => (by cases h), fun b h => (by cases h)⟩
theorem zbB.step {w w5 w6 : World} {B : Nat} {S6 S7 S6' S7' : Value} {ns : List LN} {s c p : Nat} {o1 o2 : Obj} (h : zbB w B S6 S7 ns) (hB : B ≤ w.heap.size) (hp : w.heap.size = p)
   (h5 : w5.ownsRow B 137 1 S6' (ns.length + 1) (ns.map LN.v ++ [.pointer (some ⟨p, 0, none⟩)]))
   (g5 : ((w.alloc (.cells #[.int .i64 c, .int .i64 s, .pointer none, .pointer none] 139)).alloc o1).grownBy w5 S6.ownBlock) (n5 : NewAt ((w.alloc (.cells #[.int .i64 c, .int .i64 s, .pointer none, .pointer none] 139)).alloc o1) S6 S6')
   (h6 : w6.ownsRow B 3 1 S7' (ns.length + 1) (natV (ns.map LN.s) ++ [.int .i64 s])) (g6 : (w5.alloc o2).grownBy w6 S7.ownBlock) (n6 : NewAt (w5.alloc o2) S7 S7') : zbB w6 B S6' S7' (ns ++ [⟨p, s, c⟩]) := by
 subst hp
 have s5 := g5.size
 rw [zae, zae] at s5
 have s6 := g6.size
 rw [zae] at s6
 have k5 : zaa (fun b => S6.ownBlock = some b) w w5 := (((zaa.refl _ w).alloc _).alloc _).grown g5 (fun k hk => .inl hk)
 have k6 : zaa (fun b => S7.ownBlock = some b) w5 w6 := ((zaa.refl _ w5).alloc _).grown g6 (fun k hk => .inl hk)
 have l6 : ∀ b, S6.ownBlock = some b → b < w.heap.size := fun b hb => (h.r6.lt b hb).2
 have l7 : ∀ b, S7.ownBlock = some b → b < w.heap.size := fun b hb => (h.r7.lt b hb).2
 have e6 : ∀ b, S6'.ownBlock = some b → S6.ownBlock = some b ∨ w.heap.size + 2 ≤ b := fun b hb => by
   rcases n5 b hb with h1 | h1
   · exact .inl h1
   · rw [zae, zae] at h1; exact .inr h1
 have e7 : ∀ b, S7'.ownBlock = some b → S7.ownBlock = some b ∨ w5.heap.size + 1 ≤ b := fun b hb => by
   rcases n6 b hb with h1 | h1
   · exact .inl h1
   · rw [zae] at h1; exact .inr h1
 have l6' : ∀ b, S6'.ownBlock = some b → b < w5.heap.size := fun b hb => (h5.lt b hb).2
 have tl : ∀ x ∈ ns, x.p < w.heap.size := fun x hx => (Array.getElem?_eq_some_iff.1 (h.tree x hx).2).1
 refine ⟨?_, ?_, fun x hx => ?_, fun b hb x hx => ?_, fun b hb x hx => ?_, fun b hb hb7 => ?_⟩
 · rw [List.length_append, List.map_append]
   exact zas h5 k6 fun b hb h7 => by
     rcases e6 b hb with h1 | h1
     · exact h.a67 b h1 h7
     · have := l7 b h7; omega
 · rw [List.length_append, List.map_append]
   unfold natV at h6 ⊢
   rw [List.map_append]
   exact h6
 · rcases List.mem_append.1 hx with h1 | h1
   · obtain ⟨t1, t2⟩ := h.tree x h1
     exact ⟨t1, k6.obj (k5.obj t2 (fun e => h.a6 _ e x h1 rfl)) (fun e => h.a7 _ e x h1 rfl)⟩
   · rw [List.mem_singleton] at h1
     subst h1
     refine ⟨hB, k6.obj ?_ (fun e => by have := l7 _ e; simp at this)⟩
     refine (g5.block _ (by rw [zae, zae]; simp; omega) (fun e => by have := l6 _ e.symm; simp at this)).trans ?_
     rw [Below.heap_alloc _ _ _ (by rw [zae]; simp)]
     exact heap_alloc_new w _
 · rcases List.mem_append.1 hx with h1 | h1
   · rcases e6 b hb with h2 | h2
     · exact h.a6 b h2 x h1
     · have := tl x h1; omega
   · rw [List.mem_singleton] at h1
     subst h1
     rcases e6 b hb with h2 | h2
     · have := l6 b h2; simp; omega
     · simp; omega
 · rcases List.mem_append.1 hx with h1 | h1
   · rcases e7 b hb with h2 | h2
     · exact h.a7 b h2 x h1
     · have := tl x h1; omega
   · rw [List.mem_singleton] at h1
     subst h1
     rcases e7 b hb with h2 | h2
     · have := l7 b h2; simp; omega
     · simp; omega
 · rcases e7 b hb7 with h2 | h2
   · rcases e6 b hb with h3 | h3
     · exact h.a67 b h3 h2
     · have := l7 b h2; omega
   · have := l6' b hb; omega
theorem zbB.r7_after {w w5 : World} {B : Nat} {S6 S7 : Value} {ns : List LN} {o0 o1 : Obj} (h : zbB w B S6 S7 ns) (g5 : ((w.alloc o0).alloc o1).grownBy w5 S6.ownBlock) : w5.ownsRow B 3 1 S7 ns.length (natV (ns.map LN.s)) :=
 zas h.r7 (((((zaa.refl (fun b => S6.ownBlock = some b) w).alloc _).alloc _).grown g5 (fun _ hk => .inl hk))) fun b hb h6 => h.a67 b h6 hb
theorem zbB.other {w w' : World} {B : Nat} {S6 S7 : Value} {ns : List LN} {T : Nat → Prop} (h : zbB w B S6 S7 ns) (hk : zaa T w w') (hT : ∀ b, T b → b < B ∨ w.heap.size ≤ b) : zbB w' B S6 S7 ns := by
 have nt : ∀ b, B ≤ b → b < w.heap.size → ¬ T b := fun b h1 h2 h3 => by have := hT b h3; omega
 exact ⟨zas h.r6 hk fun b hb => nt b (h.r6.lt b hb).1 (h.r6.lt b hb).2, zas h.r7 hk fun b hb => nt b (h.r7.lt b hb).1 (h.r7.lt b hb).2,
   fun x hx => ⟨(h.tree x hx).1, hk.obj (h.tree x hx).2 (nt _ (h.tree x hx).1 (Array.getElem?_eq_some_iff.1 (h.tree x hx).2).1)⟩, h.a6, h.a7, h.a67⟩
theorem zbB.nodes {w : World} {B : Nat} {S6 S7 : Value} {ns : List LN} (h : zbB w B S6 S7 ns) (h0 : 0 < ns.length) : zeQ w B (fun b => ∃ x ∈ ns, b = x.p) S6 (ns.map LN.tn) := by
 refine ⟨?_, fun y hy => ?_, fun b hb => ?_, fun b hb => ?_⟩
 · have e : ptrs (ns.map LN.tn) = ns.map LN.v := by unfold ptrs; rw [List.map_map]; rfl
   rw [e]
   exact OwnO.of h.r6 h0
 · obtain ⟨x, hx, rfl⟩ := List.mem_map.1 hy
   exact ⟨⟨x, hx, rfl⟩, (h.tree x hx).2⟩
 · rintro ⟨x, hx, rfl⟩
   exact h.a6 _ hb x hx rfl
 · obtain ⟨x, hx, rfl⟩ := hb
   exact ⟨(h.tree x hx).1, (Array.getElem?_eq_some_iff.1 (h.tree x hx).2).1⟩
def zco (l : List Int) (k : Nat) : List (Nat × Nat) := ((List.range k).filter fun k => decide (0 < l.getD k 0)).map fun k => (k, (l.getD k 0).toNat)
theorem posTo_succ (l : List Int) (k : Nat) : zco l (k + 1) = zco l k ++ if 0 < l.getD k 0 then [(k, (l.getD k 0).toNat)] else [] := by
 unfold zco
 rw [List.range_succ, List.filter_append, List.map_append]
 by_cases h : 0 < l.getD k 0
 · simp only [if_pos h]; simp only [List.getD] at h; simp [h]
 · simp only [if_neg h]; simp only [List.getD] at h; simp [h]
theorem zcl (l : List Int) (k : Nat) : (zco l k).map (fun x => ((x.1 : Nat) : Int)) = zad l k := by
 unfold zco zad
 rw [List.map_map]; rfl
theorem zeg (l : List Int) (k : Nat) : (zco l k).length ≤ k := by
 unfold zco
 rw [List.length_map]
 exact Nat.le_trans (List.length_filter_le _ _) (by simp)
def LN.key (x : LN) : Nat × Nat := (x.s, x.c)
theorem leavesN_tn (ns : List LN) : zbY (ns.map LN.tn) = ns.map LN.s := by
 unfold zbY
 induction ns with
 | nil => rfl
 | cons x l ih => simp only [List.map_cons, List.flatMap_cons, ih]; rfl
theorem key_s {ns : List LN} {l : List (Nat × Nat)} (h : ns.map LN.key = l) : ns.map LN.s = l.map Prod.fst := by
 rw [← h, List.map_map]; rfl
theorem sumN_le {ns : List LN} {m : Nat} (h : ∀ x ∈ ns, x.c ≤ m) : sumN (ns.map LN.tn) ≤ ns.length * m := by
 induction ns with
 | nil => simp [sumN]
 | cons x l ih =>
   have h1 := h x (List.mem_cons_self ..)
   have h2 := ih fun y hy => h y (List.mem_cons_of_mem _ hy)
   simp only [List.map_cons, sumN, List.length_cons, Nat.add_mul]
   show x.c + _ ≤ _
   omega
theorem key_le {ns : List LN} {l : List Int} {k : Nat} (h : ns.map LN.key = zco l k) (hb : ∀ j, j < k → l.getD j 0 ≤ 2147483647) : ∀ x ∈ ns, x.c ≤ 2147483647 := fun x hx => by
 have hm : LN.key x ∈ zco l k := by rw [← h]; exact List.mem_map_of_mem hx
 unfold zco at hm
 obtain ⟨j, hj, he⟩ := List.mem_map.1 hm
 have hj2 := (List.mem_filter.1 hj).1
 have := hb j (by simpa using hj2)
 have hc : (l.getD j 0).toNat = x.c := congrArg Prod.snd he
 omega
theorem key_syms {ns : List LN} {l : List Int} {k : Nat} (h : ns.map LN.key = zco l k) : natV (ns.map LN.s) = (zad l k).map (Value.int .i64) := by
 rw [← zcl, ← h, List.map_map]
 unfold natV
 rw [List.map_map, List.map_map]; rfl
theorem outR_made {w : World} {base bo n : Nat} (h : w.ownsRow base 3 1 (.slice (some ⟨bo, 0, none⟩) n n) n (fl n fun _ => .int .i64 0)) : OutR w bo (List.replicate n 0) := by
 rcases h.2 with ⟨h1, -⟩ | ⟨g, cap, cur, hv, -, hg, -, -, hcs, htk⟩
 · cases h1
 · simp only [Value.slice.injEq, Option.some.injEq, Addr.mk.injEq] at hv
   obtain ⟨⟨rfl, -, -⟩, -, rfl⟩ := hv
   unfold OutR
   rw [hg, natV, List.map_replicate, zcb]
   rw [Nat.mul_one] at hcs htk
   rw [List.take_of_length_le (by rw [Array.length_toList, hcs]; exact Nat.le_refl _)] at htk
   rw [show cur = (fl n fun _ => Value.int .i64 0).toArray from by rw [← htk]]
   rfl
def posR (l : List Int) : List Nat := (List.range l.length).filter fun k => decide (0 < l.getD k 0)
theorem posR_of {l : List Int} {ns : List LN} (h : ns.map LN.key = zco l l.length) : ns.map LN.s = posR l := by
 rw [key_s h]
 unfold zco posR
 rw [List.map_map]
 exact List.map_id' _
theorem zbn (l : List Int) : (posR l).Nodup := List.Pairwise.filter _ List.nodup_range
theorem zdz (l : List Int) (k : Nat) : k ∈ posR l ↔ k < l.length ∧ 0 < l.getD k 0 := by
 unfold posR
 rw [List.mem_filter, List.mem_range, decide_eq_true_eq]
theorem zd8 (l : List Int) : ∀ r ∈ posR l, r < l.length := fun r h => ((zdz l r).1 h).1
theorem zcX (l : List Int) : zad l l.length = (posR l).map fun k : Nat => (k : Int) := rfl
theorem ord_of {l : List Int} {R : Array Int} (hP : PermIn 0 (zad l l.length).toArray.size (zad l l.length).toArray R) (hS : SortedIn (zbb l) 0 (zad l l.length).toArray.size R) :
   ∃ R2 : List Nat, natV R2 = R.toList.map (Value.int .i64) ∧ R2.Perm (posR l) ∧ R2.length = R.size ∧ (∀ i j, (hi : i < R2.length) → (hj : j < R2.length) → i < j → l.getD R2[i] 0 ≤ l.getD R2[j] 0) ∧ R2.Pairwise (leK l) := by
 have hsz : R.size = (zad l l.length).length := by simpa using hP.1
 have hperm : R.toList.Perm (zad l l.length) := by
   have h := hP.2.2
   have e1 : R.extract 0 (zad l l.length).toArray.size = R := by rw [show (zad l l.length).toArray.size = R.size from by simpa using hsz.symm]; simp
   have e2 : (zad l l.length).toArray.extract 0 (zad l l.length).toArray.size = (zad l l.length).toArray := by simp
   rw [e1, e2] at h
   simpa using h
 have hnn : ∀ x ∈ R.toList, 0 ≤ x := fun x hx => by
   obtain ⟨k, -, -, rfl⟩ := zck.1 (hperm.mem_iff.1 hx)
   omega
 refine ⟨R.toList.map Int.toNat, ?_, ?_, by simp, fun i j hi hj hij => ?_, ?_⟩
 · unfold natV
   rw [List.map_map]
   exact List.map_congr_left fun x hx => by
     show Value.int .i64 ((x.toNat : Nat) : Int) = _
     rw [Int.toNat_of_nonneg (hnn x hx)]
 · have h := hperm.map Int.toNat
   rw [zcX, List.map_map] at h
   have e : (posR l).map (Int.toNat ∘ fun k : Nat => (k : Int)) = posR l := List.map_id' _
   rwa [e] at h
 · have hi' : i < R.size := by simpa using hi
   have hj' : j < R.size := by simpa using hj
   have h := hS i j (Nat.zero_le _) hij (by simpa [hsz] using hj')
   rw [getElem!_pos R i hi', getElem!_pos R j hj'] at h
   simp only [zbb, Bool.or_eq_false_iff, Bool.and_eq_false_iff, decide_eq_false_iff_not] at h
   simp only [List.getElem_map, Array.getElem_toList]
   omega
 · rw [List.pairwise_iff_getElem]
   intro i j hi hj hij
   have hi' : i < R.size := by simpa using hi
   have hj' : j < R.size := by simpa using hj
   have h := hS i j (Nat.zero_le _) hij (by simpa [hsz] using hj')
   rw [getElem!_pos R i hi', getElem!_pos R j hj'] at h
   have g1 := hnn R[i] (by simp)
   have g2 := hnn R[j] (by simp)
   unfold leK
   simp only [List.getElem_map, Array.getElem_toList]
   rw [Int.toNat_of_nonneg g1, Int.toNat_of_nonneg g2]
   exact h
theorem one_D {D : List Nat} (h1 : D.length = 1) (h2 : ∀ x ∈ D, 1 ≤ x ∧ x ≤ 1) : D = [1] := by
 match D, h1 with
 | [x], _ => have := h2 x (List.mem_singleton_self _); rw [show x = 1 from by omega]
theorem good_none {l : List Int} {most : Nat} (h : posR l = []) : zbK l most (zad l l.length).length (List.replicate l.length 0) := by
 have h0 : (zad l l.length).length = 0 := by rw [zcX, h]; rfl
 rw [h0]
 exact zea (R := []) (D := []) List.nodup_nil (fun k => by rw [← h]; exact zdz l k) (fun i j hi => by simp at hi) rfl (fun d hd => by simp at hd) (fun i j _ hj => by simp at hj) (by simp [sumW]) (fun h => by simp at h) (fun h => by simp at h)
theorem good_one {l : List Int} {most : Nat} {R D : List Nat} (hp : R.Perm (posR l)) (h1 : R.length = 1) (hD : D.length = R.length) (hd : ∀ x ∈ D, 1 ≤ x ∧ x ≤ R.length) (hm : 1 ≤ most) : zbK l most (zad l l.length).length (rowR l.length R D) := by
 rw [h1] at hd hD
 obtain rfl := one_D hD hd
 have hs : (zad l l.length).length = R.length := by rw [zcX, List.length_map, hp.length_eq]
 rw [hs]
 exact zea (hp.nodup_iff.2 (zbn l)) (fun k => by rw [hp.mem_iff]; exact zdz l k) (fun i j hi hj hij => by omega) (by rw [h1]; rfl) (fun d hd => by rw [List.mem_singleton] at hd; omega) (fun i j hij hj => by
   have hj1 : j < 1 := hj
   have : i = j := by omega
   subst this; exact Nat.le_refl _) (by simp [sumW, zao]) (fun h => by omega) (fun _ d hd => by rw [List.mem_singleton] at hd; omega)
theorem good_many {l : List Int} {most : Nat} {R D E : List Nat} (hp : R.Perm (posR l)) (hS : ∀ i j, (hi : i < R.length) → (hj : j < R.length) → i < j → l.getD R[i] 0 ≤ l.getD R[j] 0) (h2 : 2 ≤ R.length) (hE : E.length = R.length)
   (hP : ∀ d ∈ E, 1 ≤ d ∧ d ≤ most) (hs : sumW E = 32768) (hD : D.Perm E) (hT : ∀ i j, i ≤ j → j < D.length → D.getD j 0 ≤ D.getD i 0) : zbK l most (zad l l.length).length (rowR l.length R D) := by
 have hs2 : (zad l l.length).length = R.length := by rw [zcX, List.length_map, hp.length_eq]
 rw [hs2]
 have hsD : sumW D = 32768 := (zd6 hD).trans hs
 exact zea (hp.nodup_iff.2 (zbn l)) (fun k => by rw [hp.mem_iff]; exact zdz l k) hS (by rw [hD.length_eq, hE]) (fun d hd => hP d (hD.mem_iff.1 hd)) hT (by omega) (fun _ => hsD) (fun h => by omega)
end Go.Proofs.YtngjbhejfojpbaaGreat
namespace Go.Proofs.YtngjbhejfojpbaaGreat
open Go.Sort
def OrdR (l : List Int) (R : List Nat) : Prop := R.Perm (posR l) ∧ R.Pairwise (leK l)
theorem OrdR.one {l : List Int} {R Q : List Nat} (h : OrdR l R) (g : OrdR l Q) : R = Q := zdw R Q (fun _ _ _ _ => leK_anti) h.2 g.2 (h.1.trans g.1.symm)
def DscR (E D : List Nat) : Prop := D.Perm E ∧ D.Pairwise fun a b => b ≤ a
theorem DscR.one {E D C : List Nat} (h : DscR E D) (g : DscR E C) : D = C := zdw D C (fun _ _ _ _ h1 h2 => Nat.le_antisymm h2 h1) h.2 g.2 (h.1.trans g.1.symm)
def depR (n : Nat) (t : HT) (R : List Nat) : List Nat := R.map fun r => (t.lay 0 (List.replicate n 0)).getD r 0
def zdN (l : List Int) (m : Nat) (L : List Nat) : Prop :=
 (posR l = [] ∧ L = List.replicate l.length 0) ∨ (posR l ≠ [] ∧ ∃ (x : Nat × HT) (R : List Nat), zeu ((posR l).map fun k => ((l.getD k 0).toNat, HT.leaf k)) x ∧ OrdR l R ∧
   ((R.length ≤ 1 ∧ L = rowR l.length R (depR l.length x.2 R)) ∨ (1 < R.length ∧ ∃ M D, zaZ m (m * R.length + 1) ((depR l.length x.2 R).map fun y => min y m) = some M ∧ DscR (zak M.reverse (32768 - sumW M)).1.reverse D ∧ L = rowR l.length R D)))
theorem zdN.one {l : List Int} {m : Nat} {L K : List Nat} (h : zdN l m L) (g : zdN l m K) : L = K := by
 rcases h with ⟨h1, rfl⟩ | ⟨h1, x, R, hx, hR, h⟩
 · rcases g with ⟨-, rfl⟩ | ⟨g1, -⟩
   · rfl
   · exact absurd h1 g1
 · rcases g with ⟨g1, -⟩ | ⟨-, y, Q, gx, gQ, g⟩
   · exact absurd g1 h1
   · obtain rfl := hx.det gx
     obtain rfl := hR.one gQ
     rcases h with ⟨h2, rfl⟩ | ⟨h2, M, D, hM, hD, rfl⟩
     · rcases g with ⟨-, rfl⟩ | ⟨g2, -⟩
       · rfl
       · omega
     · rcases g with ⟨g2, -⟩ | ⟨-, M2, D2, gM, gD, rfl⟩
       · omega
       · rw [hM] at gM
         cases gM
         rw [hD.one gD]
theorem keys_pos {l : List Int} {ns : List LN} (h : ns.map LN.key = zco l l.length) : zcq (ns.map LN.tn) = (posR l).map fun k => ((l.getD k 0).toNat, HT.leaf k) := by
 have e1 : zcq (ns.map LN.tn) = (ns.map LN.key).map fun p => (p.2, HT.leaf p.1) := by unfold zcq; rw [List.map_map, List.map_map]; rfl
 rw [e1, h]
 unfold zco posR
 rw [List.map_map]
 rfl
theorem depR_is {n : Nat} {t : HT} {R D : List Nat} (hn : R.Nodup) (hr : ∀ r ∈ R, r < n) (hD : D.length = R.length) (he : t.lay 0 (List.replicate n 0) = rowR n R D) : depR n t R = D := by
 unfold depR
 rw [he]
 refine List.ext_getElem (by simp [hD]) fun i h1 h2 => ?_
 have hi : i < R.length := by simpa using h1
 have h := zee (n := n) hn hD hr hi
 rw [List.getElem_map]
 rw [List.getD_eq_getElem?_getD (l := R), List.getElem?_eq_getElem hi, List.getD_eq_getElem?_getD (l := D), List.getElem?_eq_getElem h2] at h
 exact h
theorem dsc_of {E D : List Nat} (hp : D.Perm E) (hs : ∀ i j, i ≤ j → j < D.length → D.getD j 0 ≤ D.getD i 0) : DscR E D := by
 refine ⟨hp, ?_⟩
 rw [List.pairwise_iff_getElem]
 intro i j hi hj hij
 have h := hs i j (Nat.le_of_lt hij) hj
 rw [List.getD_eq_getElem?_getD, List.getElem?_eq_getElem hj, List.getD_eq_getElem?_getD, List.getElem?_eq_getElem hi] at h
 exact h
end Go.Proofs.YtngjbhejfojpbaaGreat
namespace Go.Proofs.YtngjbhejfojpbaaGreat
def incN (L : List Nat) (k : Nat) : List Nat := L.set k (L.getD k 0 + 1)
theorem zc9 (L : List Nat) (k v j : Nat) : (L.set k v).getD j 0 = if k = j ∧ k < L.length then v else L.getD j 0 := by
 rw [List.getD_eq_getElem?_getD, List.getElem?_set]
 by_cases e : k = j
 · subst e
   by_cases h : k < L.length
   · rw [if_pos rfl, if_pos h, if_pos ⟨rfl, h⟩]; rfl
   · rw [if_pos rfl, if_neg h, if_neg (fun q => h q.2), List.getD_eq_getElem?_getD, List.getElem?_eq_none (by omega)]
 · rw [if_neg e, if_neg (fun q => e q.1), List.getD_eq_getElem?_getD]
theorem zdv (L : List Nat) (k : Nat) : (incN L k).length = L.length := by simp [incN]
theorem incN_at (L : List Nat) (k j : Nat) : (incN L k).getD j 0 = if k = j ∧ k < L.length then L.getD k 0 + 1 else L.getD j 0 := zc9 _ _ _ _
theorem zek (L : List Nat) (k j : Nat) : L.getD j 0 ≤ (incN L k).getD j 0 := by
 rw [incN_at]
 split
 · rename_i h; rw [← h.1]; omega
 · omega
theorem zfc {L : List Nat} {m : Nat} (h : ∀ j, L.getD j 0 ≤ m) (k j : Nat) : (incN L k).getD j 0 ≤ m + 1 := by
 have h1 := h j
 have h2 := h k
 rw [incN_at]
 split <;> omega
theorem zdC {L : List Nat} {k : Nat} (h : k < L.length) : 0 < (incN L k).getD k 0 := by
 rw [incN_at, if_pos ⟨rfl, h⟩]; omega
def cntS (p : List Nat × List Nat) (t : LT) : List Nat × List Nat := if t.len = 0 then (incN p.1 t.b.toNat, p.2) else (incN p.1 (symN t.len), incN p.2 (farN t.far))
def cntV (ts : List LT) : List Nat × List Nat := ts.foldl cntS ((List.replicate 286 0).set 256 1, List.replicate 30 0)
theorem cntV_snoc (ts : List LT) (t : LT) : cntV (ts ++ [t]) = cntS (cntV ts) t := by unfold cntV; rw [List.foldl_append]; rfl
structure CntI (n : Nat) (p : List Nat × List Nat) : Prop where
 la : p.1.length = 286
 lb : p.2.length = 30
 ma : ∀ k, p.1.getD k 0 ≤ n + 1
 mb : ∀ k, p.2.getD k 0 ≤ n
 e : 0 < p.1.getD 256 0
def CntN (p : List Nat × List Nat) (t : LT) : Prop := if t.len = 0 then 0 < p.1.getD t.b.toNat 0 else 0 < p.1.getD (symN t.len) 0 ∧ 0 < p.2.getD (farN t.far) 0
theorem rep_at (n k : Nat) : (List.replicate n 0).getD k 0 = 0 := by
 rw [List.getD_eq_getElem?_getD, List.getElem?_replicate]; split <;> rfl
theorem cnt_zero : CntI 0 (cntV []) := by
 refine ⟨?_, ?_, fun k => ?_, fun k => ?_, ?_⟩
 · show ((List.replicate 286 0).set 256 1).length = 286
   rw [List.length_set, List.length_replicate]
 · show (List.replicate 30 0).length = 30
   rw [List.length_replicate]
 · show ((List.replicate 286 0).set 256 1).getD k 0 ≤ 1
   rw [zc9, rep_at]; split <;> omega
 · show (List.replicate 30 0).getD k 0 ≤ 0
   rw [rep_at]; omega
 · show 0 < ((List.replicate 286 0).set 256 1).getD 256 0
   rw [zc9, if_pos ⟨rfl, by rw [List.length_replicate]; decide⟩]; decide
theorem may_idx {t : LT} (h : t.may) : (t.len = 0 → t.b.toNat < 286) ∧ (t.len ≠ 0 → 3 ≤ t.len ∧ t.len ≤ 258 ∧ 1 ≤ t.far ∧ t.far ≤ 32768 ∧ symN t.len < 286 ∧ farN t.far < 30) := by
 unfold LT.may at h
 by_cases h0 : t.len = 0
 · exact ⟨fun _ => by have := t.b.toNat_lt; omega, fun h => absurd h0 h⟩
 · rw [if_neg h0] at h
   obtain ⟨-, m3, m8, f1, f2⟩ := h
   have y := zcV m3 m8
   have z := zc0 f1 f2
   refine ⟨fun h => absurd h h0, fun _ => ⟨m3, m8, f1, f2, ?_, ?_⟩⟩
   · obtain ⟨y1, y2, -⟩ := y; omega
   · obtain ⟨z1, -⟩ := z; omega
theorem CntI.step {n : Nat} {p : List Nat × List Nat} (h : CntI n p) (t : LT) : CntI (n + 1) (cntS p t) := by
 unfold cntS
 split
 · exact ⟨by rw [zdv]; exact h.la, h.lb, fun k => zfc h.ma _ k, fun k => Nat.le_succ_of_le (h.mb k), Nat.lt_of_lt_of_le h.e (zek _ _ _)⟩
 · exact ⟨by rw [zdv]; exact h.la, by rw [zdv]; exact h.lb, fun k => zfc h.ma _ k, fun k => zfc h.mb _ k, Nat.lt_of_lt_of_le h.e (zek _ _ _)⟩
theorem CntN.step {p : List Nat × List Nat} {t : LT} (h : CntN p t) (u : LT) : CntN (cntS p u) t := by
 have e1 : ∀ k, p.1.getD k 0 ≤ (cntS p u).1.getD k 0 := fun k => by unfold cntS; split <;> exact zek _ _ _
 have e2 : ∀ k, p.2.getD k 0 ≤ (cntS p u).2.getD k 0 := fun k => by
   unfold cntS; split
   · exact Nat.le_refl _
   · exact zek _ _ _
 unfold CntN at h ⊢
 split
 · rename_i h0; rw [if_pos h0] at h; exact Nat.lt_of_lt_of_le h (e1 _)
 · rename_i h0; rw [if_neg h0] at h; exact ⟨Nat.lt_of_lt_of_le h.1 (e1 _), Nat.lt_of_lt_of_le h.2 (e2 _)⟩
theorem CntN.new {n : Nat} {p : List Nat × List Nat} (h : CntI n p) {t : LT} (ht : t.may) : CntN (cntS p t) t := by
 obtain ⟨h1, h2⟩ := may_idx ht
 unfold CntN cntS
 by_cases h0 : t.len = 0
 · rw [if_pos h0, if_pos h0]
   exact zdC (by rw [h.la]; exact h1 h0)
 · rw [if_neg h0, if_neg h0]
   obtain ⟨-, -, -, -, q1, q2⟩ := h2 h0
   exact ⟨zdC (by rw [h.la]; exact q1), zdC (by rw [h.lb]; exact q2)⟩
theorem cnt_all (ts : List LT) (hts : ∀ t ∈ ts, t.may) : ∀ k, k ≤ ts.length → CntI k (cntV (ts.take k)) ∧ ∀ t ∈ ts.take k, CntN (cntV (ts.take k)) t
 | 0, _ => ⟨cnt_zero, fun t h => by simp at h⟩
 | k + 1, hk => by
   obtain ⟨h1, h2⟩ := cnt_all ts hts k (by omega)
   have e : ts.take (k + 1) = ts.take k ++ [ts[k]'hk] := by rw [List.take_add_one, List.getElem?_eq_getElem hk]; rfl
   rw [e, cntV_snoc]
   refine ⟨h1.step _, fun t ht => ?_⟩
   rcases List.mem_append.1 ht with h | h
   · exact (h2 t h).step _
   · rw [List.mem_singleton.1 h]
     exact CntN.new h1 (hts _ (List.getElem_mem _))
def zbu (L : List Nat) : List Nat := (L.set 0 (max (L.getD 0 0) 1)).set 1 (max (L.getD 1 0) 1)
theorem zbt (L : List Nat) : (zbu L).length = L.length := by simp [zbu]
theorem bumpN_at (L : List Nat) (h : 2 ≤ L.length) (k : Nat) : (zbu L).getD k 0 = if k < 2 then max (L.getD k 0) 1 else L.getD k 0 := by
 unfold zbu
 rw [zc9, zc9, List.length_set]
 by_cases h1 : 1 = k
 · subst h1; rw [if_pos ⟨rfl, by omega⟩, if_pos (by omega)]
 · rw [if_neg (fun q => h1 q.1)]
   by_cases h0 : 0 = k
   · subst h0; rw [if_pos ⟨rfl, by omega⟩, if_pos (by omega)]
   · rw [if_neg (fun q => h0 q.1), if_neg (by omega)]
theorem zcI (L : List Nat) (h : 2 ≤ L.length) (k : Nat) : L.getD k 0 ≤ (zbu L).getD k 0 := by
 rw [bumpN_at L h]; split <;> omega
theorem bumpN_le {L : List Nat} (h : 2 ≤ L.length) {m : Nat} (hm : ∀ k, L.getD k 0 ≤ m) (k : Nat) : (zbu L).getD k 0 ≤ m + 1 := by
 have := hm k
 rw [bumpN_at L h]; split <;> omega
def cntR (R : List (Nat × Nat)) : List Nat := R.foldl (fun L x => incN L x.1) (List.replicate 19 0)
theorem cntR_snoc (R : List (Nat × Nat)) (x : Nat × Nat) : cntR (R ++ [x]) = incN (cntR R) x.1 := by unfold cntR; rw [List.foldl_append]; rfl
theorem cntR_all (R : List (Nat × Nat)) (hR : ∀ x ∈ R, x.1 < 19) : ∀ k, k ≤ R.length → (cntR (R.take k)).length = 19 ∧ (∀ j, (cntR (R.take k)).getD j 0 ≤ k) ∧ ∀ x ∈ R.take k, 0 < (cntR (R.take k)).getD x.1 0
 | 0, _ => ⟨rfl, fun j => by show (List.replicate 19 0).getD j 0 ≤ 0; rw [rep_at]; omega, fun t h => by simp at h⟩
 | k + 1, hk => by
   obtain ⟨h1, h2, h3⟩ := cntR_all R hR k (by omega)
   have e : R.take (k + 1) = R.take k ++ [R[k]'hk] := by rw [List.take_add_one, List.getElem?_eq_getElem hk]; rfl
   rw [e, cntR_snoc]
   refine ⟨by rw [zdv]; exact h1, fun j => zfc h2 _ j, fun x hx => ?_⟩
   rcases List.mem_append.1 hx with h | h
   · exact Nat.lt_of_lt_of_le (h3 x h) (zek _ _ _)
   · rw [List.mem_singleton.1 h]
     exact zdC (by rw [h1]; exact hR _ (List.getElem_mem _))
theorem CntN.bump {p : List Nat × List Nat} {t : LT} (h : CntN p t) (h1 : 2 ≤ p.1.length) (h2 : 2 ≤ p.2.length) : CntT (iL (zbu p.1)) (iL (zbu p.2)) t := by
 unfold CntN at h
 unfold CntT
 split
 · rename_i h0; rw [if_pos h0] at h; rw [zaN]; have := zcI p.1 h1 t.b.toNat; omega
 · rename_i h0; rw [if_neg h0] at h; rw [zaN, zaN]
   have q1 := zcI p.1 h1 (symN t.len)
   have q2 := zcI p.2 h2 (farN t.far)
   exact ⟨by omega, by omega⟩
def DynX (ts : List LT) (la lb own c : List Nat) (R : List (Nat × Nat)) : Prop :=
 ∃ A B, zdN (iL (zbu (cntV ts).1)) 15 A ∧ zdN (iL (zbu (cntV ts).2)) 15 B ∧ la = zaB A 257 ∧ lb = zaB B 1 ∧ R = zbe (la ++ lb).length (la ++ lb) ∧ zdN (iL (zbu (cntR R))) 7 c ∧ own = zaB (ownV c) 4
theorem DynX.one {ts : List LT} {la lb own c la2 lb2 own2 c2 : List Nat} {R R2 : List (Nat × Nat)} (h : DynX ts la lb own c R) (g : DynX ts la2 lb2 own2 c2 R2) : la = la2 ∧ lb = lb2 ∧ own = own2 ∧ c = c2 ∧ R = R2 := by
 obtain ⟨A, B, h1, h2, rfl, rfl, rfl, h3, rfl⟩ := h
 obtain ⟨A2, B2, g1, g2, rfl, rfl, rfl, g3, rfl⟩ := g
 obtain rfl := h1.one g1
 obtain rfl := h2.one g2
 obtain rfl := h3.one g3
 exact ⟨rfl, rfl, rfl, rfl, rfl⟩
def PartX (kind : Nat) (last : Bool) (b : List UInt8) (Z : List Bool) : Prop :=
 kind = 0 ∨ (kind = 1 ∧ Z = fixB last (zfd b)) ∨ (kind = 2 ∧ ∃ la lb own c R, DynX (zfd b) la lb own c R ∧ Z = zbh last la lb own c R (zfd b))
theorem part_one {p kind : Nat} {last : Bool} {b : List UInt8} {Y Z : List Bool} (h : zdj p kind last b Y ∧ PartX kind last b Y) (g : zdj p kind last b Z ∧ PartX kind last b Z) : Y = Z := by
 obtain ⟨h1, h2⟩ := h
 obtain ⟨g1, g2⟩ := g
 rcases h2 with rfl | ⟨rfl, rfl⟩ | ⟨rfl, la, lb, own, c, R, hd, rfl⟩
 · rcases h1 with ⟨-, -, rfl⟩ | ⟨h1, -⟩ | ⟨h1, -⟩
   · rcases g1 with ⟨-, -, rfl⟩ | ⟨g1, -⟩ | ⟨g1, -⟩
     · rfl
     · cases g1
     · cases g1
   · cases h1
   · cases h1
 · rcases g2 with g2 | ⟨-, rfl⟩ | ⟨g2, -⟩
   · cases g2
   · rfl
   · cases g2
 · rcases g2 with g2 | ⟨g2, -⟩ | ⟨-, la2, lb2, own2, c2, R2, gd, rfl⟩
   · cases g2
   · cases g2
   · obtain ⟨rfl, rfl, rfl, rfl, rfl⟩ := hd.one gd
     rfl
def zcp (b : List UInt8) (kind n : Nat) : Prop := ∃ Z, (zdj 0 kind true b Z ∧ PartX kind true b Z) ∧ n = (Z.length + 7) / 8
theorem zcp.one {b : List UInt8} {kind n m : Nat} (h : zcp b kind n) (g : zcp b kind m) : n = m := by
 obtain ⟨Y, hY, rfl⟩ := h
 obtain ⟨Z, hZ, rfl⟩ := g
 rw [part_one hY hZ]
theorem zcp.stored {b : List UInt8} {n : Nat} (h : zcp b 0 n) : n = b.length + 5 := by
 obtain ⟨Z, ⟨h1, -⟩, rfl⟩ := h
 rcases h1 with ⟨-, -, rfl⟩ | ⟨h1, -⟩ | ⟨h1, -⟩
 · unfold stoB
   simp only [List.length_append, zaj, zac, zbv, List.length_replicate]
   omega
 · cases h1
 · cases h1
end Go.Proofs.YtngjbhejfojpbaaGreat
namespace Go.Proofs.YtngjbhejfojpbaaGreat
open Go.RowKit Go.Sort
theorem tokB_le {l d : List Int} (hl : ∀ s, lenN l s ≤ 15) (hd : ∀ s, lenN d s ≤ 15) {ts : List LT} (h : ∀ t ∈ ts, t.may) : (tokB l d ts).length ≤ 60 * ts.length + 15 := by
 rw [zfr, List.length_append, zap]
 have := tokC_le hl hd h
 have := hl 256
 omega
theorem fixB_le (last : Bool) {ts : List LT} (h : ∀ t ∈ ts, t.may) : (fixB last ts).length ≤ 60 * ts.length + 18 := by
 unfold fixB
 rw [List.length_append, zaj]
 have := tokB_le (zcw (zar zc2).2.2.1) (zcw (zar zcP).2.2.1) h
 omega
theorem stoB_le (p : Nat) (last : Bool) (b : List UInt8) : (stoB p last b).length ≤ 8 * b.length + 60 := by
 unfold stoB
 simp only [List.length_append, zaj, zac, zbv, List.length_replicate]
 omega
def zdc (w : World) (S : Nat → Prop) (wb : Nat) (B : List Bool) (kind : Nat) (last : Bool) (b : List UInt8) (e : Ending) (w' : World) : Prop :=
 e = .returned (.tuple #[]) ∧ ∃ Z, (zdj B.length kind last b Z ∧ PartX kind last b Z) ∧ Z.length ≤ 60 * b.length + 8000 ∧ zab w S wb false (B ++ Z) w'
def zfm : Prop := ∀ (w : World) (S : Nat → Prop) (wb cap : Nat) (a : Option Addr) (B : List Bool) (ts : List LT) (last : Bool) (b : List UInt8), WrQ w S wb false B → Row w 3 a ts.length cap (tokV ts) → (∀ x, a = some x → ¬ S x.block) → (∀ x, a = some x → x.block < w.heap.size) →
 (expT ts [] = some b ∧ ts = zfd b) → ts.length ≤ b.length → b.length ≤ 65535 → B.length < 34359738368 → Calls Tryz.prog 21 #[wrA wb, .slice a ts.length cap, .bool last] w (zdc w S wb B 2 last b)
theorem part_any {w : World} {S : Nat → Prop} {wb n cap kind : Nat} {a : Option Addr} {B : List Bool} {b : List UInt8} (last : Bool) (hk : kind ≤ 2) (hd : kind = 2 → zfm) (h : WrQ w S wb false B) (hr : Row w 1 a n cap (b.map fun x => .int .u8 x.toNat)) (ha : ∀ x, a = some x → ¬ S x.block)
   (hal : ∀ x, a = some x → x.block < w.heap.size) (hb : n ≤ 65535) (hlt : B.length < 34359738368) :
   Calls Tryz.prog 11 #[wrA wb, .slice a n cap, .int .i64 kind, .bool last] w (zdc w S wb B kind last b) := by
 have hl : b.length = n := by have := hr.1; simpa using this
 have hc : (w.alloc (.cells #[.pointer (some ⟨wb, 0, none⟩)] 34)).cell? ⟨w.heap.size, 0, none⟩ = some (.pointer (some ⟨wb, 0, none⟩)) := by
   rw [cell_of_row _ _ 0 _ _ _ (heap_alloc_new w _)]; rfl
 have hno : ¬ S w.heap.size := h.out
 have HQ := Lib.hid (h.alloc (.cells #[.pointer (some ⟨wb, 0, none⟩)] 34))
 have HE := Lib.hid (fun (B' : List Bool) (w' : World) (hn : zab (w.alloc (.cells #[.pointer (some ⟨wb, 0, none⟩)] 34)) S wb false B' w') => zab.trans (S := S) ((zaa.refl S w).alloc (.cells #[.pointer (some ⟨wb, 0, none⟩)] 34)) (fun b hb => .inl hb) hn)
 have HR := Lib.hid (hr.mono (zam w (.cells #[.pointer (some ⟨wb, 0, none⟩)] 34)))
 have hs0 : (w.alloc (.cells #[.pointer (some ⟨wb, 0, none⟩)] 34)).heap.size = w.heap.size + 1 := zae _ _
 have HSL := Lib.hid (fun b (hb : S b) => (h.lt b hb).2)
 have HA := Lib.hid ha
 have HAL := Lib.hid hal
 have HX := Lib.hid hno
 have HL := Lib.hid hl
 have HD := Lib.hid hd
 have hcapm := hr.2.2.1
 have hcapn := hr.2.1
 unfold maxLen at hcapm
 clear h hr ha hal hno hl hd
 have hk3 : kind = 0 ∨ kind = 1 ∨ kind = 2 := by omega
 rcases hk3 with rfl | rfl | rfl
 · have HST := Lib.hid (by
     have h := stored_any (a := a) (cap := cap) (b := b) last HQ.out (by rw [HL.out]; exact HR.out) HA.out (by rw [HL.out]; exact hb) (by omega)
     rw [HL.out] at h
     exact h)
   unfold wrA at HST ⊢
   go_enter Tryz.func11, Tryz.ntmps11
   go_wp2_with fail
   refine HST.out.mono ?_
   rintro e w1 ⟨rfl, hn1⟩
   have HEND := Lib.hid (show zdc w S wb B 0 last b (.returned (.tuple #[])) w1 from ⟨rfl, _, ⟨.inl ⟨rfl, by rw [HL.out]; exact hb, rfl⟩, .inl rfl⟩, Nat.le_trans (stoB_le _ _ _) (by omega), HE.out _ _ hn1⟩)
   clear hn1 HST
   go_wp2_with fail
   go_end0
   exact HEND.out
 · have HTK := Lib.hid (show ∀ w', Below (w.alloc (.cells #[.pointer (some ⟨wb, 0, none⟩)] 34)).heap.size (w.alloc (.cells #[.pointer (some ⟨wb, 0, none⟩)] 34)) w' → Calls Tryz.prog 20 #[.slice a n cap] w' (TokEnd b w') from
     fun w' hb' => zdO (HR.out.mono hb') (fun x hx => by have := HAL.out x hx; have := hb'.size; omega) (by omega))
   have HFX := Lib.hid (show ∀ w' w1 (ts : List LT) (aT : Option Addr) (cT : Nat), Below (w.alloc (.cells #[.pointer (some ⟨wb, 0, none⟩)] 34)).heap.size (w.alloc (.cells #[.pointer (some ⟨wb, 0, none⟩)] 34)) w' → Below w'.heap.size w' w1 → Row w1 3 aT ts.length cT (tokV ts) → (∀ x, aT = some x → w'.heap.size ≤ x.block ∧ x.block < w1.heap.size) → (expT ts [] = some b ∧ ts = zfd b) → ts.length ≤ b.length →
       Calls Tryz.prog 19 #[wrA wb, .slice aT ts.length cT, .bool last] w1 (fun e w2 => e = .returned (.tuple #[]) ∧ zdc w S wb B 1 last b (.returned (.tuple #[])) w2) from
     fun w' w1 ts aT cT hb1 hb2 hrT haT heT hlT => by
       have hs1 := hb1.size
       have hs2 := hb2.size
       have hb12 : Below (w.alloc (.cells #[.pointer (some ⟨wb, 0, none⟩)] 34)).heap.size (w.alloc (.cells #[.pointer (some ⟨wb, 0, none⟩)] 34)) w1 := hb1.trans (hb2.mono hs1)
       have q1 := HQ.out.blw hb12
       have hln := HL.out
       have hnS : ∀ x, aT = some x → ¬ S x.block := fun x hx hS => by have := HSL.out _ hS; have := (haT x hx).1; omega
       refine (fixed_blk last q1 hrT hnS (fun x hx => (haT x hx).2) (zbS heT.1) (by omega) (by omega)).mono ?_
       rintro e w2 ⟨rfl, hn2⟩
       refine ⟨rfl, rfl, fixB last ts, ⟨.inr (.inl ⟨rfl, ts, heT.1, rfl⟩), .inr (.inl ⟨rfl, congrArg (fixB last) heT.2⟩)⟩, Nat.le_trans (fixB_le last (zbS heT.1)) (by omega), HE.out _ _ (zab.trans (S := S) (zaa.of_below2 hb12) (fun b hb => .inl hb) hn2)⟩)
   unfold wrA at HFX
   unfold wrA
   go_enter Tryz.func11, Tryz.ntmps11
   go_upto_region 5 with fail
   generalize (w.alloc (.cells #[.pointer (some ⟨wb, 0, none⟩)] 34)) = w0 at HTK HFX HQ HE HR hs0 hc ⊢
   have hw0 : w.heap.size < w0.heap.size := by omega
   go_region_with (first
     | (go_at_call 20; refine (HTK.out _ ((Below.refl _ _).drew)).mono ?_; rintro e w1 ⟨hb1, ts, aT, cT, rfl, hrT, haT, heT, hlT⟩; have HET := Lib.hid heT; clear heT; have hc1 : w1.cell? ⟨w.heap.size, 0, none⟩ = some (.pointer (some ⟨wb, 0, none⟩)) := zag hb1 hw0 hc)
     | (go_at_call 19; refine (HFX.out _ _ ts aT cT ((Below.refl _ _).drew) hb1 hrT haT HET.out hlT).mono ?_; rintro e w2 ⟨rfl, hend⟩))
   all_goals (go_wp2; go_end0; exact hend)
 · have HTK := Lib.hid (show ∀ w', Below (w.alloc (.cells #[.pointer (some ⟨wb, 0, none⟩)] 34)).heap.size (w.alloc (.cells #[.pointer (some ⟨wb, 0, none⟩)] 34)) w' → Calls Tryz.prog 20 #[.slice a n cap] w' (TokEnd b w') from
     fun w' hb' => zdO (HR.out.mono hb') (fun x hx => by have := HAL.out x hx; have := hb'.size; omega) (by omega))
   have HFX := Lib.hid (show ∀ w' w1 (ts : List LT) (aT : Option Addr) (cT : Nat), Below (w.alloc (.cells #[.pointer (some ⟨wb, 0, none⟩)] 34)).heap.size (w.alloc (.cells #[.pointer (some ⟨wb, 0, none⟩)] 34)) w' → Below w'.heap.size w' w1 → Row w1 3 aT ts.length cT (tokV ts) → (∀ x, aT = some x → w'.heap.size ≤ x.block ∧ x.block < w1.heap.size) → (expT ts [] = some b ∧ ts = zfd b) → ts.length ≤ b.length →
       Calls Tryz.prog 21 #[wrA wb, .slice aT ts.length cT, .bool last] w1 (fun e w2 => e = .returned (.tuple #[]) ∧ zdc w S wb B 2 last b (.returned (.tuple #[])) w2) from
     fun w' w1 ts aT cT hb1 hb2 hrT haT heT hlT => by
       have hs1 := hb1.size
       have hs2 := hb2.size
       have hb12 : Below (w.alloc (.cells #[.pointer (some ⟨wb, 0, none⟩)] 34)).heap.size (w.alloc (.cells #[.pointer (some ⟨wb, 0, none⟩)] 34)) w1 := hb1.trans (hb2.mono hs1)
       have q1 := HQ.out.blw hb12
       have hln := HL.out
       have hnS : ∀ x, aT = some x → ¬ S x.block := fun x hx hS => by have := HSL.out _ hS; have := (haT x hx).1; omega
       refine (HD.out rfl w1 S wb cT aT B ts last b q1 hrT hnS (fun x hx => (haT x hx).2) heT hlT (by omega) hlt).mono ?_
       rintro e w2 ⟨rfl, Z, hZ, hZl, hn2⟩
       refine ⟨rfl, rfl, Z, hZ, hZl, HE.out _ _ (zab.trans (S := S) (zaa.of_below2 hb12) (fun b hb => .inl hb) hn2)⟩)
   unfold wrA at HFX
   unfold wrA
   go_enter Tryz.func11, Tryz.ntmps11
   go_upto_region 7 with fail
   generalize (w.alloc (.cells #[.pointer (some ⟨wb, 0, none⟩)] 34)) = w0 at HTK HFX HQ HE HR hs0 hc ⊢
   have hw0 : w.heap.size < w0.heap.size := by omega
   go_region_with (first
     | (go_at_call 20; refine (HTK.out _ ((Below.refl _ _).drew)).mono ?_; rintro e w1 ⟨hb1, ts, aT, cT, rfl, hrT, haT, heT, hlT⟩; have HET := Lib.hid heT; clear heT; have hc1 : w1.cell? ⟨w.heap.size, 0, none⟩ = some (.pointer (some ⟨wb, 0, none⟩)) := zag hb1 hw0 hc)
     | (go_at_call 21; refine (HFX.out _ _ ts aT cT ((Below.refl _ _).drew) hb1 hrT haT HET.out hlT).mono ?_; rintro e w2 ⟨rfl, hend⟩))
   all_goals (go_wp2; go_end0; exact hend)
def PackEnd (w : World) (b : List UInt8) (kind : Nat) (e : Ending) (w' : World) : Prop :=
 Below w.heap.size w w' ∧ ∃ (bs : List UInt8) (v : Value) (Z : List Bool), e = .returned v ∧ w'.ownsRow w.heap.size 5 1 v bs.length (bs.map fun b => .int .u8 b.toNat) ∧ (zdj 0 kind true b Z ∧ PartX kind true b Z) ∧ zbi bs false Z ∧ Z.length ≤ 60 * b.length + 8000
theorem pack_any {w : World} {n cap kind cb : Nat} {a : Option Addr} {b : List UInt8} (hk : kind ≤ 2) (hd : kind = 2 → zfm) (hr : Row w 1 a n cap (b.map fun x => .int .u8 x.toNat)) (hal : ∀ x, a = some x → x.block < w.heap.size)
   (hc : w.cell? ⟨cb, 0, none⟩ = some (.slice a n cap)) (hb : n ≤ 65535) :
   Calls Tryz.prog 9 #[.int .i64 kind, .pointer (some ⟨cb, 0, none⟩)] w (PackEnd w b kind) := by
 have HR := Lib.hid hr
 have HAL := Lib.hid hal
 have hl : b.length = n := by have := hr.1; simpa using this
 have HL := Lib.hid hl
 have HD := Lib.hid hd
 have HNW := Lib.hid (new_wr false w)
 have hcb : cb < w.heap.size := World.block_lt_of_cell? w _ hc
 clear hr hal hl hd
 go_enter Tryz.func9, Tryz.ntmps9
 go_wp2_with fail
 refine HNW.out.mono ?_
 rintro e w1 ⟨rfl, hq1, hb1, hs1⟩
 have hc1 := zag hb1 hcb hc
 have hbA := zam w1 (.cells #[.pointer (some ⟨w.heap.size, 0, none⟩)] 34)
 have hc2 := cell?_keep hbA hc1
 have hq2 := hq1.alloc (.cells #[.pointer (some ⟨w.heap.size, 0, none⟩)] 34)
 have ht2 : (w1.alloc (.cells #[.pointer (some ⟨w.heap.size, 0, none⟩)] 34)).cell? ⟨w1.heap.size, 0, none⟩ = some (.pointer (some ⟨w.heap.size, 0, none⟩)) := by
   rw [cell_of_row _ _ 0 _ _ _ (heap_alloc_new w1 _)]; rfl
 have HB2 := Lib.hid (show Below w.heap.size w (w1.alloc (.cells #[.pointer (some ⟨w.heap.size, 0, none⟩)] 34)) from hb1.alloc hb1.size _)
 have hs2 := zae w1 (.cells #[.pointer (some ⟨w.heap.size, 0, none⟩)] 34)
 have HQ2 := Lib.hid hq2
 clear hb1 hq1 hbA hq2 hc hc1
 go_upto_region 2 with fail
 rw [hs1] at ht2 hs2
 obtain ⟨tb, htb⟩ : ∃ tb, tb = w.heap.size + 1 := ⟨_, rfl⟩
 rw [← htb] at ht2 hs2 ⊢
 generalize w1.alloc (.cells #[.pointer (some ⟨w.heap.size, 0, none⟩)] 34) = w2 at HB2 HQ2 hc2 ht2 hs2 ⊢
 obtain ⟨wb, hwb⟩ : ∃ wb, wb = w.heap.size := ⟨_, rfl⟩
 rw [← hwb] at ht2 HQ2 ⊢
 have HPT := Lib.hid (part_any (wb := wb) (n := n) (cap := cap) (kind := kind) (a := a) (B := []) (b := b) true hk HD.out HQ2.out (HR.out.mono HB2.out) (fun x hx h => by have := HAL.out x hx; omega) (fun x hx => by have := HAL.out x hx; have := HB2.out.size; omega) hb (by simp))
 unfold wrA at HPT
 have HWB := Lib.hid hwb
 have HTB := Lib.hid htb
 clear hwb htb
 go_upto_region 3 with fail
 refine HPT.out.mono ?_
 rintro e w3 ⟨rfl, Z, hZ, hZl, hn3⟩
 have ht3 := hn3.cell ht2 (by have := HWB.out; have := HTB.out; omega)
 rw [List.nil_append] at hn3
 obtain ⟨S3, q3, k3, s3⟩ := hn3
 have hb3 : Below w.heap.size w w3 := HB2.out.trans (k3.below HB2.out.size (fun b hb => by have := HWB.out; omega))
 have HBY := Lib.hid (wbytes_any wb false Z S3 w3 q3 (by have := HL.out; omega))
 have HB3 := Lib.hid hb3
 have HZ := Lib.hid (And.intro hZ hZl)
 clear hZ hZl q3 k3 s3 hb3 HPT HQ2 HNW hc2 ht2
 go_wp2_with fail
 refine HBY.out.mono ?_
 rintro e w4 ⟨bs, v, hw, rfl, hO, hb4⟩
 have HEND := Lib.hid (show PackEnd w b kind (.returned v) w4 from ⟨HB3.out.trans (hb4.mono HB3.out.size), bs, v, Z, rfl, zaD hO HB3.out.size, HZ.out.1, hw, HZ.out.2⟩)
 clear hw hO hb4 HBY
 go_wp2_with fail
 go_ret
 exact HEND.out
end Go.Proofs.YtngjbhejfojpbaaGreat
