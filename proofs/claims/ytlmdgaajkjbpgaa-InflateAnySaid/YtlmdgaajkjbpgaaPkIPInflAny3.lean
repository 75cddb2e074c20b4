/-
  Our texts Rd5 to Rd5, in one.
-/
import Derived.Test.YtlmdgaajkjbpgaaPkIPInflAny2
/-
  Walks of the reference of layer 5: a block by codes.
-/
namespace Go.Proofs.Ytlmdgaajkjbpgaa
open Go.RowKit Go.Sort

theorem codedO_e {bs : List UInt8} {most : Nat} {l d : List Int} {g : Nat} {s s' : IS} (he : s.e ≠ 0) (h : codedO bs most l d g s = some s') : s' = s := by
  cases g with
  | zero => cases h
  | succ g =>
    unfold codedO at h
    rw [code_e he] at h
    cases h; rfl
theorem sym_at {bs : List UInt8} {l : List Int} {s : IS} (he : s.e = 0) (h : (symV5 bs l s).2.e = 0) : s.at_ + 1 ≤ (symV5 bs l s).2.at_ := by
  have hn0 : ¬ s.e ≠ 0 := by simp [he]
  unfold symV5 at h ⊢
  simp only [if_neg hn0] at h ⊢
  have h2 := takeGo_ge (l := l) (f := bitF bs s.at_) (left := 8 * bs.length - s.at_) 15 1 (Nat.le_refl _) h
  unfold takeV
  omega
set_option maxRecDepth 20000 in
theorem MO.code (bs : List UInt8) (most : Nat) (l d : List Int) (s : IS) : MO (symV5 bs l s).2 (codeV bs most l d s).2 := by
  unfold codeV
  simp only
  split
  · exact MO.refl _
  · split
    · exact MO.put _ _ _
    · exact (((((MO.ifF _ _).trans (MO.num bs _ _)).trans (MO.sym bs d _)).trans (MO.ifF _ _)).trans (MO.num bs _ _)).trans (MO.rep _ _ _ _)
theorem code_at {bs : List UInt8} {most : Nat} {l d : List Int} {s : IS} (he : s.e = 0) (h : (codeV bs most l d s).2.e = 0) : s.at_ + 1 ≤ (codeV bs most l d s).2.at_ := by
  have h1 := MO.code bs most l d s h
  have h2 := sym_at he h1.1
  omega
set_option maxRecDepth 20000 in
theorem code_le {bs : List UInt8} {most : Nat} {l d : List Int} {s : IS} (hl : s.out.length ≤ most) : (codeV bs most l d s).2.out.length ≤ most := by
  have h : codedO bs most l d 1 s = some (codeV bs most l d s).2 ∨ True := .inr trivial
  have fo : ∀ (c : Bool) (s : IS), (if c = true then s else failV 11 s).out = s.out := fun c s => by cases c <;> simp [failV_o]
  unfold codeV
  simp only
  split
  · rw [symV_o]; exact hl
  · split
    · exact putV5_le (by rw [symV_o]; exact hl)
    · refine repV_le ?_
      rw [numV_o, fo, symV_o, numV_o, fo, symV_o]
      exact hl
theorem cdr_mk {w0 w1 : World} {U : Nat → Prop} {al : Option Addr} {n cap : Nat} {v : Value} {l : List Int} (hU : ∀ b, U b → b < w0.heap.size) (room : 0 ≤ roomV l) (hO : w1.ownsRow w0.heap.size 69 1 v n (fl n (cdV l n))) (hr : Row w1 1 al n cap (l.map (Value.int .i64))) (ha : ∀ x, al = some x → x.block < w1.heap.size ∧ ¬ U x.block) : CdR w1 U al n cap v l := by
  obtain ⟨aC, cC, hv, hrow, -⟩ := Row.of_owns hO
  refine ⟨room, hr, ⟨aC, cC, hv, hrow, fun x hx => ?_⟩, ha⟩
  have := hO.lt x.block (by rw [hv, hx]; rfl)
  exact ⟨this.2, fun hu => by have := hU _ hu; omega⟩
/-- The state of a pass, so far. -/
structure RMid (w wr : World) (U U1 : Nat → Prop) (rb : Nat) (a : Option Addr) (c : Nat) (bs : List UInt8) (most : Nat) (al : Option Addr) (nl cl : Nat) (v1 : Value) (l : List Int) (ad : Option Addr) (nd cd : Nat) (v2 : Value) (d : List Int) (s : IS) : Prop where
  st : IsR wr U1 rb a c bs most s
  k : Keeps U w wr
  u : ∀ b, U1 b → U b ∨ w.heap.size ≤ b
  t : s.e = 0 → CdR wr U1 al nl cl v1 l
  d : s.e = 0 → CdR wr U1 ad nd cd v2 d
  o : s.out.length ≤ most
theorem RMid.next {w wr w' : World} {U U1 : Nat → Prop} {rb : Nat} {a : Option Addr} {c : Nat} {bs : List UInt8} {most : Nat} {al : Option Addr} {nl cl : Nat} {v1 : Value} {l : List Int} {ad : Option Addr} {nd cd : Nat} {v2 : Value} {d : List Int} {s s2 : IS} (h : RMid w wr U U1 rb a c bs most al nl cl v1 l ad nd cd v2 d s) (h1 : IsR w' U1 rb a c bs most s2) (h2 : Keeps U1 wr w') (he : s2.e = 0 → s.e = 0) (ho : s2.out.length ≤ most) : RMid w w' U U1 rb a c bs most al nl cl v1 l ad nd cd v2 d s2 :=
  ⟨h1, h.k.trans h2 h.u, h.u, fun h0 => (h.t (he h0)).keeps h2 (fun _ hb => .inl hb), fun h0 => (h.d (he h0)).keeps h2 (fun _ hb => .inl hb), ho⟩
theorem RMid.nextU {w wr w' : World} {U U1 : Nat → Prop} {rb : Nat} {a : Option Addr} {c : Nat} {bs : List UInt8} {most : Nat} {al : Option Addr} {nl cl : Nat} {v1 : Value} {l : List Int} {ad : Option Addr} {nd cd : Nat} {v2 : Value} {d : List Int} {s s2 : IS} (h : RMid w wr U U1 rb a c bs most al nl cl v1 l ad nd cd v2 d s) (h1 : RNext wr U1 rb a c bs most s2 w') (he : s2.e = 0 → s.e = 0) (ho : s2.out.length ≤ most) : ∃ U2, RMid w w' U U2 rb a c bs most al nl cl v1 l ad nd cd v2 d s2 := by
  obtain ⟨U2, g1, g2, g3⟩ := h1
  have := h.k.size
  exact ⟨U2, g1, h.k.trans g2 h.u, fun b hb => (g3 b hb).elim (h.u b) (fun h => .inr (by omega)), fun h0 => (h.t (he h0)).keeps g2 g3, fun h0 => (h.d (he h0)).keeps g2 g3, ho⟩
/-- So far, of bytes that stand ahead. -/
def RrAt (w wr : World) (U : Nat → Prop) (rb : Nat) (a : Option Addr) (c : Nat) (bs : List UInt8) (most : Nat) (s : IS) (far len j : Nat) : Prop :=
  ∃ U1 s1, IsR wr U1 rb a c bs most s1 ∧ Keeps U w wr ∧ (∀ b, U1 b → U b ∨ w.heap.size ≤ b) ∧ s1.e = s.e ∧ s1.at_ = s.at_ ∧ s1.out.length = s.out.length + j ∧ repL far (len - j) s1.out = repL far len s.out
theorem RrAt.fin {w wr : World} {U : Nat → Prop} {rb : Nat} {a : Option Addr} {c : Nat} {bs : List UInt8} {most : Nat} {s : IS} {far len : Nat} (h : RrAt w wr U rb a c bs most s far len len) : RNext w U rb a c bs most { s with out := repL far len s.out } wr := by
  obtain ⟨U1, s1, h1, h2, h3, h4, h5, h6, h7⟩ := h
  rw [Nat.sub_self] at h7
  have : s1 = { s with out := repL far len s.out } := by
    obtain ⟨a, e, o⟩ := s1
    simp only at h4 h5
    simp only [repL] at h7
    rw [h4, h5, h7]
  rw [← this]
  exact ⟨U1, h1, h2, h3⟩
theorem RrAt.next {w wr w' : World} {U U1 : Nat → Prop} {rb : Nat} {a : Option Addr} {c : Nat} {bs : List UInt8} {most : Nat} {s s1 : IS} {far len j : Nat} (h2 : Keeps U w wr) (h3 : ∀ b, U1 b → U b ∨ w.heap.size ≤ b) (h4 : s1.e = s.e) (h5 : s1.at_ = s.at_) (h6 : s1.out.length = s.out.length + j) (h7 : repL far (len - j) s1.out = repL far len s.out) (hj : j < len)
    (hn : RNext wr U1 rb a c bs most { s1 with out := s1.out ++ [s1.out.getD (s1.out.length - far) 0] } w') : RrAt w w' U rb a c bs most s far len (j + 1) := by
  obtain ⟨U2, g1, g2, g3⟩ := RNext.trans h2 h3 hn
  refine ⟨U2, _, g1, g2, g3, h4, h5, by simp; omega, ?_⟩
  rw [← h7, show len - j = (len - (j + 1)) + 1 by omega]
  rfl

set_option maxRecDepth 100000 in
set_option maxHeartbeats 8000000 in
theorem rcoded_any {w : World} {U : Nat → Prop} {rb : Nat} {a : Option Addr} {c : Nat} {bs : List UInt8} {most : Nat} {s s' : IS} (h : IsR w U rb a c bs most s) {al : Option Addr} {nl cl : Nat} {l : List Int} {ad : Option Addr} {nd cd : Nat} {d : List Int} (hl : Row w 1 al nl cl (l.map (Value.int .i64))) (hd : Row w 1 ad nd cd (d.map (Value.int .i64))) (hal : ∀ x, al = some x → x.block < w.heap.size ∧ ¬ U x.block) (had : ∀ x, ad = some x → x.block < w.heap.size ∧ ¬ U x.block)
    (hl3 : l.length ≤ 320) (hd3 : d.length ≤ 320) (hm : most ≤ 20000000) (ho : s.out.length ≤ most) (hsm : bs.length ≤ 1000000) (g : Nat) (hg : codedO bs most l d g (tabV d (tabV l s)) = some s') :
    Calls Try.prog 25 #[.pointer (some ⟨rb, 0, none⟩), .slice al nl cl, .slice ad nd cd] w fun x w' => x = .returned (.tuple #[]) ∧ RNext w U rb a c bs most s' w' := by
  have HT1 := Lib.hid (rcod_any h hl)
  have HU := Lib.hid (fun b (hb : U b) => h.blt hb)
  have HLR := Lib.hid hl
  have HDR := Lib.hid hd
  have HAL := Lib.hid hal
  have HAD := Lib.hid had
  have HG := Lib.hid hg
  have HO := Lib.hid ho
  clear h hl hd hal had hg ho
  go_enter Try.func25, Try.ntmps25
  go_wp2_with fail
  refine HT1.out.mono ?_
  rintro e w1 ⟨v1, rfl, p1, k1, t1⟩
  have HT2 := Lib.hid (rcod_any p1 (HDR.out.keeps k1 (fun x hx => (HAD.out x hx).2)))
  have HK1 := Lib.hid k1
  have HR1 := Lib.hid t1
  clear p1 k1 t1
  go_wp2_with fail
  refine HT2.out.mono ?_
  rintro e w2 ⟨v2, rfl, p2, k2, t2⟩
  have HK2 := Lib.hid (HK1.out.trans k2 (fun _ hb => .inl hb))
  have HM := Lib.hid (show RMid w w2 U U rb a c bs most al nl cl v1 l ad nd cd v2 d (tabV d (tabV l s)) from ⟨p2, HK2.out, fun _ hb => .inl hb,
    fun h0 => by
      obtain ⟨r1, r2⟩ := HR1.out (tabV_e h0)
      exact cdr_mk HU.out r1 (owns_keeps r2 k2 (fun b hb hu => by have := (r2.lt b hb).1; have := HU.out b hu; omega)) (HLR.out.keeps HK2.out (fun x hx => (HAL.out x hx).2)) (fun x hx => ⟨by have := (HAL.out x hx).1; have := HK2.out.size; omega, (HAL.out x hx).2⟩),
    fun h0 => by
      obtain ⟨r1, r2⟩ := t2 h0
      exact cdr_mk (fun b hb => by have := HU.out b hb; have := HK1.out.size; omega) r1 r2 (HDR.out.keeps HK2.out (fun x hx => (HAD.out x hx).2)) (fun x hx => ⟨by have := (HAD.out x hx).1; have := HK2.out.size; omega, (HAD.out x hx).2⟩),
    by rw [tabV_o, tabV_o]; exact HO.out⟩)
  clear p2 k2 t2 HT1 HT2 HLR HDR HAL HAD HR1 HK1 HK2 HU HO
  go_wp2_with fail
  go_loopw [8] (fun vn wr => ∃ (k : Nat) (U1 : Nat → Prop) (s1 : IS), vn = .int .i64 k ∧ Hid (RMid w wr U U1 rb a c bs most al nl cl v1 l ad nd cd v2 d s1) ∧ Hid (s1.e = 0 → k ≤ s1.at_ ∧ ∃ g, codedO bs most l d g s1 = some s') ∧ Hid (s1.e ≠ 0 → s' = s1)) (fun vn _ => 64 * bs.length + 1 - (intOf vn).toNat)
  case atStart => exact ⟨0, U, _, rfl, HM, Lib.hid (fun _ => ⟨Nat.zero_le _, g, HG.out⟩), Lib.hid (fun he => codedO_e he HG.out)⟩
  case round =>
    obtain ⟨k, U1, s1, rfl, HM, HRUN, HEND⟩ := hrel
    clear HG
    obtain ⟨c0, c1, c2, c4, f1, f2, f3⟩ := HM.out.st.cells
    have hat := HM.out.st.le
    obtain ⟨L, hL⟩ : ∃ L, L = 8 * bs.length := ⟨_, rfl⟩
    rw [← hL] at c0 hat
    have hLs : L ≤ 8000000 := by omega
    obtain ⟨L8, hL8⟩ : ∃ L8, L8 = 8 * L := ⟨_, rfl⟩
    have j1 : (8 : Int) * (L : Int) = (L8 : Int) := by omega
    have j2 : IntKind.i64.wrap (L8 : Int) = (L8 : Int) := IntWalk.i64_in _ (by omega)
    have HLL := Lib.hid (show L8 = 64 * bs.length by omega)
    by_cases he : s1.e = 0
    · rw [he] at c2
      obtain ⟨hk, m, hmg⟩ := HRUN.out he
      have HMG := Lib.hid hmg
      have hd1 : decide ((k : Int) ≤ (L8 : Int)) = true := decide_eq_true (by omega)
      have hd1n : decide (k ≤ L8) = true := decide_eq_true (by omega)
      have HKL := Lib.hid (show k ≤ 64 * bs.length by omega)
      cases m with
      | zero => exact absurd HMG.out (by intro h; cases h)
      | succ m =>
      have h6 := HMG.out
      unfold codedO at h6
      have hsy := rsym_any HM.out.st v1 HM.out.t hsm
      have hxl := symV5_le bs l s1
      have HTA := Lib.hid (code_at (bs := bs) (most := most) (l := l) (d := d) (s := s1) he)
      have HTO := Lib.hid (code_le (bs := bs) (most := most) (l := l) (d := d) (s := s1) HM.out.o)
      obtain ⟨C, hC⟩ : ∃ C, C = codeV bs most l d s1 := ⟨_, rfl⟩
      rw [← hC] at h6 HTA HTO
      unfold codeV at hC
      obtain ⟨x, hx⟩ : ∃ x, x = (symV5 bs l s1).1 := ⟨_, rfl⟩
      obtain ⟨s2, hs2⟩ : ∃ s2, s2 = (symV5 bs l s1).2 := ⟨_, rfl⟩
      have hout := symV_o bs l s1
      have hez := fun (h : (symV5 bs l s1).2.e = 0) => symV5_e h
      simp only [← hx, ← hs2] at hC
      rw [← hx, ← hs2] at hsy
      rw [← hs2] at hout hez
      rw [← hx] at hxl
      have HSY := Lib.hid hsy
      have HC6 := Lib.hid h6
      have HCC := Lib.hid hC
      have HOU := Lib.hid hout
      have HEZ := Lib.hid hez
      have hx320 : x ≤ 320 := by omega
      have HKA := Lib.hid (show ∀ T, C.2 = T → T.e = 0 → k + 1 ≤ T.at_ from fun T hT h0 => by subst hT; have := HTA.out h0; omega)
      clear hmg h6 hsy hC hout hez hx hs2 hxl hk hat hL hL8 HRUN HEND HMG HTA
      go_wp2_with fail
      refine HSY.out.mono ?_
      rintro e w3 ⟨rfl, q1, q2⟩
      have HM2 := Lib.hid (HM.out.next q1 q2 HEZ.out (by rw [HOU.out]; exact HM.out.o))
      obtain ⟨b0, b1, b2, b4, g1, g2, g3⟩ := q1.cells
      clear q1 q2 c0 c1 c2 c4 f1 f2 f3
      by_cases he2 : s2.e = 0
      · rw [he2] at b2
        by_cases h256 : x = 256
        · subst h256
          have hc := HCC.out
          rw [if_pos (.inr rfl)] at hc
          have h6 := HC6.out
          rw [hc] at h6
          have HE := Lib.hid (Option.some.inj (show some s2 = some s' from h6))
          have HF := Lib.hid (show RNext w U rb a c bs most s' w3 from by rw [← HE.out]; exact ⟨U1, HM2.out.st, HM2.out.k, HM2.out.u⟩)
          clear h6 hc
          go_wp2
          refine bodyPost_ret (results_none rfl _ _ _) rfl ?_
          exact ⟨rfl, HF.out⟩
        · have hc := HCC.out
          rw [if_neg (fun h => h.elim (fun h => h he2) h256)] at hc
          have hne : ((x : Int) == 256) = false := by rw [beq_eq_false_iff_ne]; omega
          by_cases hlt : x < 256
          · rw [if_pos hlt] at hc
            have h6 := HC6.out
            rw [hc, if_pos rfl] at h6
            have H66 := Lib.hid h6
            have HT := Lib.hid hc
            have hp := rput_any HM2.out.st x hlt (by have := HM2.out.o; omega)
            have hpr : putR most (UInt8.ofNat x) s2 = putV5 most (UInt8.ofNat x) s2 := by unfold putR; rw [if_neg (by simp [he2])]
            rw [hpr] at hp
            have HPU := Lib.hid hp
            have hd : decide ((x : Int) < 256) = true := decide_eq_true (by omega)
            have hd2 : decide (x < 256) = true := decide_eq_true hlt
            clear h6 hp hpr hc
            go_wp2_with fail
            refine HPU.out.mono ?_
            rintro e w4 ⟨rfl, hn⟩
            obtain ⟨U2, hU2⟩ := HM2.out.nextU hn (fun h => putV5_e h) (putV5_le HM2.out.o)
            have HNX := Lib.hid hU2
            clear hn hU2
            have hkl := HKL.out
            go_wp2
            go_roundw
            case rel => exact ⟨k + 1, U2, _, by go_num, HNX, Lib.hid (fun h0 => ⟨HKA.out _ (by rw [HT.out]) h0, m, H66.out⟩), Lib.hid (fun he => codedO_e he H66.out)⟩
            case measure => simp [intOf]; omega
          · rw [if_neg hlt] at hc
            have hd : decide ((x : Int) < 256) = false := decide_eq_false (by omega)
            have hd2 : decide (x < 256) = false := decide_eq_false hlt
            have HLN := Lib.hid (fun W => rlength_any (x : Int) W (by omega))
            obtain ⟨q1, q2, q3, q4⟩ := lenV5_bd (x : Int)
            obtain ⟨⟨a0, a1, a2⟩, hA⟩ : ∃ A, A = lenV5 (x : Int) := ⟨_, rfl⟩
            rw [← hA] at hc HLN q1 q2 q3 q4
            dsimp only at q1 q2 q3 q4 hc
            obtain ⟨n0, rfl⟩ := Int.eq_ofNat_of_zero_le q1
            obtain ⟨n1, rfl⟩ := Int.eq_ofNat_of_zero_le q3
            rw [Int.toNat_natCast, Int.toNat_natCast] at hc
            obtain ⟨s3, hs3⟩ : ∃ s3, s3 = (if a2 = true then s2 else failV 11 s2) := ⟨_, rfl⟩
            rw [← hs3] at hc
            obtain ⟨k1, hk1⟩ : ∃ k1, k1 = (numV bs n1 s3).1 := ⟨_, rfl⟩
            obtain ⟨s4, hs4⟩ : ∃ s4, s4 = (numV bs n1 s3).2 := ⟨_, rfl⟩
            rw [← hk1, ← hs4] at hc
            obtain ⟨y, hy⟩ : ∃ y, y = (symV5 bs d s4).1 := ⟨_, rfl⟩
            obtain ⟨s5, hs5⟩ : ∃ s5, s5 = (symV5 bs d s4).2 := ⟨_, rfl⟩
            rw [← hy, ← hs5] at hc
            have hyl : y ≤ 320 := by have := symV5_le bs d s4; omega
            have HDN := Lib.hid (fun W => rdistance_any (y : Int) W (by omega))
            obtain ⟨e1, e2, e3, e4, e5⟩ := disV_bd (y : Int)
            obtain ⟨⟨f0, f3', f4⟩, hB⟩ : ∃ B, B = disV (y : Int) := ⟨_, rfl⟩
            rw [← hB] at hc HDN e1 e2 e3 e4 e5
            dsimp only at e1 e2 e3 e4 e5 hc
            obtain ⟨m0, rfl⟩ := Int.eq_ofNat_of_zero_le e1
            obtain ⟨m1, rfl⟩ := Int.eq_ofNat_of_zero_le e3
            rw [Int.toNat_natCast, Int.toNat_natCast] at hc
            obtain ⟨s6, hs6⟩ : ∃ s6, s6 = (if f4 = true then s5 else failV 11 s5) := ⟨_, rfl⟩
            rw [← hs6] at hc
            obtain ⟨k2, hk2⟩ : ∃ k2, k2 = (numV bs m1 s6).1 := ⟨_, rfl⟩
            obtain ⟨s7, hs7⟩ : ∃ s7, s7 = (numV bs m1 s6).2 := ⟨_, rfl⟩
            rw [← hk2, ← hs7] at hc
            have hk1b : k1 < 32 := by rw [hk1]; exact Nat.lt_of_lt_of_le (numV_lt5 bs n1 s3) (Nat.pow_le_pow_right (by omega) (by omega : n1 ≤ 5))
            have hk2b : k2 < 8192 := by rw [hk2]; exact Nat.lt_of_lt_of_le (numV_lt5 bs m1 s6) (Nat.pow_le_pow_right (by omega) (by omega : m1 ≤ 13))
            obtain ⟨LN, hLN⟩ : ∃ LN, LN = n0 + k1 := ⟨_, rfl⟩
            obtain ⟨FR, hFR⟩ : ∃ FR, FR = m0 + k2 := ⟨_, rfl⟩
            rw [← hLN, ← hFR] at hc
            have h6 := HC6.out
            rw [hc, if_pos rfl] at h6
            have H66 := Lib.hid h6
            have HT := Lib.hid hc
            have HS3 := Lib.hid hs3
            have HK1 := Lib.hid hk1
            have HS4 := Lib.hid hs4
            have HY := Lib.hid hy
            have HS5 := Lib.hid hs5
            have HS6 := Lib.hid hs6
            have HK2 := Lib.hid hk2
            have HS7 := Lib.hid hs7
            have HE5 := Lib.hid (show s6.e = 0 → 1 ≤ FR from fun h0 => by
              cases hf4 : f4 with
              | true => have := e5 hf4; omega
              | false => rw [hs6, hf4] at h0; exact absurd h0 (failV_e (by decide)))
            have i0 : (n0 : Int) + (k1 : Int) = (LN : Int) := by omega
            have i1 : IntKind.i64.wrap (LN : Int) = (LN : Int) := IntWalk.i64_in _ (by omega)
            have i2 : (m0 : Int) + (k2 : Int) = (FR : Int) := by omega
            have i3 : IntKind.i64.wrap (FR : Int) = (FR : Int) := IntWalk.i64_in _ (by omega)
            have hLNb : LN ≤ 300 := by omega
            have hFRb : FR ≤ 40000 := by omega
            clear hc hA hB q1 q3 e1 e3 e5 h6 hs3 hk1 hs4 hy hs5 hs6 hk2 hs7 hLN hFR
            go_wp2_with fail
            refine (HLN.out _).mono ?_
            rintro e w4 ⟨rfl, rfl⟩
            dsimp only
            go_upto_if 65 with fail
            go_cut [9] from 23 to 152 (fun v9 wx => v9 = .int .i64 x ∧ Hid (RMid w wx U U1 rb a c bs most al nl cl v1 l ad nd cd v2 d s3))
            case first =>
              cases a2 with
              | true =>
                have HM3 := Lib.hid (show RMid w w4 U U1 rb a c bs most al nl cl v1 l ad nd cd v2 d s3 from by rw [show s3 = s2 from by rw [HS3.out]; rfl]; exact HM2.out)
                go_wp2_with fail
                all_goals go_meet
                all_goals exact ⟨rfl, HM3⟩
              | false =>
                have HF := Lib.hid (rfail_any HM2.out.st 11)
                go_wp2_with fail
                refine HF.out.mono ?_
                rintro e w5 ⟨rfl, p1, p2⟩
                have HM3 := Lib.hid (show RMid w w5 U U1 rb a c bs most al nl cl v1 l ad nd cd v2 d s3 from by rw [show s3 = failV 11 s2 from by rw [HS3.out]; rfl]; exact HM2.out.next p1 p2 (fun h => failV_e2 h (by decide)) (by rw [failV_o]; exact HM2.out.o))
                clear p1 p2
                go_wp2_with fail
                all_goals go_meet
                all_goals exact ⟨rfl, HM3⟩
            case rest =>
              obtain ⟨rfl, HM3⟩ := hcut
              clear b0 b1 b2 b4 g1 g2 g3 hd hd2 hne HSY HCC HC6 HM2 HM
              have hn := rnum_any HM3.out.st n1 (by omega) hsm
              rw [← HK1.out, ← HS4.out] at hn
              have HN := Lib.hid hn
              clear hn
              go_wp2_with fail
              refine HN.out.mono ?_
              rintro e w5 ⟨rfl, p1, p2⟩
              have HM4 := Lib.hid (HM3.out.next p1 p2 (fun h => numV_e (by rw [← HS4.out]; exact h)) (by rw [HS4.out, numV_o]; exact HM3.out.o))
              have hy2 := rsym_any p1 v2 HM4.out.d hsm
              rw [← HY.out, ← HS5.out] at hy2
              have HYY := Lib.hid hy2
              clear p1 p2 hy2
              go_wp2_with fail
              refine HYY.out.mono ?_
              rintro e w6 ⟨rfl, p1, p2⟩
              have HM5 := Lib.hid (HM4.out.next p1 p2 (fun h => symV5_e (by rw [← HS5.out]; exact h)) (by rw [HS5.out, symV_o]; exact HM4.out.o))
              obtain ⟨b0, b1, b2, b4, g1, g2, g3⟩ := p1.cells
              clear p1 p2
              go_wp2_with fail
              refine (HDN.out _).mono ?_
              rintro e w7 ⟨rfl, rfl⟩
              dsimp only
              go_upto_region 14 with fail
              go_cut [9, 90] from 23 to 152 (fun v9 v90 wx => v9 = .int .i64 x ∧ (∃ q : Bool, v90 = .bool q ∧ Hid (q = true ↔ (s5.e = 0 ∧ f4 = false))) ∧ w7 = wx)
              case first =>
                by_cases he5 : s5.e = 0
                · rw [he5] at b2
                  cases f4 with
                  | true =>
                    go_wp2_with fail
                    all_goals go_meet
                    all_goals exact ⟨rfl, ⟨false, rfl, Lib.hid (by simp)⟩, rfl⟩
                  | false =>
                    go_wp2_with fail
                    all_goals go_meet
                    all_goals exact ⟨rfl, ⟨true, rfl, Lib.hid (by simp [he5])⟩, rfl⟩
                · have hb5 : (s5.e == 0) = false := by rw [beq_eq_false_iff_ne]; exact he5
                  go_wp2_with fail
                  all_goals go_meet
                  all_goals exact ⟨rfl, ⟨false, rfl, Lib.hid (by simp [he5])⟩, rfl⟩
              case rest =>
                obtain ⟨rfl, ⟨q, rfl, HQ⟩, rfl⟩ := hcut
                go_upto_if 90 with fail
                go_cut [9] from 23 to 152 (fun v9 wx => v9 = .int .i64 x ∧ Hid (RMid w wx U U1 rb a c bs most al nl cl v1 l ad nd cd v2 d s6))
                case first =>
                  cases q with
                  | false =>
                    have HM6 := Lib.hid (show RMid w w7 U U1 rb a c bs most al nl cl v1 l ad nd cd v2 d s6 from by
                      have hs : s6 = s5 := by
                        rw [HS6.out]
                        cases f4 with
                        | true => rfl
                        | false =>
                          have hz : s5.e ≠ 0 := fun h => by have := HQ.out.2 ⟨h, rfl⟩; cases this
                          show failV 11 s5 = s5
                          unfold failV; rw [if_neg hz]
                      rw [hs]; exact HM5.out)
                    go_wp2_with fail
                    all_goals go_meet
                    all_goals exact ⟨rfl, HM6⟩
                  | true =>
                    have HF := Lib.hid (rfail_any HM5.out.st 11)
                    go_wp2_with fail
                    refine HF.out.mono ?_
                    rintro e w8 ⟨rfl, p1, p2⟩
                    have HM6 := Lib.hid (show RMid w w8 U U1 rb a c bs most al nl cl v1 l ad nd cd v2 d s6 from by rw [show s6 = failV 11 s5 from by rw [HS6.out]; rw [(show s5.e = 0 ∧ f4 = false by simpa using HQ.out).2]; rfl]; exact HM5.out.next p1 p2 (fun h => failV_e2 h (by decide)) (by rw [failV_o]; exact HM5.out.o))
                    clear p1 p2
                    go_wp2_with fail
                    all_goals go_meet
                    all_goals exact ⟨rfl, HM6⟩
                case rest =>
                  obtain ⟨rfl, HM6⟩ := hcut
                  clear b0 b1 b2 b4 g1 g2 g3 HM5 HQ HM4 HM3 HYY HN
                  have hn := rnum_any HM6.out.st m1 (by omega) hsm
                  rw [← HK2.out, ← HS7.out] at hn
                  have HN := Lib.hid hn
                  clear hn
                  go_wp2_with fail
                  refine HN.out.mono ?_
                  rintro e w8 ⟨rfl, p1, p2⟩
                  have HM7 := Lib.hid (HM6.out.next p1 p2 (fun h => numV_e (by rw [← HS7.out]; exact h)) (by rw [HS7.out, numV_o]; exact HM6.out.o))
                  have HE7 := Lib.hid (show s7.e = 0 → 1 ≤ FR from fun h0 => HE5.out (numV_e (by rw [← HS7.out]; exact h0)))
                  obtain ⟨b0, b1, b2, b4, g1, g2, g3⟩ := p1.cells
                  clear p1 p2
                  have hkl := HKL.out
                  by_cases he7 : s7.e = 0
                  · rw [he7] at b2
                    obtain ⟨vq, hvq, hOq, hUq⟩ := HM7.out.st.ex
                    obtain ⟨a7, cap7, hva, -, -⟩ := Row.of_owns hOq
                    subst hva
                    have b3 : w8.cell? ⟨rb, 3, none⟩ = some (.slice a7 s7.out.length cap7) := by rw [cell_of_row w8 rb _ _ _ _ hvq]; rfl
                    have ho7 := HM7.out.o
                    clear hvq hOq hUq
                    by_cases hf : s7.out.length < FR
                    · have d1 : decide ((s7.out.length : Int) < FR) = true := decide_eq_true (by omega)
                      have d1' : decide (s7.out.length < FR) = true := decide_eq_true hf
                      have HF := Lib.hid (rfail_any HM7.out.st 14)
                      have HTT : Hid (C.2 = failV 14 s7) := Lib.hid (by rw [HT.out]; unfold repV; rw [if_neg (by simp [he7]), if_pos hf])
                      go_wp2_with fail
                      refine HF.out.mono ?_
                      rintro e w9 ⟨rfl, p1, p2⟩
                      have HNX := Lib.hid (show RMid w w9 U U1 rb a c bs most al nl cl v1 l ad nd cd v2 d C.2 from by rw [HTT.out]; exact HM7.out.next p1 p2 (fun h => failV_e2 h (by decide)) (by rw [failV_o]; exact ho7))
                      clear p1 p2
                      go_wp2
                      go_roundw
                      case rel => exact ⟨k + 1, U1, C.2, by go_num, HNX, Lib.hid (fun h0 => ⟨HKA.out _ rfl h0, m, by rw [HT.out]; exact H66.out⟩), Lib.hid (fun he => codedO_e he (by rw [HT.out]; exact H66.out))⟩
                      case measure => simp [intOf]; omega
                    · have d1 : decide ((s7.out.length : Int) < FR) = false := decide_eq_false (by omega)
                      have d1' : decide (s7.out.length < FR) = false := decide_eq_false hf
                      have i4 : IntKind.i64.wrap ((most : Int) - s7.out.length) = (most : Int) - s7.out.length := IntWalk.i64_in _ (by omega)
                      by_cases hml : (most : Int) - s7.out.length < LN
                      · have d2 : decide ((most : Int) - s7.out.length < LN) = true := decide_eq_true hml
                        have HTT : Hid (C.2 = failV 3 s7) := Lib.hid (by rw [HT.out]; unfold repV; rw [if_neg (by simp [he7]), if_neg hf, if_pos hml])
                        go_wp2_with fail
                        go_quiet (fail)
                        have HF := Lib.hid (rfail_any (HM7.out.st.drewN nq).1 3)
                        go_wp2_with fail
                        refine HF.out.mono ?_
                        rintro e w9 ⟨rfl, p1, p2⟩
                        have HNX := Lib.hid (show RMid w w9 U U1 rb a c bs most al nl cl v1 l ad nd cd v2 d C.2 from by rw [HTT.out]; exact HM7.out.next p1 ((HM7.out.st.drewN nq).2.trans p2 (fun _ hb => .inl hb)) (fun h => failV_e2 h (by decide)) (by rw [failV_o]; exact ho7))
                        clear p1 p2
                        go_wp2
                        go_roundw
                        case rel => exact ⟨k + 1, U1, C.2, by go_num, HNX, Lib.hid (fun h0 => ⟨HKA.out _ rfl h0, m, by rw [HT.out]; exact H66.out⟩), Lib.hid (fun he => codedO_e he (by rw [HT.out]; exact H66.out))⟩
                        case measure => simp [intOf]; omega
                      · have d2 : decide ((most : Int) - s7.out.length < LN) = false := decide_eq_false hml
                        have HTT : Hid (C.2 = { s7 with out := repL FR LN s7.out }) := Lib.hid (by rw [HT.out]; unfold repV; rw [if_neg (by simp [he7]), if_neg hf, if_neg hml])
                        have HFR := Lib.hid (HE7.out he7)
                        go_wp2_with fail
                        go_quiet (fail)
                        have HRR := Lib.hid (show RrAt w8 (w8.drewN nq) U1 rb a c bs most s7 FR LN 0 from ⟨U1, s7, (HM7.out.st.drewN nq).1, (HM7.out.st.drewN nq).2, fun _ h => .inl h, rfl, rfl, rfl, rfl⟩)
                        clear b0 b1 b2 b3 b4 g1 g2 g3 d1 d1' d2 i4 HLN HDN HS3 HK1 HS4 HY HS5 HS6 HK2 HS7 HE5 HOU HEZ q2 q4 e2 e4 hk1b hk2b hyl hx320 j1 j2 hLs hd1 hd1n h256 hlt he2 he i0 i1 i2 i3 HE7 HN HM6 HLL
                        go_wp2_with fail
                        go_loopw [16] (fun vi wi => ∃ j : Nat, vi = .int .i64 j ∧ j ≤ LN ∧ Hid (RrAt w8 wi U1 rb a c bs most s7 FR LN j)) (fun vi _ => LN - (intOf vi).toNat)
                        case atStart => exact ⟨0, rfl, Nat.zero_le _, HRR⟩
                        case round =>
                          obtain ⟨j, rfl, hj, HA⟩ := hrel
                          by_cases hlt2 : j < LN
                          · obtain ⟨U3, s8, z1, z2, z3, z4, z5, z6, z7⟩ := HA.out
                            obtain ⟨c0, c1, c2, c4, f1, f2, f3⟩ := z1.cells
                            obtain ⟨vz, hv1, hO1, hU1⟩ := z1.ex
                            obtain ⟨az, cap1, hva, hrow, -⟩ := Row.of_owns hO1
                            subst hva
                            have c3 : wr.cell? ⟨rb, 3, none⟩ = some (.slice az s8.out.length cap1) := by rw [cell_of_row wr rb _ _ _ _ hv1]; rfl
                            have hfr1 := HFR.out
                            obtain ⟨X, hX⟩ : ∃ X, X = s8.out.length - FR := ⟨_, rfl⟩
                            obtain ⟨b, off, rfl, hblt, hcx⟩ := Row.at (enc := u8C) 0 (l := s8.out) hrow X (by omega)
                            have hcX := hcx X (by omega)
                            obtain ⟨ch, hch⟩ : ∃ ch, ch = s8.out.getD X 0 := ⟨_, rfl⟩
                            rw [← hch] at hcX
                            have hXi : (s8.out.length : Int) - FR = (X : Int) := by omega
                            have iX : IntKind.i64.wrap (X : Int) = (X : Int) := IntWalk.i64_in _ (by omega)
                            have hX0 : (0 : Int) ≤ (X : Int) := by omega
                            have hX1 : (X : Int) < (s8.out.length : Int) := by omega
                            have hX2 : X < s8.out.length := by omega
                            have hlen1 : s8.out.length ≤ 20000000 := by omega
                            have hsbw := z1.blt z1.own
                            have HO1 := Lib.hid hO1
                            have HV1 := Lib.hid hv1
                            have HU1 := Lib.hid hU1
                            have HNX := Lib.hid (fun (w' : World) (hn : RNext wr U3 rb a c bs most { s8 with out := s8.out ++ [ch] } w') => RrAt.next (far := FR) (len := LN) z2 z3 z4 z5 z6 z7 hlt2 (by rw [← hX, ← hch]; exact hn))
                            have HG1 := Lib.hid z1
                            have hneb : b ≠ rb := fun e => by have := (hO1.lt b rfl).1; omega
                            clear z1 z2 z3 z4 z5 z6 z7 hO1 hv1 hU1 hrow hX hch hcx hfr1 HA HRR
                            unfold u8C at hcX
                            generalize hy : ch.toNat = yy at hcX
                            have HYC := Lib.hid hy
                            clear hy
                            go_wp2_with fail
                            go_region_law (first | (obtain ⟨iB, hiB, hzB, hsB, hbB⟩ := info_parts EByte.info; refine step_append_lies _ (by rfl) _ _ _ (by rfl) (rb + 1) 5 iB _ 1 1 EByte.und hiB hzB hsB hbB rfl (by omega) (.slice (some ⟨b, off, none⟩) s8.out.length cap1) s8.out.length _ (by rfl) ((HO1.out.alloc _).drew) ⟨wr.heap.size, 0, none⟩ 1 1 [.int .u8 (yy : Nat)] (by rfl) (by rfl) (World.news_of_block (cs := #[.int .u8 (yy : Nat)]) (t := 5) (fr := (0, 0)) (heap_alloc_new wr _)) (by simp [Value.oneCell']) (by omega) (by unfold maxLen; omega) (by omega) (by simp; omega) (wr.heap.size + 1) (by simp) ?_; intro g cap7 w7 hO7 hgrow hat hlt7; have hk7 : Keeps (fun k => (Value.slice (some ⟨b, off, none⟩) s8.out.length cap1).ownBlock = some k) wr w7 := ((Keeps.refl _ wr).alloc (.cells #[.int .u8 (yy : Nat)] 5)).grown (grown_undrew hgrow) (fun k hk => .inl hk); have ho7 := hk7.obj HV1.out (fun e => hneb (by simpa [Value.ownBlock] using e)); have hf7 := frozen_of_row w7 rb 3 _ _ ho7; have hc7 : w7.cell? ⟨rb, 3, none⟩ = some (.slice (some ⟨b, off, none⟩) s8.out.length cap1) := (by rw [cell_of_row w7 rb _ _ _ _ ho7]; rfl); have HNN := Lib.hid (HNX.out _ (HG1.out.putOut (x := ch) HV1.out HO1.out HU1.out (by unfold u8C; rw [HYC.out]; exact hO7) (grown_undrew hgrow) (new_at hat))); clear hO7 hgrow hat hlt7 hk7 ho7))
                            all_goals
                              clear hXi iX hX0 hX1 hX2
                              go_wp2
                              go_roundw
                              case rel => exact ⟨j + 1, by go_num, by omega, HNN⟩
                              case measure => simp [intOf]; omega
                          · obtain rfl : j = LN := by omega
                            obtain ⟨U2, hU2⟩ := HM7.out.nextU HA.out.fin (fun h => h) (by rw [← HTT.out]; exact HTO.out)
                            have HNX := Lib.hid (show RMid w wr U U2 rb a c bs most al nl cl v1 l ad nd cd v2 d C.2 from by rw [HTT.out]; exact hU2)
                            clear hU2
                            go_wp2
                            go_roundw
                            case rel => exact ⟨k + 1, U2, C.2, by go_num, HNX, Lib.hid (fun h0 => ⟨HKA.out _ rfl h0, m, by rw [HT.out]; exact H66.out⟩), Lib.hid (fun he => codedO_e he (by rw [HT.out]; exact H66.out))⟩
                            case measure => simp [intOf]; omega
                  · have HE : Hid (s' = s7) := Lib.hid (by
                      have h6 := H66.out
                      have hr : repV most LN FR s7 = s7 := by unfold repV; rw [if_pos he7]
                      rw [hr] at h6
                      exact codedO_e he7 h6)
                    have HF := Lib.hid (show RNext w U rb a c bs most s' w8 from by rw [HE.out]; exact ⟨U1, HM7.out.st, HM7.out.k, HM7.out.u⟩)
                    go_wp2
                    refine bodyPost_ret (results_none rfl _ _ _) rfl ?_
                    exact ⟨rfl, HF.out⟩
      · have HE : Hid (s' = s2) := Lib.hid (by
          have hc := HCC.out
          rw [if_pos (.inl he2)] at hc
          have h6 := HC6.out
          rw [hc] at h6
          exact (Option.some.inj (show some s2 = some s' from h6)).symm)
        have HF := Lib.hid (show RNext w U rb a c bs most s' w3 from by rw [HE.out]; exact ⟨U1, HM2.out.st, HM2.out.k, HM2.out.u⟩)
        go_wp2
        refine bodyPost_ret (results_none rfl _ _ _) rfl ?_
        exact ⟨rfl, HF.out⟩
    · have hF := HEND.out he
      have HF := Lib.hid (show RNext w U rb a c bs most s' wr from by rw [hF]; exact ⟨U1, HM.out.st, HM.out.k, HM.out.u⟩)
      clear hF
      by_cases hkn : k ≤ L8
      · have hd1 : decide ((k : Int) ≤ (L8 : Int)) = true := decide_eq_true (by omega)
        go_wp2
        go_end0
        exact ⟨rfl, HF.out⟩
      · have hd1 : decide ((k : Int) ≤ (L8 : Int)) = false := decide_eq_false (by omega)
        go_wp2
        go_end0
        exact ⟨rfl, HF.out⟩
end Go.Proofs.Ytlmdgaajkjbpgaa
