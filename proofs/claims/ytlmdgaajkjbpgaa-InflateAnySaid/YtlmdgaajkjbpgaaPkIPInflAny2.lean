/-
  Our texts Rd4 to Inf4D, in one.
-/
import Derived.Test.YtlmdgaajkjbpgaaPkIPInflAny1
import Derived.Deep.Cut
import Derived.Deep.CutRange
import Derived.Deep.CutBlock
/-
  Walks of the reference of layer 5: lengths by codes.
-/
namespace Go.Proofs.Ytlmdgaajkjbpgaa
open Go.RowKit Go.Sort

theorem lensO_e {bs : List UInt8} {l : List Int} {n : Nat} {g : Nat} {out : List Int} {s : IS} {V : List Int × IS} (he : s.e ≠ 0) (h : lensO bs l n g out s = some V) : V.2 = s := by
  cases g with
  | zero => cases h
  | succ g =>
    unfold lensO at h
    rw [if_pos (.inr he)] at h
    cases h; rfl
structure LrAt (w wr : World) (U : Nat → Prop) (rb : Nat) (a : Option Addr) (c : Nat) (bs : List UInt8) (most : Nat) (al : Option Addr) (nl cl : Nat) (vc : Value) (l : List Int) (n : Nat) (vo : Value) (out : List Int) (s : IS) : Prop where
  st : IsR wr U rb a c bs most s
  k : Keeps U w wr
  t : s.e = 0 → CdR wr U al nl cl vc l ∧ (∀ x, al = some x → x.block < w.heap.size) ∧ ∀ aC nC cC, vc = .slice aC nC cC → ∀ x, aC = some x → x.block < w.heap.size
  row : wr.ownsRow w.heap.size 3 1 vo out.length (iV out)
  len : out.length ≤ n
  o : ∀ b, U b → b < w.heap.size
theorem LrAt.next {w wr w' : World} {U : Nat → Prop} {rb : Nat} {a : Option Addr} {c : Nat} {bs : List UInt8} {most : Nat} {al : Option Addr} {nl cl : Nat} {vc : Value} {l : List Int} {n : Nat} {vo : Value} {out : List Int} {s s2 : IS} (h : LrAt w wr U rb a c bs most al nl cl vc l n vo out s) (h1 : IsR w' U rb a c bs most s2) (h2 : Keeps U wr w') (he : s2.e = 0 → s.e = 0) : LrAt w w' U rb a c bs most al nl cl vc l n vo out s2 :=
  ⟨h1, h.k.trans h2 (fun _ hb => .inl hb), (fun h0 => ⟨(h.t (he h0)).1.keeps h2 (fun _ hb => .inl hb), (h.t (he h0)).2⟩), owns_keeps h.row h2 (fun b hb hu => by have := (h.row.lt b hb).1; have := h.o b hu; omega), h.len, h.o⟩
theorem LrAt.app {w wr w5 : World} {U : Nat → Prop} {rb : Nat} {a : Option Addr} {c : Nat} {bs : List UInt8} {most : Nat} {al : Option Addr} {nl cl : Nat} {vc : Value} {l : List Int} {n : Nat} {vo v' : Value} {out : List Int} {s : IS} {o : Obj} {x : Int} (h : LrAt w wr U rb a c bs most al nl cl vc l n vo out s) (hO : w5.ownsRow w.heap.size 3 1 v' (out.length + 1) (iV out ++ [.int .i64 x])) (hg : (wr.alloc o).grownBy w5 vo.ownBlock) (hl : out.length + 1 ≤ n) :
    LrAt w w5 U rb a c bs most al nl cl vc l n v' (out ++ [x]) s := by
  have hk : Keeps (fun b => vo.ownBlock = some b) wr w5 := ((Keeps.refl _ wr).alloc o).grown hg (fun k hk => .inl hk)
  have hlo : ∀ b, vo.ownBlock = some b → w.heap.size ≤ b := fun b hb => (h.row.lt b hb).1
  have hr := h.o rb h.st.own
  have hsz := hk.size
  refine ⟨h.st.keeps hk (fun b hb e => ?_), h.k.trans hk (fun b hb => .inr (hlo b hb)), fun h0 => ?_, ?_, by simp; omega, h.o⟩
  · have := hlo b e
    rcases hb with hb | hb
    · omega
    · have := h.o b hb; omega
  · obtain ⟨⟨t1, t2, ⟨aC, cC, t3, t4, t5⟩, t6⟩, t7, t8⟩ := h.t h0
    exact ⟨⟨t1, t2.keeps hk (fun y hy e => by have := hlo _ e; have := t7 y hy; omega), ⟨aC, cC, t3, t4.keeps hk (fun y hy e => by have := hlo _ e; have := t8 _ _ _ t3 y hy; omega), fun y hy => ⟨by have := (t5 y hy).1; omega, (t5 y hy).2⟩⟩, fun y hy => ⟨by have := (t6 y hy).1; omega, (t6 y hy).2⟩⟩, t7, t8⟩
  · rw [List.length_append, iV, List.map_append]
    exact hO

set_option maxRecDepth 100000 in
set_option maxHeartbeats 8000000 in
theorem rlens_any {w : World} {U : Nat → Prop} {rb : Nat} {a : Option Addr} {c : Nat} {bs : List UInt8} {most : Nat} {s : IS} {al : Option Addr} {nl cl : Nat} {vc : Value} {l : List Int} {n : Nat} (h : IsR w U rb a c bs most s) (hT : s.e = 0 → CdR w U al nl cl vc l) (hl3 : l.length ≤ 320) (hn : n ≤ 400) (hsm : bs.length ≤ 1000000) (g : Nat) (V : List Int × IS) (hg : lensO bs l n g [] s = some V) :
    Calls Try.prog 42 #[.pointer (some ⟨rb, 0, none⟩), .slice al nl cl, vc, .int .i64 n] w fun x w' => ∃ v, x = .returned v ∧ IsR w' U rb a c bs most V.2 ∧ Keeps U w w' ∧ (V.2.e = 0 → w'.ownsRow w.heap.size 3 1 v V.1.length (iV V.1)) := by
  have HC := Lib.hid (show LrAt w w U rb a c bs most al nl cl vc l n (.slice none 0 0) [] s from ⟨h, Keeps.refl _ _, fun h0 => ⟨hT h0, fun x hx => ((hT h0).at_ x hx).1, fun aC nC cC e x hx => by obtain ⟨-, -, ⟨aC', cC', t3, -, t5⟩, -⟩ := hT h0; rw [t3] at e; cases e; exact (t5 x hx).1⟩, World.ownsRow_nil _ _ _ _, Nat.zero_le _, fun b hb => h.blt hb⟩)
  have HG := Lib.hid hg
  clear h hT hg
  go_enter Try.func42, Try.ntmps42
  go_wp2
  go_loopw [9, 10] (fun vo vk wr => ∃ (k : Nat) (out : List Int) (s : IS), vk = .int .i64 k ∧ Hid (LrAt w wr U rb a c bs most al nl cl vc l n vo out s) ∧ Hid (s.e = 0 → k ≤ out.length ∧ ∃ g, lensO bs l n g out s = some V) ∧ Hid (s.e ≠ 0 → V.2 = s)) (fun _ vk _ => n - (intOf vk).toNat)
  case atStart => exact ⟨0, [], s, rfl, HC, Lib.hid (fun _ => ⟨Nat.zero_le _, g, HG.out⟩), Lib.hid (fun he => lensO_e he HG.out)⟩
  case round =>
    obtain ⟨k, out, s1, rfl, HL, HRUN, HEND⟩ := hrel
    obtain ⟨a0, c0, hv, -, -⟩ := Row.of_owns HL.out.row
    subst hv
    obtain ⟨k0, k1, k2, -, -, -, -⟩ := HL.out.st.cells
    have hlen := HL.out.len
    clear HC HG
    by_cases he : s1.e = 0
    · rw [he] at k2
      obtain ⟨hk, m, hm⟩ := HRUN.out he
      have HM := Lib.hid hm
      clear hm
      by_cases hln : out.length = n
      · have HFIN : Hid (V = (out, s1)) := Lib.hid (by
          have hm := HM.out
          cases m with
          | zero => cases hm
          | succ m =>
            unfold lensO at hm
            rw [if_pos (.inl hln)] at hm
            cases hm; rfl)
        have hd1 : decide ((out.length : Int) < (n : Int)) = false := decide_eq_false (by omega)
        have hd1n : decide (out.length < n) = false := decide_eq_false (by omega)
        clear hln
        by_cases hkn : k < n
        · go_wp2
          go_ret
          exact ⟨_, rfl, by rw [HFIN.out]; exact HL.out.st, HL.out.k, fun _ => by rw [HFIN.out]; exact HL.out.row⟩
        · go_wp2
          go_ret
          exact ⟨_, rfl, by rw [HFIN.out]; exact HL.out.st, HL.out.k, fun _ => by rw [HFIN.out]; exact HL.out.row⟩
      · have hkn : k < n := by omega
        have hln2 : out.length < n := by omega
        have hsy := rsym_any HL.out.st vc (fun h0 => (HL.out.t h0).1) hsm
        have hxl := symV5_le bs l s1
        have hez := fun (h : (symV5 bs l s1).2.e = 0) => symV5_e h
        cases m with
        | zero => exact absurd HM.out (by intro h; cases h)
        | succ m =>
        have hg := HM.out
        unfold lensO at hg
        rw [if_neg (by rintro (h | h); exact hln h; exact h he)] at hg
        unfold lensC at hg
        obtain ⟨x, hx⟩ : ∃ x, x = (symV5 bs l s1).1 := ⟨_, rfl⟩
        obtain ⟨s2, hs2⟩ : ∃ s2, s2 = (symV5 bs l s1).2 := ⟨_, rfl⟩
        simp only [← hx, ← hs2] at hg
        rw [← hx, ← hs2] at hsy
        rw [← hs2] at hez
        rw [← hx] at hxl
        have HSY := Lib.hid hsy
        have HG := Lib.hid hg
        have HEZ := Lib.hid hez
        have hx320 : x ≤ 320 := by omega
        clear hsy hg hez hx hs2 hxl HM HRUN HEND
        go_wp2_with fail
        refine HSY.out.mono ?_
        rintro e w1 ⟨rfl, q1, q2⟩
        have HL2 := Lib.hid (HL.out.next q1 q2 HEZ.out)
        clear q1 q2 k0 k1 k2
        by_cases hA : x = 16 ∧ out = []
        · obtain ⟨rfl, rfl⟩ := hA
          have HF := Lib.hid (rfail_any HL2.out.st 11)
          have HFIN : Hid (V.2 = failV 11 s2) := Lib.hid (lensO_e (failV_e (by decide)) (show lensO bs l n m [] (failV 11 s2) = some V from HG.out))
          have hq0 : (([] : List Int).length : Int) = 0 := rfl
          have HNE := Lib.hid (failV_e (s := s2) (e := 11) (by decide))
          go_wp2_with fail
          refine HF.out.mono ?_
          rintro e w2 ⟨rfl, p1, p2⟩
          have HNX := Lib.hid (HL2.out.next p1 p2 (fun h => failV_e2 h (by decide)))
          clear p1 p2
          go_wp2
          go_ret
          exact ⟨_, rfl, by rw [HFIN.out]; exact HNX.out.st, HNX.out.k, fun h0 => absurd (by rw [HFIN.out] at h0; exact h0) HNE.out⟩
        · go_upto_block 2 with fail
          go_cut [11, 12] from 14 to 94 (fun v11 v12 wx => ∃ (T : Nat) (X : Int) (s3 : IS), v11 = .int .i64 X ∧ v12 = .int .i64 (T : Nat) ∧ T ≤ 200 ∧ Hid (1 ≤ T) ∧ Hid (LrAt w wx U rb a c bs most al nl cl vc l n (.slice a0 out.length c0) out s3) ∧ Hid ((if n < out.length + T then lensO bs l n m out (failV 11 s3) else lensO bs l n m (out ++ List.replicate T X) s3) = some V))
          case first =>
            by_cases x16 : x = 16
            · subst x16
              have hne : out ≠ [] := fun e => hA ⟨rfl, e⟩
              have hpos : 0 < out.length := List.length_pos_iff.2 hne
              have hg := HG.out
              rw [if_pos rfl, if_neg hne] at hg
              have hn := rnum_any HL2.out.st 2 (by omega) hsm
              have hkl := numV_lt5 bs 2 s2
              obtain ⟨kk, hk⟩ : ∃ k, k = (numV bs 2 s2).1 := ⟨_, rfl⟩
              obtain ⟨s3, hs3⟩ : ∃ s3, s3 = (numV bs 2 s2).2 := ⟨_, rfl⟩
              have hze := fun (h : s3.e = 0) => numV_e (bs := bs) (n := 2) (s := s2) (by rw [← hs3]; exact h)
              rw [← hk, ← hs3, show ((2 : Nat) : Int) = 2 from rfl] at hn
              simp only [← hk, ← hs3] at hg
              rw [← hk] at hkl
              have HN := Lib.hid hn
              have HGG := Lib.hid hg
              have HZE := Lib.hid hze
              obtain ⟨T, hT⟩ : ∃ T, T = kk + 3 := ⟨_, rfl⟩
              have i1 : (3 : Int) + (kk : Int) = (T : Int) := by omega
              have i2 : IntKind.i64.wrap (T : Int) = (T : Int) := IntWalk.i64_in _ (by omega)
              have HT := Lib.hid hT
              clear hn hg hk hs3 hze hT
              go_wp2_with fail
              refine HN.out.mono ?_
              rintro e w2 ⟨rfl, p1, p2⟩
              have HNL := Lib.hid (HL2.out.next p1 p2 HZE.out)
              clear p1 p2
              obtain ⟨X, hX⟩ : ∃ X, X = out.length - 1 := ⟨_, rfl⟩
              have hgg := HGG.out
              rw [← hX] at hgg
              obtain ⟨b0, off0, rfl, hblt, hcx⟩ := Row.at (enc := Value.int .i64) 0 (l := out) (Row.of_own HNL.out.row).2 X (by omega)
              have hcX := hcx X (by omega)
              obtain ⟨y, hy⟩ : ∃ y, y = out.getD X 0 := ⟨_, rfl⟩
              rw [← hy] at hcX hgg
              have HGY := Lib.hid hgg
              have j1' : (out.length : Int) - 1 = (X : Int) := by omega
              have j2' : IntKind.i64.wrap (X : Int) = (X : Int) := IntWalk.i64_in _ (by omega)
              have j3' : (0 : Int) ≤ (X : Int) := by omega
              have j4' : (X : Int) < (out.length : Int) := by omega
              have hq0 : ((out.length : Int) == 0) = false := by rw [beq_eq_false_iff_ne]; omega
              clear hcx hy hX hne hpos hgg HN HGG
              go_wp2_with fail
              all_goals go_meet
              all_goals exact ⟨T, y, s3, rfl, rfl, by omega, Lib.hid (by have := HT.out; omega), HNL, Lib.hid (by have h := HGY.out; rw [← HT.out] at h; exact h)⟩
            · by_cases x17 : x = 17
              · subst x17
                have hg := HG.out
                rw [if_neg x16, if_pos rfl] at hg
                have hn := rnum_any HL2.out.st 3 (by omega) hsm
                have hkl := numV_lt5 bs 3 s2
                obtain ⟨kk, hk⟩ : ∃ k, k = (numV bs 3 s2).1 := ⟨_, rfl⟩
                obtain ⟨s3, hs3⟩ : ∃ s3, s3 = (numV bs 3 s2).2 := ⟨_, rfl⟩
                have hze := fun (h : s3.e = 0) => numV_e (bs := bs) (n := 3) (s := s2) (by rw [← hs3]; exact h)
                rw [← hk, ← hs3, show ((3 : Nat) : Int) = 3 from rfl] at hn
                simp only [← hk, ← hs3] at hg
                rw [← hk] at hkl
                have HN := Lib.hid hn
                have HGG := Lib.hid hg
                have HZE := Lib.hid hze
                obtain ⟨T, hT⟩ : ∃ T, T = kk + 3 := ⟨_, rfl⟩
                have i1 : (3 : Int) + (kk : Int) = (T : Int) := by omega
                have i2 : IntKind.i64.wrap (T : Int) = (T : Int) := IntWalk.i64_in _ (by omega)
                have HT := Lib.hid hT
                clear hn hg hk hs3 hze hT
                go_wp2_with fail
                refine HN.out.mono ?_
                rintro e w2 ⟨rfl, p1, p2⟩
                have HNL := Lib.hid (HL2.out.next p1 p2 HZE.out)
                clear p1 p2
                go_wp2_with fail
                all_goals go_meet
                all_goals exact ⟨T, 0, s3, rfl, rfl, by omega, Lib.hid (by have := HT.out; omega), HNL, Lib.hid (by have h := HGG.out; rw [← HT.out] at h; exact h)⟩
              · by_cases x18 : x = 18
                · subst x18
                  have hg := HG.out
                  rw [if_neg x16, if_neg x17, if_pos rfl] at hg
                  have hn := rnum_any HL2.out.st 7 (by omega) hsm
                  have hkl := numV_lt5 bs 7 s2
                  obtain ⟨kk, hk⟩ : ∃ k, k = (numV bs 7 s2).1 := ⟨_, rfl⟩
                  obtain ⟨s3, hs3⟩ : ∃ s3, s3 = (numV bs 7 s2).2 := ⟨_, rfl⟩
                  have hze := fun (h : s3.e = 0) => numV_e (bs := bs) (n := 7) (s := s2) (by rw [← hs3]; exact h)
                  rw [← hk, ← hs3, show ((7 : Nat) : Int) = 7 from rfl] at hn
                  simp only [← hk, ← hs3] at hg
                  rw [← hk] at hkl
                  have HN := Lib.hid hn
                  have HGG := Lib.hid hg
                  have HZE := Lib.hid hze
                  obtain ⟨T, hT⟩ : ∃ T, T = kk + 11 := ⟨_, rfl⟩
                  have i1 : (11 : Int) + (kk : Int) = (T : Int) := by omega
                  have i2 : IntKind.i64.wrap (T : Int) = (T : Int) := IntWalk.i64_in _ (by omega)
                  have HT := Lib.hid hT
                  clear hn hg hk hs3 hze hT
                  go_wp2_with fail
                  refine HN.out.mono ?_
                  rintro e w2 ⟨rfl, p1, p2⟩
                  have HNL := Lib.hid (HL2.out.next p1 p2 HZE.out)
                  clear p1 p2
                  go_wp2_with fail
                  all_goals go_meet
                  all_goals exact ⟨T, 0, s3, rfl, rfl, by omega, Lib.hid (by have := HT.out; omega), HNL, Lib.hid (by have h := HGG.out; rw [← HT.out] at h; exact h)⟩
                · have hg := HG.out
                  rw [if_neg x16, if_neg x17, if_neg x18] at hg
                  have HGG := Lib.hid hg
                  have q1 : ((x : Int) == 16) = false := by rw [beq_eq_false_iff_ne]; omega
                  have q2 : ((x : Int) == 17) = false := by rw [beq_eq_false_iff_ne]; omega
                  have q3 : ((x : Int) == 18) = false := by rw [beq_eq_false_iff_ne]; omega
                  clear hg
                  go_wp2_with fail
                  all_goals go_meet
                  all_goals exact ⟨1, x, s2, rfl, rfl, by omega, Lib.hid (by omega), HL2, Lib.hid HGG.out⟩
          case rest =>
            obtain ⟨T, X, s3, rfl, rfl, hT, HT1, HL3, HG3⟩ := hcut
            obtain ⟨b0', b1', b2', -, -, -, -⟩ := HL3.out.st.cells
            have i1 : IntKind.i64.wrap ((n : Int) - out.length) = (n : Int) - out.length := IntWalk.i64_in _ (by omega)
            by_cases he3 : s3.e = 0
            · rw [he3] at b2'
              by_cases hc : n < out.length + T
              · have hg := HG3.out
                rw [if_pos hc] at hg
                have HF := Lib.hid (rfail_any HL3.out.st 11)
                have hd : decide ((n : Int) - out.length < T) = true := decide_eq_true (by omega)
                obtain ⟨s4, hs4⟩ : ∃ s4, s4 = failV 11 s3 := ⟨_, rfl⟩
                have HNE := Lib.hid (show s4.e ≠ 0 by rw [hs4]; exact failV_e (by decide))
                rw [← hs4] at hg
                have HV4 := Lib.hid (lensO_e HNE.out hg)
                have HS4 := Lib.hid hs4
                clear hg hc hs4
                go_wp2_with fail
                refine HF.out.mono ?_
                rintro e w2 ⟨rfl, p1, p2⟩
                have HL4 := Lib.hid (show LrAt w w2 U rb a c bs most al nl cl vc l n (.slice a0 out.length c0) out s4 from by rw [HS4.out]; exact HL3.out.next p1 p2 (fun h => failV_e2 h (by decide)))
                clear p1 p2 b0' b1' b2' hd i1
                go_wp2_with fail
                go_loopw [9, 13] (fun vo vj wx => vo = .slice a0 out.length c0 ∧ vj = .int .i64 0 ∧ Hid (LrAt w wx U rb a c bs most al nl cl vc l n (.slice a0 out.length c0) out s4)) (fun _ _ _ => 0)
                case atStart => exact ⟨rfl, rfl, HL4⟩
                case round =>
                  obtain ⟨rfl, rfl, HL5⟩ := hrel
                  obtain ⟨z0, z1, z2, -, -, -, -⟩ := HL5.out.st.cells
                  have hb4 : (s4.e == 0) = false := by rw [beq_eq_false_iff_ne]; exact HNE.out
                  have ht0 : (0 : Int) < (T : Int) := by have := HT1.out; omega
                  have ht0n : 0 < T := HT1.out
                  go_wp2
                  go_roundw
                  case rel => exact ⟨k + 1, out, s4, by go_num, HL5, Lib.hid (fun h0 => absurd h0 HNE.out), Lib.hid (fun _ => HV4.out)⟩
                  case measure => simp [intOf]; omega
              · have hg := HG3.out
                rw [if_neg hc] at hg
                have HGG := Lib.hid hg
                have hd : decide ((n : Int) - out.length < T) = false := decide_eq_false (by omega)
                have HBD := Lib.hid (show out.length + T ≤ n by omega)
                have HKO := Lib.hid (show k ≤ out.length by omega)
                have HE3 := Lib.hid he3
                clear hg hc
                go_wp2_with fail
                go_loopw [9, 13] (fun vo vi wx => ∃ j : Nat, vi = .int .i64 j ∧ j ≤ T ∧ Hid (LrAt w wx U rb a c bs most al nl cl vc l n vo (out ++ List.replicate j X) s3)) (fun _ vi _ => T - (intOf vi).toNat)
                case atStart => exact ⟨0, rfl, Nat.zero_le _, Lib.hid (by rw [List.replicate_zero, List.append_nil]; exact HL3.out)⟩
                case round =>
                  obtain ⟨j, rfl, hj, HLJ⟩ := hrel
                  obtain ⟨a5, c5, hv5, -, -⟩ := Row.of_owns HLJ.out.row
                  subst hv5
                  obtain ⟨z0, z1, z2, -, -, -, -⟩ := HLJ.out.st.cells
                  rw [HE3.out] at z2
                  by_cases hlt : j < T
                  · have hsz := HLJ.out.k.size
                    have hlo : (out ++ List.replicate j X).length ≤ 400 := by have := HLJ.out.len; omega
                    have hl1 : (out ++ List.replicate j X).length + 1 ≤ n := by have := HBD.out; simp; omega
                    have HRP := Lib.hid (show out ++ List.replicate (j + 1) X = (out ++ List.replicate j X) ++ [X] by rw [List.replicate_succ', List.append_assoc])
                    generalize out ++ List.replicate j X = o2 at *
                    go_wp2_with (at_builtin; refine append_row EInt rfl (.tmp 91) (.tmp 93) rfl w.heap.size _ o2.length _ rfl (HLJ.out.row.alloc _) _ 1 _ _ rfl (row_new1 _ _ _) (one_int _) (by unfold maxLen; omega) (by omega) (by rw [sizeA]; omega) ?_; intro v' w5 hO5 hg5 hnil5; have HN5 := Lib.hid (HLJ.out.app hO5 hg5 hl1); obtain ⟨a6, c6, hv6, -, -⟩ := Row.of_owns hO5; subst hv6; clear hO5 hg5 hnil5)
                    go_roundw
                    case rel => exact ⟨j + 1, by go_num, by omega, Lib.hid (by rw [HRP.out]; exact HN5.out)⟩
                    case measure => simp [intOf]; omega
                  · obtain rfl : j = T := by omega
                    have hk2 := HKO.out
                    have hT1 := HT1.out
                    have hlen2 : (out ++ List.replicate j X).length = out.length + j := by simp
                    have HL2' := Lib.hid hlen2
                    clear hlen2
                    go_wp2
                    go_roundw
                    case rel => exact ⟨k + 1, _, s3, by go_num, HLJ, Lib.hid (fun _ => ⟨by rw [HL2'.out]; omega, m, HGG.out⟩), Lib.hid (fun h => absurd HE3.out h)⟩
                    case measure => simp [intOf]; omega
            · have hb3 : (s3.e == 0) = false := by rw [beq_eq_false_iff_ne]; exact he3
              have HNE := Lib.hid he3
              have HV4 : Hid (V.2 = s3) := Lib.hid (by
                have hg := HG3.out
                split at hg
                · have h := lensO_e (by rw [show failV 11 s3 = s3 from by unfold failV; rw [if_neg he3]]; exact he3) hg
                  rw [h]; unfold failV; rw [if_neg he3]
                · exact lensO_e he3 hg)
              obtain ⟨s4, hs4⟩ : ∃ s4, s4 = s3 := ⟨_, rfl⟩
              have HL4 := HL3
              rw [← hs4] at HL4 HNE HV4
              clear hs4
              go_wp2_with fail
              go_loopw [9, 13] (fun vo vj wx => vo = .slice a0 out.length c0 ∧ vj = .int .i64 0 ∧ Hid (LrAt w wx U rb a c bs most al nl cl vc l n (.slice a0 out.length c0) out s4)) (fun _ _ _ => 0)
              case atStart => exact ⟨rfl, rfl, HL4⟩
              case round =>
                obtain ⟨rfl, rfl, HL5⟩ := hrel
                obtain ⟨z0, z1, z2, -, -, -, -⟩ := HL5.out.st.cells
                have hb4 : (s4.e == 0) = false := by rw [beq_eq_false_iff_ne]; exact HNE.out
                have ht0 : (0 : Int) < (T : Int) := by have := HT1.out; omega
                have ht0n : 0 < T := HT1.out
                go_wp2
                go_roundw
                case rel => exact ⟨k + 1, out, s4, by go_num, HL5, Lib.hid (fun h0 => absurd h0 HNE.out), Lib.hid (fun _ => HV4.out)⟩
                case measure => simp [intOf]; omega
    · have HE := Lib.hid he
      have HF := Lib.hid (HEND.out he)
      have HNE := Lib.hid (show V.2.e ≠ 0 from by rw [HEND.out he]; exact he)
      by_cases hkn : k < n
      · by_cases hln : out.length < n
        · go_wp2
          go_ret
          exact ⟨_, rfl, by rw [HF.out]; exact HL.out.st, HL.out.k, fun h0 => absurd h0 HNE.out⟩
        · go_wp2
          go_ret
          exact ⟨_, rfl, by rw [HF.out]; exact HL.out.st, HL.out.k, fun h0 => absurd h0 HNE.out⟩
      · go_wp2
        go_ret
        exact ⟨_, rfl, by rw [HF.out]; exact HL.out.st, HL.out.k, fun h0 => absurd h0 HNE.out⟩
end Go.Proofs.Ytlmdgaajkjbpgaa
/-
  Walks of layer 5's reference: a symbol's length, and distance.
-/
namespace Go.Proofs.Ytlmdgaajkjbpgaa
open Go.RowKit Go.Sort

theorem rpower_int (m : Int) (hm : 0 ≤ m ∧ m ≤ 20) (w : World) : Calls Try.prog 28 #[.int .i64 m] w fun e w' => e = .returned (.int .i64 ((2 : Int) ^ m.toNat)) ∧ w' = w := by
  obtain ⟨n, rfl⟩ := Int.eq_ofNat_of_zero_le hm.1
  exact rpower_any n (by omega) w

def atL : Nat → Int
  | 0 => 3
  | j + 1 => atL j + 2 ^ (if 265 ≤ 257 + j then (257 + j - 261) / 4 else 0)
set_option maxRecDepth 8000 in
set_option maxHeartbeats 8000000 in
theorem rlength_any (x : Int) (w : World) (hx : -9223372036854775808 ≤ x ∧ x ≤ 9223372036854775807) : Calls Try.prog 11 #[.int .i64 x] w (LdEnd (lenV5 x) w) := by
  by_cases h1 : x < 257
  · have HV : Hid (lenV5 x = (0, 0, false)) := Lib.hid (by unfold lenV5; rw [if_pos (.inl h1)])
    go_enter Try.func11, Try.ntmps11
    go_wp2
    go_ret3
    exact ⟨by rw [HV.out]; rfl, rfl⟩
  · have d1 : decide (x < 257) = false := decide_eq_false h1
    by_cases h2 : 285 < x
    · have HV : Hid (lenV5 x = (0, 0, false)) := Lib.hid (by unfold lenV5; rw [if_pos (.inr h2)])
      go_enter Try.func11, Try.ntmps11
      go_wp2
      go_ret3
      exact ⟨by rw [HV.out]; rfl, rfl⟩
    · have d2 : decide (285 < x) = false := decide_eq_false h2
      by_cases h3 : x = 285
      · subst h3
        go_enter Try.func11, Try.ntmps11
        go_wp2
        go_ret3
        exact ⟨rfl, rfl⟩
      go_enter Try.func11, Try.ntmps11
      go_wp2
      go_loop [5, 6] (fun va vk => ∃ K : Int, vk = .int .i64 K ∧ 257 ≤ K ∧ K ≤ x ∧ va = .int .i64 (atL (K - 257).toNat)) (fun _ vk => (x - intOf vk).toNat)
      case atStart => exact ⟨257, rfl, by omega, by omega, rfl⟩
      case round =>
        obtain ⟨K, rfl, hk1, hk2, rfl⟩ := hrel
        by_cases hlt : K < x
        · have hk3 : K = 257 ∨ K = 258 ∨ K = 259 ∨ K = 260 ∨ K = 261 ∨ K = 262 ∨ K = 263 ∨ K = 264 ∨ K = 265 ∨ K = 266 ∨ K = 267 ∨ K = 268 ∨ K = 269 ∨ K = 270 ∨ K = 271 ∨ K = 272 ∨ K = 273 ∨ K = 274 ∨ K = 275 ∨ K = 276 ∨ K = 277 ∨ K = 278 ∨ K = 279 ∨ K = 280 ∨ K = 281 ∨ K = 282 ∨ K = 283 := by omega
          have HX := Lib.hid (show 257 ≤ x ∧ x ≤ 285 by omega)
          rcases hk3 with rfl | rfl | rfl | rfl | rfl | rfl | rfl | rfl | rfl | rfl | rfl | rfl | rfl | rfl | rfl | rfl | rfl | rfl | rfl | rfl | rfl | rfl | rfl | rfl | rfl | rfl | rfl
          all_goals
            go_wp2_with fail
            refine (rpower_int _ (by decide) _).mono ?_
            rintro e w1 ⟨rfl, rfl⟩
            go_wp2
            go_round
            case rel => exact ⟨_, rfl, by omega, by omega, by kernel_rfl⟩
            case measure => simp [intOf]; omega
        · obtain rfl : K = x := by omega
          have hk3 : K = 257 ∨ K = 258 ∨ K = 259 ∨ K = 260 ∨ K = 261 ∨ K = 262 ∨ K = 263 ∨ K = 264 ∨ K = 265 ∨ K = 266 ∨ K = 267 ∨ K = 268 ∨ K = 269 ∨ K = 270 ∨ K = 271 ∨ K = 272 ∨ K = 273 ∨ K = 274 ∨ K = 275 ∨ K = 276 ∨ K = 277 ∨ K = 278 ∨ K = 279 ∨ K = 280 ∨ K = 281 ∨ K = 282 ∨ K = 283 ∨ K = 284 := by omega
          clear hx h1 h2 d1 d2 hk1 hk2 hlt
          rcases hk3 with rfl | rfl | rfl | rfl | rfl | rfl | rfl | rfl | rfl | rfl | rfl | rfl | rfl | rfl | rfl | rfl | rfl | rfl | rfl | rfl | rfl | rfl | rfl | rfl | rfl | rfl | rfl | rfl
          all_goals
            go_wp2
            go_ret3
            exact ⟨rfl, rfl⟩
end Go.Proofs.Ytlmdgaajkjbpgaa
/-
  Walks of layer 5's reference: a symbol's distance.
-/
namespace Go.Proofs.Ytlmdgaajkjbpgaa
open Go.RowKit Go.Sort


def atD : Nat → Int
  | 0 => 1
  | j + 1 => atD j + 2 ^ (if 4 ≤ j then (j - 2) / 2 else 0)
set_option maxRecDepth 8000 in
set_option maxHeartbeats 8000000 in
theorem rdistance_any (x : Int) (w : World) (hx : -9223372036854775808 ≤ x ∧ x ≤ 9223372036854775807) : Calls Try.prog 13 #[.int .i64 x] w (LdEnd (disV x) w) := by
  by_cases h1 : x < 0
  · have HV : Hid (disV x = (0, 0, false)) := Lib.hid (by unfold disV; rw [if_pos (.inl h1)])
    go_enter Try.func13, Try.ntmps13
    go_wp2
    go_ret3
    exact ⟨by rw [HV.out]; rfl, rfl⟩
  · have d1 : decide (x < 0) = false := decide_eq_false h1
    by_cases h2 : 29 < x
    · have HV : Hid (disV x = (0, 0, false)) := Lib.hid (by unfold disV; rw [if_pos (.inr h2)])
      go_enter Try.func13, Try.ntmps13
      go_wp2
      go_ret3
      exact ⟨by rw [HV.out]; rfl, rfl⟩
    · have d2 : decide (29 < x) = false := decide_eq_false h2
      go_enter Try.func13, Try.ntmps13
      go_wp2
      go_loop [5, 6] (fun va vk => ∃ K : Int, vk = .int .i64 K ∧ 0 ≤ K ∧ K ≤ x ∧ va = .int .i64 (atD (K - 0).toNat)) (fun _ vk => (x - intOf vk).toNat)
      case atStart => exact ⟨0, rfl, by omega, by omega, rfl⟩
      case round =>
        obtain ⟨K, rfl, hk1, hk2, rfl⟩ := hrel
        by_cases hlt : K < x
        · have hk3 : K = 0 ∨ K = 1 ∨ K = 2 ∨ K = 3 ∨ K = 4 ∨ K = 5 ∨ K = 6 ∨ K = 7 ∨ K = 8 ∨ K = 9 ∨ K = 10 ∨ K = 11 ∨ K = 12 ∨ K = 13 ∨ K = 14 ∨ K = 15 ∨ K = 16 ∨ K = 17 ∨ K = 18 ∨ K = 19 ∨ K = 20 ∨ K = 21 ∨ K = 22 ∨ K = 23 ∨ K = 24 ∨ K = 25 ∨ K = 26 ∨ K = 27 ∨ K = 28 := by omega
          have HX := Lib.hid (show 0 ≤ x ∧ x ≤ 29 by omega)
          rcases hk3 with rfl | rfl | rfl | rfl | rfl | rfl | rfl | rfl | rfl | rfl | rfl | rfl | rfl | rfl | rfl | rfl | rfl | rfl | rfl | rfl | rfl | rfl | rfl | rfl | rfl | rfl | rfl | rfl | rfl
          all_goals
            go_wp2_with fail
            refine (rpower_int _ (by decide) _).mono ?_
            rintro e w1 ⟨rfl, rfl⟩
            go_wp2
            go_round
            case rel => exact ⟨_, rfl, by omega, by omega, by kernel_rfl⟩
            case measure => simp [intOf]; omega
        · obtain rfl : K = x := by omega
          have hk3 : K = 0 ∨ K = 1 ∨ K = 2 ∨ K = 3 ∨ K = 4 ∨ K = 5 ∨ K = 6 ∨ K = 7 ∨ K = 8 ∨ K = 9 ∨ K = 10 ∨ K = 11 ∨ K = 12 ∨ K = 13 ∨ K = 14 ∨ K = 15 ∨ K = 16 ∨ K = 17 ∨ K = 18 ∨ K = 19 ∨ K = 20 ∨ K = 21 ∨ K = 22 ∨ K = 23 ∨ K = 24 ∨ K = 25 ∨ K = 26 ∨ K = 27 ∨ K = 28 ∨ K = 29 := by omega
          clear hx h1 h2 d1 d2 hk1 hk2 hlt
          rcases hk3 with rfl | rfl | rfl | rfl | rfl | rfl | rfl | rfl | rfl | rfl | rfl | rfl | rfl | rfl | rfl | rfl | rfl | rfl | rfl | rfl | rfl | rfl | rfl | rfl | rfl | rfl | rfl | rfl | rfl | rfl
          all_goals
            go_wp2
            go_ret3
            exact ⟨rfl, rfl⟩
end Go.Proofs.Ytlmdgaajkjbpgaa
