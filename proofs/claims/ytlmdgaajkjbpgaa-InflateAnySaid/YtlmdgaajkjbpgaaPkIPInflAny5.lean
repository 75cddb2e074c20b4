/-
  Our texts Rd7 to LawIAny, in one.
-/
import Derived.Test.YtlmdgaajkjbpgaaPkIPInflAny4
/-
  Walks of the reference of layer 5: all that is packed.
-/
namespace Go.Proofs.Ytlmdgaajkjbpgaa
open Go.RowKit Go.Sort

theorem row_new_at {w' : World} {base : Nat} {v : Value} {a : Option Addr} {n c : Nat} {xs : List Value} (hO : w'.ownsRow base 3 1 v n xs) (hv : v = .slice a n c) : ∀ x, a = some x → base ≤ x.block ∧ x.block < w'.heap.size := fun x hx => hO.lt x.block (by rw [hv, hx]; rfl)
set_option maxRecDepth 20000 in
set_option maxHeartbeats 4000000 in
theorem rfixed_new (w : World) : Calls Try.prog 15 #[] w fun e w' => ∃ a c b f, e = .returned (.tuple #[.slice a 288 c, .slice b 30 f]) ∧ Row w' 1 a 288 c (iV fixL) ∧ Row w' 1 b 30 f (iV fixD) ∧ (∀ x, a = some x → w.heap.size ≤ x.block ∧ x.block < w'.heap.size) ∧ (∀ x, b = some x → w.heap.size ≤ x.block ∧ x.block < w'.heap.size) ∧ Below w.heap.size w w' := by
  go_enter Try.func15, Try.ntmps15
  go_wp2
  go_loopw [2, 4] (fun vo vk wr => ∃ k : Nat, vk = .int .i64 k ∧ k ≤ 288 ∧ Hid (wr.ownsRow w.heap.size 3 1 vo k (iV (fixA k))) ∧ Hid (Below w.heap.size w wr)) (fun _ vk _ => 288 - (intOf vk).toNat)
  case atStart => exact ⟨0, rfl, Nat.zero_le _, Lib.hid (World.ownsRow_nil _ _ _ _), Lib.hid (Below.refl _ _)⟩
  case round =>
    obtain ⟨k, rfl, hk, HO, HW⟩ := hrel
    obtain ⟨a0, c0, hv, -, -⟩ := Row.of_owns HO.out
    subst hv
    have hsz := HW.out.size
    by_cases hlt : k < 288
    · obtain ⟨v, hv⟩ : ∃ v, (if k < 144 ∨ 279 < k then (8 : Int) else if k < 256 then 9 else 7) = v := ⟨_, rfl⟩
      have HSN := Lib.hid (fixA_snoc k v hv)
      have hway : (k < 144 ∧ v = 8) ∨ (144 ≤ k ∧ k < 256 ∧ v = 9) ∨ (256 ≤ k ∧ k < 280 ∧ v = 7) ∨ (280 ≤ k ∧ v = 8) := by
        by_cases q1 : k < 144
        · exact .inl ⟨q1, by rw [← hv, if_pos (.inl q1)]⟩
        · by_cases q2 : 279 < k
          · exact .inr (.inr (.inr ⟨by omega, by rw [← hv, if_pos (.inr q2)]⟩))
          · by_cases q3 : k < 256
            · exact .inr (.inl ⟨by omega, q3, by rw [← hv, if_neg (by omega), if_pos q3]⟩)
            · exact .inr (.inr (.inl ⟨by omega, by omega, by rw [← hv, if_neg (by omega), if_neg q3]⟩))
      clear hv
      rcases hway with ⟨q1, rfl⟩ | ⟨q1, q2, rfl⟩ | ⟨q1, q2, rfl⟩ | ⟨q1, rfl⟩
      all_goals
        go_wp2_with (at_builtin; refine append_row EInt rfl (.tmp 23) (.tmp 25) rfl w.heap.size _ k _ rfl (HO.out.alloc _) _ 1 _ _ rfl (row_new1 _ _ _) (one_int _) (by unfold maxLen; omega) (by omega) (by rw [sizeA]; omega) ?_; intro v' w5 hO5 hg5 hnil5; have HO5 := Lib.hid hO5; have HG5 := Lib.hid hg5; clear hO5 hg5 hnil5)
        go_roundw
        case rel => exact ⟨k + 1, by go_num, by omega, Lib.hid (by rw [HSN.out, iV, List.map_append]; exact HO5.out), Lib.hid ((HW.out.alloc hsz _).grown HG5.out (by rw [sizeA]; omega) (fun q hq => (HO.out.lt q hq).1))⟩
        case measure => simp [intOf]; omega
    · have hk8 : k = 288 := by omega
      have HL := Lib.hid (show fixA k = fixL by rw [hk8, fixA_288])
      have HK := Lib.hid hk8
      have hki : decide ((k : Int) < 288) = false := decide_eq_false (by omega)
      have hki2 : decide (k < 288) = false := decide_eq_false (by omega)
      clear hk8
      obtain ⟨w1, hw1⟩ : ∃ w1, w1 = wr := ⟨_, rfl⟩
      subst hw1
      go_wp2
      go_loopw [3, 6] (fun vo vk w2 => ∃ k : Nat, vk = .int .i64 k ∧ k ≤ 30 ∧ Hid (w2.ownsRow w1.heap.size 3 1 vo k (iV (List.replicate k 5))) ∧ Hid (Below w1.heap.size w1 w2)) (fun _ vk _ => 30 - (intOf vk).toNat)
      case atStart => exact ⟨0, rfl, Nat.zero_le _, Lib.hid (World.ownsRow_nil _ _ _ _), Lib.hid (Below.refl _ _)⟩
      case round =>
        obtain ⟨j, rfl, hj, HO2, HW2⟩ := hrel
        obtain ⟨a2, c2, hv, -, -⟩ := Row.of_owns HO2.out
        subst hv
        have hsz2 := HW2.out.size
        by_cases hlt2 : j < 30
        · have HSN := Lib.hid (show List.replicate (j + 1) (5 : Int) = List.replicate j 5 ++ [5] from by rw [List.replicate_succ'])
          go_wp2_with (at_builtin; refine append_row EInt rfl (.tmp 31) (.tmp 32) rfl w1.heap.size _ j _ rfl (HO2.out.alloc _) _ 1 _ _ rfl (row_new1 _ _ _) (one_int _) (by unfold maxLen; omega) (by omega) (by rw [sizeA]; omega) ?_; intro v' w5 hO5 hg5 hnil5; have HO5 := Lib.hid (show w5.ownsRow w1.heap.size 3 1 v' (j + 1) (iV (List.replicate (j + 1) 5)) from by rw [HSN.out, iV, List.map_append]; exact hO5); have HG5 := Lib.hid hg5; clear hO5 hg5 hnil5)
          go_roundw
          case rel => exact ⟨j + 1, by go_num, by omega, HO5, Lib.hid ((HW2.out.alloc hsz2 _).grown HG5.out (by rw [sizeA]; omega) (fun q hq => (HO2.out.lt q hq).1))⟩
          case measure => simp [intOf]; omega
        · obtain rfl : j = 30 := by omega
          go_wp2
          go_ret2
          have h1 := (Row.of_own (ownsRow_keep HO.out HW2.out)).2
          have h2 := (Row.of_own HO2.out).2
          rw [HL.out] at h1
          have h3 : iV (List.replicate 30 5) = iV fixD := rfl
          rw [h3] at h2
          have hsz := HW2.out.size
          refine ⟨a0, c0, a2, c2, by rw [HK.out]; rfl, by rw [← HK.out]; exact h1, h2, fun x hx => ?_, fun x hx => ?_, HW.out.trans (HW2.out.mono HW.out.size)⟩
          · have := row_new_at HO.out rfl x hx; omega
          · have := row_new_at HO2.out rfl x hx; have := HW.out.size; omega
theorem inflO_at {bs : List UInt8} {most g : Nat} {s : IS} {x : Bool × IS} (hx : blockO bs most g s = some x) (h0 : x.1 = false) : x.2.e = 0 := by
  unfold blockO at hx
  obtain ⟨y, hy, rfl⟩ := Option.map_eq_some_iff.1 hx
  unfold endV at h0 ⊢
  simp at h0
  exact h0.2
theorem numV_bit (bs : List UInt8) (s : IS) : (numV bs 1 s).1 < 2 := numV_lt5 bs 1 s
theorem num_at {bs : List UInt8} {n : Nat} {s : IS} (h : (numV bs n s).2.e = 0) : (numV bs n s).2.at_ = s.at_ + n := by
  have h0 := numV_e h
  have hn0 : ¬ s.e ≠ 0 := by simp [h0]
  unfold numV at h ⊢
  simp only [if_neg hn0] at h ⊢
  split at h
  · cases h
  · rename_i h1; rw [if_neg h1]
theorem MO.coded {bs : List UInt8} {most : Nat} {l d : List Int} : ∀ g s s', codedO bs most l d g s = some s' → MO s s'
  | 0, _, _, h => by cases h
  | g + 1, s, s', h => by
    unfold codedO at h
    split at h
    · exact ((MO.sym _ _ _).trans (MO.code _ _ _ _ _)).trans (MO.coded g _ _ h)
    · cases h; exact (MO.sym _ _ _).trans (MO.code _ _ _ _ _)
theorem MO.lensC {bs : List UInt8} {l out : List Int} {s : IS} {k : Nat} {v : Int} {s2 : IS} (h : lensC bs l out s = some (k, v, s2)) : MO s s2 := by
  have h0 := MO.sym bs l s
  unfold _root_.Go.Proofs.Ytlmdgaajkjbpgaa.lensC at h
  split at h
  · split at h
    · cases h
    · cases h; exact h0.trans (MO.num _ _ _)
  · split at h
    · cases h; exact h0.trans (MO.num _ _ _)
    · split at h
      · cases h; exact h0.trans (MO.num _ _ _)
      · cases h; exact h0
theorem MO.lens {bs : List UInt8} {l : List Int} {n : Nat} : ∀ g out s V, lensO bs l n g out s = some V → MO s V.2
  | 0, _, _, _, h => by cases h
  | g + 1, out, s, V, h => by
    unfold lensO at h
    split at h
    · cases h; exact MO.refl _
    · split at h
      · exact ((MO.sym _ _ _).trans (MO.fail _ (by decide) _)).trans (MO.lens g _ _ V h)
      · rename_i hc
        split at h
        · exact ((MO.lensC hc).trans (MO.fail _ (by decide) _)).trans (MO.lens g _ _ V h)
        · exact (MO.lensC hc).trans (MO.lens g _ _ V h)
theorem MO.dyn (bs : List UInt8) (s : IS) : MO s (dynS bs s) := by
  have h : MO s (dyn3 bs s).2 := ((MO.num bs 5 s).trans (MO.num bs 5 _)).trans (MO.num bs 4 _)
  unfold dynS
  split
  · exact h.trans (MO.fail _ (by decide) _)
  · exact h
theorem MO.dynL {bs : List UInt8} {g : Nat} {s : IS} {V : List Int × IS} (h : dynL bs g s = some V) : MO s V.2 :=
  (((MO.dyn bs s).trans (MO.of bs _ _)).trans (MO.tab _ _)).trans (MO.lens _ _ _ _ h)
theorem MO.stored (bs : List UInt8) (most : Nat) (s : IS) : MO s (storedV bs most s) := by
  have ma : MO s (alV s) := fun h => ⟨h, by unfold alV; simp only; omega⟩
  unfold storedV
  refine MO.trans ?_ (MO.sto _ _ _ _)
  split
  · exact (ma.trans (MO.num _ _ _)).trans (MO.num _ _ _)
  · exact ((ma.trans (MO.num _ _ _)).trans (MO.num _ _ _)).trans (MO.fail _ (by decide) _)
theorem MO.kind {bs : List UInt8} {most g kind : Nat} {s s' : IS} (h : kindO bs most g kind s = some s') : MO s s' := by
  unfold kindO at h
  split at h
  · cases h; exact MO.refl _
  · split at h
    · cases h; exact MO.stored _ _ _
    · split at h
      · exact MO.coded _ _ _ h
      · split at h
        · unfold dynB at h
          split at h
          · cases h
          · rename_i V hV
            exact ((MO.dynL hV).trans (MO.tabs _ _)).trans (MO.coded _ _ _ h)
        · cases h; exact MO.fail _ (by decide) _
theorem rat_block {bs : List UInt8} {most g : Nat} {s s2 : IS} (h : kindO bs most g (numV bs 2 (numV bs 1 s).2).1 (numV bs 2 (numV bs 1 s).2).2 = some s2) (he : s2.e = 0) : s.at_ + 1 ≤ s2.at_ := by
  have h1 := MO.kind h he
  have h2 := num_at h1.1
  have h3 := num_at (numV_e h1.1)
  omega

theorem bitsL_bl5 (bs : List UInt8) (m : Nat) : bitsL bs false m = (bl bs false 0 m).map Value.bool := by simp [bitsL, bl]
/-- One block of the reference's, taken apart. -/
theorem infl_step {bs : List UInt8} {most g n : Nat} {s1 s : IS} (h : inflO bs most g n s1 = some s) : ∃ n' S3, kindO bs most g (numV bs 2 (numV bs 1 s1).2).1 (numV bs 2 (numV bs 1 s1).2).2 = some S3 ∧ ((numV bs 1 s1).1 = 0 ∧ S3.e = 0 → inflO bs most g n' S3 = some s) ∧ (¬ ((numV bs 1 s1).1 = 0 ∧ S3.e = 0) → s = S3) := by
  cases n with
  | zero => cases h
  | succ n =>
    unfold inflO blockO at h
    cases hk : kindO bs most g (numV bs 2 (numV bs 1 s1).2).1 (numV bs 2 (numV bs 1 s1).2).2 with
    | none => rw [hk] at h; cases h
    | some S3 =>
      rw [hk] at h
      simp only [Option.map_some] at h
      have hb := numV_bit bs s1
      refine ⟨n, S3, rfl, fun ⟨h1, h2⟩ => ?_, fun hn => ?_⟩
      · rw [if_neg (by unfold endV; simp [h1, h2])] at h
        exact h
      · have ht : (endV (numV bs 1 s1).1 S3).1 = true := by
          unfold endV
          by_cases h2 : S3.e = 0
          · have h1 : (numV bs 1 s1).1 = 1 := by
              have : ¬ (numV bs 1 s1).1 = 0 := fun h1 => hn ⟨h1, h2⟩
              omega
            simp [h1]
          · simp [h2]
        rw [if_pos ht] at h
        exact (Option.some.inj h).symm

set_option maxRecDepth 100000 in
set_option maxHeartbeats 8000000 in
theorem rinflate_any (w : World) (a : Option Addr) (cap most : Nat) (bs : List UInt8) (hr : Row w 1 a bs.length cap (bs.map u8C)) (hbl : bs.length ≤ 1000) (hm : most ≤ 16777216) (g n : Nat) {s : IS} (hg : inflO bs most g n ⟨0, 0, []⟩ = some s) :
    Calls Try.prog 9 #[.slice a bs.length cap, .int .i64 most] w (InfRes s w) := by
  have HB := Lib.hid (bits_any a cap bs false w hr (by omega))
  have hd1 : decide ((most : Int) < 0) = false := decide_eq_false (by omega)
  have hd2 : decide ((16777216 : Int) < most) = false := decide_eq_false (by omega)
  have hd3 : decide (16777216 < most) = false := decide_eq_false (by omega)
  have HG := Lib.hid hg
  clear hr hg
  go_enter Try.func9, Try.ntmps9
  go_wp2_with fail
  refine HB.out.mono ?_
  rintro e w1 ⟨v, rfl, hO, hb⟩
  obtain ⟨aB, cB, hv, hrow, -⟩ := Row.of_owns hO
  subst hv
  rw [bitsL_bl5] at hrow hO
  obtain ⟨rb, hrb⟩ : ∃ rb, rb = w1.heap.size := ⟨_, rfl⟩
  have HST := Lib.hid (show IsR (w1.alloc (.cells #[.slice aB (8 * bs.length) cB, .int .i64 0, .int .i64 0, .slice none 0 0, .int .i64 most] 53)) (fun b => b = rb) rb aB cB bs most ⟨0, 0, []⟩ from
    ⟨⟨.slice none 0 0, heapA_new _ hrb, World.ownsRow_nil _ _ _ _, fun b hb => (by cases hb)⟩, hrow.mono (belowA _ _), fun x hx => by rw [hrb]; exact (hO.lt x.block (by rw [hx]; rfl)).2, Nat.zero_le _, rfl, fun b hb => by rw [sizeA]; omega⟩)
  have HBE := Lib.hid (hb.trans ((belowA w1 (.cells #[.slice aB (8 * bs.length) cB, .int .i64 0, .int .i64 0, .slice none 0 0, .int .i64 most] 53)).mono hb.size))
  have HRB := Lib.hid (show w.heap.size ≤ rb by rw [hrb]; exact hb.size)
  clear hO hb hrow
  go_wp2_with fail
  rw [← hrb]
  generalize w1.alloc (.cells #[.slice aB (8 * bs.length) cB, .int .i64 0, .int .i64 0, .slice none 0 0, .int .i64 most] 53) = W2 at *
  clear hrb
  go_loopw [8, 9] (fun vl vn wr => ∃ (k lst : Nat) (U1 : Nat → Prop) (s1 : IS), vl = .int .i64 lst ∧ vn = .int .i64 k ∧ lst < 2 ∧ Hid (IsR wr U1 rb aB cB bs most s1) ∧ Hid (Below w.heap.size w wr) ∧ Hid (∀ b, U1 b → w.heap.size ≤ b) ∧ Hid (s1.out.length ≤ most) ∧ Hid (lst = 0 ∧ s1.e = 0 → k ≤ s1.at_ ∧ ∃ n, inflO bs most g n s1 = some s) ∧ Hid (¬ (lst = 0 ∧ s1.e = 0) → s = s1)) (fun _ vn _ => 8 * bs.length + 1 - (intOf vn).toNat)
  case atStart => exact ⟨0, 0, _, ⟨0, 0, []⟩, rfl, rfl, by omega, HST, HBE, Lib.hid (fun b hb => by rw [hb]; exact HRB.out), Lib.hid (Nat.zero_le _), Lib.hid (fun _ => ⟨Nat.le_refl _, n, HG.out⟩), Lib.hid (fun h => absurd ⟨rfl, rfl⟩ h)⟩
  case round =>
    obtain ⟨k, lst, U1, s1, rfl, rfl, hl2, HS, HB1, HU1, HO1, HRUN, HEND⟩ := hrel
    clear HST HBE HG
    obtain ⟨c0, c1, c2, c4, f1, f2, f3⟩ := HS.out.cells
    have hat := HS.out.le
    obtain ⟨L, hL⟩ : ∃ L, L = 8 * bs.length := ⟨_, rfl⟩
    have HL := Lib.hid hL
    rw [← hL] at hat
    have j1 : (8 : Int) * (bs.length : Int) = (L : Int) := by omega
    have j2 : IntKind.i64.wrap (L : Int) = (L : Int) := IntWalk.i64_in _ (by omega)
    by_cases hact : lst = 0 ∧ s1.e = 0
    · obtain ⟨rfl, he⟩ := hact
      obtain ⟨hk, n', hn'⟩ := HRUN.out ⟨rfl, he⟩
      obtain ⟨n2, S3, hS3, hgo, hst⟩ := infl_step hn'
      have HAT := Lib.hid (fun h0 : S3.e = 0 => rat_block hS3 h0)
      have HLE := Lib.hid (kindO_le hS3 (by rw [numV_o, numV_o]; exact HO1.out))
      have hd : decide ((k : Int) ≤ (L : Int)) = true := decide_eq_true (by omega)
      have hdn : decide (k ≤ L) = true := decide_eq_true (by omega)
      have HKL := Lib.hid (show k ≤ 8 * bs.length by omega)
      have HKA := Lib.hid hk
      have HN1 := Lib.hid (rnum_any HS.out 1 (by omega) (by omega))
      have HN2 := Lib.hid (fun (W : World) (hW : IsR W U1 rb aB cB bs most (numV bs 1 s1).2) => rnum_any hW 2 (by omega) (by omega))
      have hb1 := numV_bit bs s1
      have hb2 := numV_lt5 bs 2 (numV bs 1 s1).2
      have ho2 : (numV bs 2 (numV bs 1 s1).2).2.out.length ≤ most := by rw [numV_o, numV_o]; exact HO1.out
      change Hid (Calls _ _ #[_, .int .i64 1] wr fun x w' => x = .returned (.int .i64 ((numV bs 1 s1).1 : Nat)) ∧ IsR w' U1 rb aB cB bs most (numV bs 1 s1).2 ∧ Keeps U1 wr w') at HN1
      change Hid (∀ W, _ → Calls _ _ #[_, .int .i64 2] W fun x w' => x = .returned (.int .i64 ((numV bs 2 (numV bs 1 s1).2).1 : Nat)) ∧ IsR w' U1 rb aB cB bs most (numV bs 2 (numV bs 1 s1).2).2 ∧ Keeps U1 W w') at HN2
      generalize numV bs 2 (numV bs 1 s1).2 = x2 at *
      generalize numV bs 1 s1 = x1 at *
      obtain ⟨a1, sA⟩ := x1
      obtain ⟨kd, sB⟩ := x2
      dsimp only at *
      have HGO := Lib.hid hgo
      have HSTOP := Lib.hid hst
      have HS3 := Lib.hid hS3
      have HO2 := Lib.hid ho2
      rw [he] at c2
      clear hn' hS3 hgo hst hk ho2 hL HRUN HEND hat
      go_wp2_with fail
      refine HN1.out.mono ?_
      rintro e w3 ⟨rfl, p1, k1⟩
      have HN2 := Lib.hid (HN2.out _ p1)
      have HK1 := Lib.hid k1
      clear p1 k1
      go_wp2_with fail
      refine HN2.out.mono ?_
      rintro e w4 ⟨rfl, p2, k2⟩
      have HS4 := Lib.hid p2
      have HK4 := Lib.hid (HK1.out.trans k2 (fun _ hb => .inl hb))
      have HX := Lib.hid (fun (W : World) (h : RNext w4 U1 rb aB cB bs most S3 W) => RNext.trans HK4.out (fun _ hb => .inl hb) h)
      obtain ⟨d0, d1, d2, d4, g1, g2, g3⟩ := p2.cells
      clear p2 k2 c0 c1 c2 c4 f1 f2 f3 HN1 HN2 HK1
      by_cases he : sB.e = 0
      · rw [he] at d2
        have hs3 := HS3.out
        unfold kindO at hs3
        rw [if_neg (by simp [he])] at hs3
        have HE := Lib.hid he
        clear he
        by_cases k0 : kd = 0
        · subst k0
          rw [if_pos rfl] at hs3
          have HST := Lib.hid (rsto_any HS4.out (by omega) (by omega) HO2.out)
          rw [Option.some.inj hs3] at HST
          clear hs3
          go_wp2_with fail
          refine HST.out.mono ?_
          rintro e w5 ⟨rfl, h5⟩
          have H5 := Lib.hid h5
          clear h5
          obtain ⟨U2, z1, z2, z3⟩ := H5.out
          have hk9 := HK4.out.trans z2 (fun _ hb => .inl hb)
          have HZ1 := Lib.hid z1
          have HZ2 := Lib.hid (HB1.out.trans (hk9.below HB1.out.size HU1.out))
          have HZ3 := Lib.hid (show ∀ b, U2 b → w.heap.size ≤ b from fun b hb => (z3 b hb).elim (HU1.out b) (fun h => by have := HB1.out.size; have := HK4.out.size; omega))
          have hkl := HKL.out
          clear d0 d1 d2 d4 g1 g2 g3 z1 z2 z3 hk9
          go_wp2
          go_roundw
          case rel => exact ⟨k + 1, a1, U2, S3, rfl, by go_num, hb1, HZ1, HZ2, HZ3, HLE, Lib.hid (fun h => ⟨by have h1 := HAT.out h.2; have h2 := HKA.out; omega, n2, HGO.out h⟩), Lib.hid (fun h => HSTOP.out h)⟩
          case measure => simp [intOf]; omega
        · by_cases k1 : kd = 1
          · subst k1
            rw [if_neg k0, if_pos rfl] at hs3
            have HC3 := Lib.hid hs3
            have HFX := Lib.hid (rfixed_new w4)
            clear hs3
            go_wp2_with fail
            refine HFX.out.mono ?_
            rintro e w5 ⟨a5, c5, b5, f5, rfl, hra, hrb, ha, hb, hbel⟩
            have HCD := Lib.hid (rcoded_any (s' := S3) (HS4.out.mono hbel) hra hrb (fun x hx => ⟨(ha x hx).2, fun hu => by have h1 := (ha x hx).1; have h2 := HS4.out.blt hu; omega⟩) (fun x hx => ⟨(hb x hx).2, fun hu => by have h1 := (hb x hx).1; have h2 := HS4.out.blt hu; omega⟩) (by rw [fixL_len]; omega) (by rw [fixD_len]; omega) (by omega) HO2.out (by omega) g (by rw [tabV_fixL, tabV_fixD]; exact HC3.out))
            have HK5 := Lib.hid (Keeps.any (S := U1) hbel)
            clear hra hrb ha hb hbel
            go_wp2_with fail
            refine HCD.out.mono ?_
            rintro e w6 ⟨rfl, h6⟩
            have H6 := Lib.hid (RNext.trans HK5.out (fun _ hb => .inl hb) h6)
            clear h6
            obtain ⟨U2, z1, z2, z3⟩ := H6.out
            have hk9 := HK4.out.trans z2 (fun _ hb => .inl hb)
            have HZ1 := Lib.hid z1
            have HZ2 := Lib.hid (HB1.out.trans (hk9.below HB1.out.size HU1.out))
            have HZ3 := Lib.hid (show ∀ b, U2 b → w.heap.size ≤ b from fun b hb => (z3 b hb).elim (HU1.out b) (fun h => by have := HB1.out.size; have := HK4.out.size; omega))
            have hkl := HKL.out
            clear d0 d1 d2 d4 g1 g2 g3 z1 z2 z3 hk9
            go_wp2
            go_roundw
            case rel => exact ⟨k + 1, a1, U2, S3, rfl, by go_num, hb1, HZ1, HZ2, HZ3, HLE, Lib.hid (fun h => ⟨by have h1 := HAT.out h.2; have h2 := HKA.out; omega, n2, HGO.out h⟩), Lib.hid (fun h => HSTOP.out h)⟩
            case measure => simp [intOf]; omega
          · by_cases k2 : kd = 2
            · subst k2
              rw [if_neg k0, if_neg k1, if_pos rfl] at hs3
              have HDY := Lib.hid (rdyn_any HS4.out (by omega) HO2.out (by omega) g hs3)
              clear hs3
              go_wp2_with fail
              refine HDY.out.mono ?_
              rintro e w5 ⟨rfl, h5⟩
              have H5 := Lib.hid h5
              clear h5
              obtain ⟨U2, z1, z2, z3⟩ := H5.out
              have hk9 := HK4.out.trans z2 (fun _ hb => .inl hb)
              have HZ1 := Lib.hid z1
              have HZ2 := Lib.hid (HB1.out.trans (hk9.below HB1.out.size HU1.out))
              have HZ3 := Lib.hid (show ∀ b, U2 b → w.heap.size ≤ b from fun b hb => (z3 b hb).elim (HU1.out b) (fun h => by have := HB1.out.size; have := HK4.out.size; omega))
              have hkl := HKL.out
              clear d0 d1 d2 d4 g1 g2 g3 z1 z2 z3 hk9
              go_wp2
              go_roundw
              case rel => exact ⟨k + 1, a1, U2, S3, rfl, by go_num, hb1, HZ1, HZ2, HZ3, HLE, Lib.hid (fun h => ⟨by have h1 := HAT.out h.2; have h2 := HKA.out; omega, n2, HGO.out h⟩), Lib.hid (fun h => HSTOP.out h)⟩
              case measure => simp [intOf]; omega
            · rw [if_neg k0, if_neg k1, if_neg k2] at hs3
              have HF := Lib.hid (rfail_any HS4.out 11)
              rw [Option.some.inj hs3] at HF
              have q0 : ((kd : Int) == 0) = false := by rw [beq_eq_false_iff_ne]; omega
              have q1 : ((kd : Int) == 1) = false := by rw [beq_eq_false_iff_ne]; omega
              have q2 : ((kd : Int) == 2) = false := by rw [beq_eq_false_iff_ne]; omega
              clear hs3
              go_wp2_with fail
              refine HF.out.mono ?_
              rintro e w5 ⟨rfl, h5, k5⟩
              have H5 := Lib.hid (IsR.next ⟨h5, k5⟩)
              clear h5 k5
              obtain ⟨U2, z1, z2, z3⟩ := H5.out
              have hk9 := HK4.out.trans z2 (fun _ hb => .inl hb)
              have HZ1 := Lib.hid z1
              have HZ2 := Lib.hid (HB1.out.trans (hk9.below HB1.out.size HU1.out))
              have HZ3 := Lib.hid (show ∀ b, U2 b → w.heap.size ≤ b from fun b hb => (z3 b hb).elim (HU1.out b) (fun h => by have := HB1.out.size; have := HK4.out.size; omega))
              have hkl := HKL.out
              clear d0 d1 d2 d4 g1 g2 g3 z1 z2 z3 hk9
              go_wp2
              go_roundw
              case rel => exact ⟨k + 1, a1, U2, S3, rfl, by go_num, hb1, HZ1, HZ2, HZ3, HLE, Lib.hid (fun h => ⟨by have h1 := HAT.out h.2; have h2 := HKA.out; omega, n2, HGO.out h⟩), Lib.hid (fun h => HSTOP.out h)⟩
              case measure => simp [intOf]; omega
      · have hs3 := HS3.out
        unfold kindO at hs3
        rw [if_pos he] at hs3
        have H5 := Lib.hid (show RNext w4 U1 rb aB cB bs most S3 w4 from IsR.next ⟨by rw [← Option.some.inj hs3]; exact HS4.out, Keeps.refl _ _⟩)
        have heb : (sB.e != 0) = true := by rw [bne_iff_ne]; exact he
        clear hs3
        obtain ⟨U2, z1, z2, z3⟩ := H5.out
        have hk9 := HK4.out.trans z2 (fun _ hb => .inl hb)
        have HZ1 := Lib.hid z1
        have HZ2 := Lib.hid (HB1.out.trans (hk9.below HB1.out.size HU1.out))
        have HZ3 := Lib.hid (show ∀ b, U2 b → w.heap.size ≤ b from fun b hb => (z3 b hb).elim (HU1.out b) (fun h => by have := HB1.out.size; have := HK4.out.size; omega))
        have hkl := HKL.out
        clear z1 z2 z3 hk9
        go_wp2
        go_roundw
        case rel => exact ⟨k + 1, a1, U2, S3, rfl, by go_num, hb1, HZ1, HZ2, HZ3, HLE, Lib.hid (fun h => ⟨by have h1 := HAT.out h.2; have h2 := HKA.out; omega, n2, HGO.out h⟩), Lib.hid (fun h => HSTOP.out h)⟩
        case measure => simp [intOf]; omega
    · have hs := HEND.out hact
      have hres : ∀ (v : Value) (B : Nat), v = v ∧ B = B := fun _ _ => ⟨rfl, rfl⟩
      clear hres HRUN HEND
      by_cases he : s1.e = 0
      · have hl1 : lst = 1 := by
          have : ¬ lst = 0 := fun h => hact ⟨h, he⟩
          omega
        subst hl1
        rw [he] at c2
        obtain ⟨vq, hvq, hOq, hUq⟩ := HS.out.ex
        obtain ⟨a7, cap7, hva, -, -⟩ := Row.of_owns hOq
        subst hva
        have c3 : wr.cell? ⟨rb, 3, none⟩ = some (.slice a7 s1.out.length cap7) := by rw [cell_of_row wr rb _ _ _ _ hvq]; rfl
        have HOQ := Lib.hid hOq
        obtain ⟨q, hq⟩ : ∃ q, q = (s1.at_ + 7) / 8 := ⟨_, rfl⟩
        have HRES := Lib.hid (show ∀ W : World, Below wr.heap.size wr W → InfRes s w (.returned (.tuple #[.slice a7 s1.out.length cap7, .int .i64 (q : Nat), .int .i64 0])) W from fun W hW => by
          have e1 : resO s = s1.out := by rw [hs]; exact if_pos he
          have e2 : resN s = q := by rw [hs, hq]; exact if_pos he
          exact ⟨_, rb + 1, by rw [e2, hs, he], by rw [e1]; exact ownsRow_keep HOQ.out hW, HB1.out.trans (hW.mono HB1.out.size)⟩)
        have i1 : IntKind.i64.wrap ((s1.at_ : Int) + 7) = (s1.at_ : Int) + 7 := IntWalk.i64_in _ (by omega)
        have hq1 : ((s1.at_ : Int) + 7) / 8 = (q : Int) := by omega
        have hq2 : ((s1.at_ : Int) + 7).tdiv 8 = (q : Int) := by rw [Int.tdiv_eq_ediv_of_nonneg (by omega)]; exact hq1
        have i2 : IntKind.i64.wrap (q : Int) = (q : Int) := IntWalk.i64_in _ (by omega)
        clear hvq hOq hUq hq hs hact hat hL
        by_cases hkL : k ≤ L
        · have hd : decide ((k : Int) ≤ (L : Int)) = true := decide_eq_true (by omega)
          go_wp2_with fail
          go_quiet (fail)
          all_goals (try go_wp2)
          all_goals go_ret3
          all_goals exact HRES.out _ (below_drewN5 (Below.refl _ _) _)
        · have hd : decide ((k : Int) ≤ (L : Int)) = false := decide_eq_false (by omega)
          go_wp2_with fail
          go_quiet (fail)
          all_goals (try go_wp2)
          all_goals go_ret3
          all_goals exact HRES.out _ (below_drewN5 (Below.refl _ _) _)
      · have heb : (s1.e != 0) = true := by rw [bne_iff_ne]; exact he
        have heb2 : (s1.e == 0) = false := by rw [beq_eq_false_iff_ne]; exact he
        have HRES := Lib.hid (show ∀ W : World, Below wr.heap.size wr W → InfRes s w (.returned (.tuple #[.slice none 0 0, .int .i64 0, .int .i64 s1.e])) W from fun W hW => by
          have e1 : resO s = [] := by rw [hs]; exact if_neg he
          have e2 : resN s = 0 := by rw [hs]; exact if_neg he
          exact ⟨_, 0, by rw [e2, hs]; rfl, by rw [e1]; exact World.ownsRow_nil _ _ _ _, HB1.out.trans (hW.mono HB1.out.size)⟩)
        clear hs hact hat hL
        by_cases hkL : k ≤ L
        · have hd : decide ((k : Int) ≤ (L : Int)) = true := decide_eq_true (by omega)
          by_cases hl0 : lst = 0
          · subst hl0
            go_wp2_with fail
            go_quiet (fail)
            all_goals (try go_wp2)
            all_goals go_ret3
            all_goals exact HRES.out _ (below_drewN5 (Below.refl _ _) _)
          · have hlb : ((lst : Int) == 0) = false := by rw [beq_eq_false_iff_ne]; omega
            go_wp2_with fail
            go_quiet (fail)
            all_goals (try go_wp2)
            all_goals go_ret3
            all_goals exact HRES.out _ (below_drewN5 (Below.refl _ _) _)
        · have hd : decide ((k : Int) ≤ (L : Int)) = false := decide_eq_false (by omega)
          go_wp2_with fail
          go_quiet (fail)
          all_goals (try go_wp2)
          all_goals go_ret3
          all_goals exact HRES.out _ (below_drewN5 (Below.refl _ _) _)
end Go.Proofs.Ytlmdgaajkjbpgaa
/-
  The walk of the law InflateAny.
-/
namespace Go.Proofs.Ytlmdgaajkjbpgaa
open Go.RowKit Go.Sort

def badI : IS := ⟨0, 2, []⟩
theorem inflate_bad (w : World) (a : Option Addr) (n cap : Nat) (most : Int) (hm : most < 0 ∨ 16777216 < most) (h63 : -9223372036854775808 ≤ most ∧ most ≤ 9223372036854775807) :
    Calls Try.prog 8 #[.slice a n cap, .int .i64 most] w fun e w' => e = .returned (.tuple #[.slice none 0 0, .int .i64 0, .int .i64 2]) ∧ Below w.heap.size w w' := by
  by_cases h0 : most < 0
  · have hd1 : decide (most < 0) = true := decide_eq_true h0
    go_enter Try.func8, Try.ntmps8
    go_wp2
    go_step3
    go_wp2
    all_goals (try rw [Exit.noGoto_ret])
    all_goals go_ret3
    all_goals exact ⟨rfl, Below.refl _ _⟩
  · have hd1 : decide (most < 0) = false := decide_eq_false h0
    have hd2 : decide (16777216 < most) = true := decide_eq_true (by omega)
    go_enter Try.func8, Try.ntmps8
    go_wp2
    go_step3
    go_wp2
    all_goals (try rw [Exit.noGoto_ret])
    all_goals go_ret3
    all_goals exact ⟨rfl, Below.refl _ _⟩
theorem rinflate_bad (w : World) (a : Option Addr) (n cap : Nat) (most : Int) (hm : most < 0 ∨ 16777216 < most) (h63 : -9223372036854775808 ≤ most ∧ most ≤ 9223372036854775807) :
    Calls Try.prog 9 #[.slice a n cap, .int .i64 most] w fun e w' => e = .returned (.tuple #[.slice none 0 0, .int .i64 0, .int .i64 2]) ∧ Below w.heap.size w w' := by
  by_cases h0 : most < 0
  · have hd1 : decide (most < 0) = true := decide_eq_true h0
    go_enter Try.func9, Try.ntmps9
    go_wp2
    go_ret3
    exact ⟨rfl, Below.refl _ _⟩
  · have hd1 : decide (most < 0) = false := decide_eq_false h0
    have hd2 : decide (16777216 < most) = true := decide_eq_true (by omega)
    go_enter Try.func9, Try.ntmps9
    go_wp2
    go_ret3
    exact ⟨rfl, Below.refl _ _⟩

set_option maxRecDepth 20000 in
set_option maxHeartbeats 4000000 in
theorem law_iany (most : Int) (a : Option Addr) (cap : Nat) (bs : List UInt8) (w : World) (h63 : -9223372036854775808 ≤ most ∧ most ≤ 9223372036854775807) (hr : Row w 1 a bs.length cap (bs.map u8C)) :
    Calls Try.prog 3 #[.slice a bs.length cap, .int .i64 most] w fun e w' => e = .returned (.bool true) ∧ Below w.heap.size w w' := by
  have HW := Lib.hid (fun W => works_any W)
  by_cases hl : 300 < bs.length
  · have hd : decide ((300 : Int) < (bs.length : Int)) = true := decide_eq_true (by omega)
    have hdn : decide (300 < bs.length) = true := decide_eq_true (by omega)
    clear hr
    go_enter Try.func3, Try.ntmps3
    go_wp2_with fail
    refine (HW.out w).mono ?_
    rintro e w1 ⟨rfl, hb⟩
    go_wp2
    go_ret
    exact ⟨rfl, hb⟩
  · have hd : decide ((300 : Int) < (bs.length : Int)) = false := decide_eq_false (by omega)
    have hdn : decide (300 < bs.length) = false := decide_eq_false (by omega)
    by_cases hbad : most < 0 ∨ 16777216 < most
    · have HA := Lib.hid (inflate_bad w a bs.length cap most hbad h63)
      have HB := Lib.hid (fun W => rinflate_bad W a bs.length cap most hbad h63)
      have hcx : ∀ W : World, (convert 22 9 (.slice none 0 0)).run Try.prog W = .ok (.string (mkB [])) W := fun W => conv_own (base := 0) (o := []) (World.ownsRow_nil _ _ _ _)
      have hd2 : decide ((2000 : Int) < most) = false ∨ (decide ((2000 : Int) < most) = true ∧ decide (most ≤ 16777216) = false) := by
        rcases hbad with h | h
        · exact .inl (decide_eq_false (by omega))
        · exact .inr ⟨decide_eq_true (by omega), decide_eq_false (by omega)⟩
      clear hr hbad
      rcases hd2 with hd2 | ⟨hd2, hd3⟩
      all_goals
        go_enter Try.func3, Try.ntmps3
        go_wp2_with fail
        refine HA.out.mono ?_
        rintro e w1 ⟨rfl, hb1⟩
        have HB1 := Lib.hid hb1
        clear hb1
        go_wp2_with fail
        refine (HB.out w1).mono ?_
        rintro e w2 ⟨rfl, hb2⟩
        have HB2 := Lib.hid (HB1.out.trans (hb2.mono HB1.out.size))
        have hcx2 := hcx w2
        clear hb2 hcx
        go_wp2_with fail
        refine (HW.out w2).mono ?_
        rintro e w3 ⟨rfl, hb⟩
        have HB3 := Lib.hid (HB2.out.trans (hb.mono HB2.out.size))
        clear hb
        go_wp2
        go_ret
        exact ⟨rfl, HB3.out⟩
    · obtain ⟨q, rfl⟩ := Int.eq_ofNat_of_zero_le (show 0 ≤ most by omega)
      by_cases hq : 2000 < q
      · have hd2 : decide ((2000 : Int) < (q : Int)) = true := decide_eq_true (by omega)
        have hd2n : decide (2000 < q) = true := decide_eq_true (by omega)
        have hd3 : decide ((q : Int) ≤ 16777216) = true := decide_eq_true (by omega)
        have hd3n : decide (q ≤ 16777216) = true := decide_eq_true (by omega)
        clear hr
        go_enter Try.func3, Try.ntmps3
        go_wp2_with fail
        refine (HW.out w).mono ?_
        rintro e w1 ⟨rfl, hb⟩
        go_wp2
        go_ret
        exact ⟨rfl, hb⟩
      · have hd2 : decide ((2000 : Int) < (q : Int)) = false := decide_eq_false (by omega)
        have hd2n : decide (2000 < q) = false := decide_eq_false (by omega)
        have HA := Lib.hid (inflate_res w a cap q bs hr (by omega) (by omega))
        have HB := Lib.hid (fun (W : World) (h : Below w.heap.size w W) => rinflate_any W a cap q bs (hr.mono h) (by omega) (by omega) (fuelI bs) (fuelI bs) (endI_is bs q).1)
        generalize endI bs q = S at *
        clear hr
        go_enter Try.func3, Try.ntmps3
        go_wp2_with fail
        refine HA.out.mono ?_
        rintro e w1 ⟨v1, B1, rfl, hO1, hb1⟩
        obtain ⟨a1, c1, rfl, -, -⟩ := Row.of_owns hO1
        have HO1 := Lib.hid hO1
        have HB1 := Lib.hid hb1
        clear hO1 hb1
        go_wp2_with fail
        refine (HB.out w1 HB1.out).mono ?_
        rintro e w2 ⟨v2, B2, rfl, hO2, hb2⟩
        obtain ⟨a2, c2, rfl, -, -⟩ := Row.of_owns hO2
        have HB2 := Lib.hid (HB1.out.trans (hb2.mono HB1.out.size))
        have hcx := conv_own (ownsRow_keep HO1.out hb2)
        have hcy := conv_own hO2
        clear hO2 hb2
        go_wp2_with fail
        refine (HW.out w2).mono ?_
        rintro e w3 ⟨rfl, hb⟩
        have HB3 := Lib.hid (HB2.out.trans (hb.mono HB2.out.size))
        clear hb
        go_wp2
        go_ret
        exact ⟨rfl, HB3.out⟩
end Go.Proofs.Ytlmdgaajkjbpgaa
