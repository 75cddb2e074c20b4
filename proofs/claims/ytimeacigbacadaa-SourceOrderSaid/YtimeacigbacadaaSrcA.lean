/-
  A source beside the pieces that were put: what both tell.
-/
import Derived.Test.YtimeacigbacadaaPc3
namespace Go.Proofs.Ytimeacigbacadaa
open Go.RowKit Go.Maps Go.Sort

theorem SrcQ.form {w : World} {U : Nat → Prop} {p tot N : Nat} {T : List (Int × Int)} {C : Nat → UInt8} (h : SrcQ w U p tot N T C) : Form T ∧ (∀ x ∈ T, x.2 ≤ (tot : Int)) ∧ tot ≤ 2147483647 := by
  obtain ⟨S, v, mb, n, f, h, -, hU⟩ := h
  exact ⟨h.form, h.in_, h.totb⟩

theorem SrcQ.keeps {w w' : World} {U V : Nat → Prop} {p tot N : Nat} {T : List (Int × Int)} {C : Nat → UInt8} (h : SrcQ w U p tot N T C) (hk : Keeps V w w') (hV : ∀ b, U b → ¬ V b) : SrcQ w' U p tot N T C := by
  obtain ⟨S, v, mb, n, f, h, hn, hU⟩ := h
  exact ⟨S, v, mb, n, f, ⟨h.set.keeps hk (fun b hb => hV b ((hU b).2 (.inl hb))), h.mem.keeps hk (fun b hb => hV b ((hU b).2 (.inr hb))), h.ap, h.form, h.in_, h.known, h.totb⟩, hn, hU⟩

/-- A source, made since a world, beside a row of pieces. -/
structure SrcU (w0 w : World) (U : Nat → Prop) (p tot k : Nat) (vp : Value) (PV PS : List Pc) : Prop where
  src : ∃ N T C, SrcQ w U p tot N T C ∧ (∀ i : Nat, cov T i ↔ (byteP PS i).isSome = true) ∧ (∀ i c, byteP PS i = some c → C i = c) ∧ T.length ≤ k ∧ N ≤ 3200 * k
  lo : ∀ b, U b → w0.heap.size ≤ b
  apart : ∀ b, vp.ownBlock = some b → ¬ U b
  below : Below w0.heap.size w0 w
  own : w.ownsRow w0.heap.size 45 2 vp PV.length (pcV PV)
  len : PV.length ≤ k
  each : ∀ q ∈ PS, Row w0 1 q.a q.bs.length q.cap (q.bs.map u8C) ∧ q.at_ + q.bs.length ≤ tot
theorem SrcU.mono {w0 w w' : World} {U : Nat → Prop} {p tot k : Nat} {vp : Value} {PV PS : List Pc} (h : SrcU w0 w U p tot k vp PV PS) (hb : Below w.heap.size w w') : SrcU w0 w' U p tot k vp PV PS := by
  obtain ⟨⟨N, T, C, h1, h2⟩, h3, h4, h5, h6, h7, h8⟩ := h
  exact ⟨⟨N, T, C, h1.mono hb, h2⟩, h3, h4, h5.trans (hb.mono h5.size), ownsRow_keep h6 hb, h7, h8⟩
theorem SrcU.row {w0 w : World} {U : Nat → Prop} {p tot k : Nat} {a : Option Addr} {n cap : Nat} {P : List Pc} (h : SrcU w0 w U p tot k (.slice a n cap) P P) : PRow w a P.length cap P := by
  obtain ⟨h1, h2⟩ := Row.of_own h.own
  subst h1
  exact ⟨h2, fun q hq => (h.each q hq).1.mono h.below⟩
theorem SrcU.ats {w0 w : World} {U : Nat → Prop} {p tot k : Nat} {vp : Value} {PV PS : List Pc} (h : SrcU w0 w U p tot k vp PV PS) (ht : tot ≤ 200) : ∀ q ∈ PS, q.at_ ≤ 4000000000 := fun q hq => by
  have := (h.each q hq).2
  omega

theorem first_is {T : List (Int × Int)} {f : Nat → Option UInt8} {tot : Nat} (hF : Form T) (hc : ∀ i : Nat, cov T i ↔ (f i).isSome = true) (hin : ∀ x ∈ T, x.2 ≤ (tot : Int)) (i : Nat) (hi : i ≤ tot) :
    ∃ u : Nat, uptoS T i = (u : Int) ∧ i ≤ u ∧ u ≤ tot ∧ FirstIs f tot i u := by
  obtain ⟨g1, g2, g3⟩ := uptoS_bd tot T i (fun x hx => (hF.full x hx).1)
  have g4 := g3 hin (by omega)
  obtain ⟨u, hu⟩ : ∃ u : Nat, uptoS T i = (u : Int) := ⟨(uptoS T i).toNat, by omega⟩
  have hn : ¬ cov T (uptoS T i) := by
    obtain ⟨h1, h2⟩ := upto_cov hF (i : Int)
    by_cases h0 : cov T i
    · exact (h1 h0).2.2
    · rw [h2 h0]; exact h0
  rw [hu] at g1 g2 g4 hn
  refine ⟨u, hu, by omega, by omega, .inr ⟨by omega, by omega, fun j h1 h2 => ?_, fun _ => ?_⟩⟩
  · exact Option.isSome_iff_exists.1 ((hc j).1 (g2 j (by omega) (by omega)))
  · rw [hc u] at hn
    simpa using hn

theorem both_first {w0 w : World} {U : Nat → Prop} {p tot k : Nat} {a : Option Addr} {n cap : Nat} {P : List Pc} (h : SrcU w0 w U p tot k (.slice a n cap) P P) (hk : k ≤ 31) (ht : tot ≤ 200) (x : Int) :
    ∃ m : Int, (∀ W, Below w.heap.size w W → Calls Try.prog 22 #[.pointer (some ⟨p, 0, none⟩), .int .i64 x] W fun e w' => e = .returned (.int .i64 m) ∧ Below W.heap.size W w') ∧
      ∀ W, Below w.heap.size w W → Calls Try.prog 23 #[.int .i64 tot, .slice a n cap, .int .i64 x] W fun e w' => e = .returned (.int .i64 m) ∧ Below W.heap.size W w' := by
  have hn : P.length = n := (Row.of_own h.own).1.symm
  subst hn
  obtain ⟨N, T, C, h1, h2, h3, h4, h5⟩ := h.src
  obtain ⟨hF, hin, htb⟩ := h1.form
  obtain ⟨i, hi⟩ : ∃ i : Nat, max 0 x = (i : Int) := ⟨(max 0 x).toNat, by omega⟩
  have hp := h.ats ht
  obtain ⟨m, hm1, hm2⟩ : ∃ m : Nat, min (tot : Int) (uptoS T (max 0 x)) = (m : Int) ∧ FirstIs (byteP P) tot i m := by
    rw [hi]
    by_cases hit : i ≤ tot
    · obtain ⟨u, hu, g1, g2, g3⟩ := first_is hF h2 hin i hit
      exact ⟨u, by rw [hu]; omega, g3⟩
    · obtain ⟨g1, -, -⟩ := uptoS_bd tot T i (fun x hx => (hF.full x hx).1)
      exact ⟨tot, by omega, .inl ⟨by omega, rfl⟩⟩
  refine ⟨m, fun W hW => ?_, fun W hW => rfirst_any a _ cap P tot x i m W (h.row.mono hW) hp (by omega) hi hm2⟩
  have := first_any (h1.mono hW) (by omega) x
  rw [hm1] at this
  exact this

theorem both_read {w0 w : World} {U : Nat → Prop} {p tot k : Nat} {a : Option Addr} {n cap : Nat} {P : List Pc} (h : SrcU w0 w U p tot k (.slice a n cap) P P) (hk : k ≤ 31) (ht : tot ≤ 200) (x most : Int) (h64 : most ≤ 9223372036854775807) :
    ∃ (o : List UInt8) (q : Bool), (Calls Try.prog 20 #[.pointer (some ⟨p, 0, none⟩), .int .i64 x, .int .i64 most] w fun e w' => ∃ v, e = .returned (.tuple #[v, .bool q]) ∧ w'.ownsRow w.heap.size 5 1 v o.length (o.map u8C) ∧ Below w.heap.size w w') ∧
      ∀ W, Below w.heap.size w W → Calls Try.prog 21 #[.int .i64 tot, .slice a n cap, .int .i64 x, .int .i64 most] W fun e w' => e = .returned (.tuple #[.string (mkB o), .bool q]) ∧ Below W.heap.size W w' := by
  have hn : P.length = n := (Row.of_own h.own).1.symm
  subst hn
  obtain ⟨N, T, C, h1, h2, h3, h4, h5⟩ := h.src
  obtain ⟨hF, hin, htb⟩ := h1.form
  have hp := h.ats ht
  by_cases hb : x < 0 ∨ (tot : Int) < x ∨ most < 0
  · refine ⟨[], false, (read_bad h1 x most hb).mono ?_, fun W hW => (rread_bad tot x most _ W hb).mono ?_⟩
    · rintro e w' ⟨rfl, rfl⟩
      exact ⟨_, rfl, World.ownsRow_nil _ _ _ _, Below.refl _ _⟩
    · rintro e w' ⟨rfl, rfl⟩
      exact ⟨rfl, Below.refl _ _⟩
  · obtain ⟨i, rfl⟩ := Int.eq_ofNat_of_zero_le (show 0 ≤ x by omega)
    obtain ⟨u, hu, g1, g2, g3⟩ := first_is hF h2 hin i (by omega)
    obtain ⟨m, hm⟩ : ∃ m : Nat, (m : Int) = min most ((u : Int) - i) := ⟨(min most ((u : Int) - i)).toNat, by omega⟩
    have hby : bytesC C i m = fB (byteP P) i m := by
      unfold bytesC fB
      refine List.map_congr_left fun q hq => ?_
      have hq := List.mem_range.1 hq
      rcases Nat.lt_or_ge i tot with hit | hit
      · obtain ⟨c, hc⟩ := g3.some (j := i + q) hit (by omega) (by omega)
        rw [h3 _ c hc, hc]; rfl
      · omega
    refine ⟨fB (byteP P) i m, decide (i + m = tot), (read_any h1 (by omega) i (by omega) most (by omega) h64 (n := m) (by rw [hu]; exact hm)).mono ?_, fun W hW => rread_any a _ cap P tot i u m most W (h.row.mono hW) hp (by omega) (by omega) (by omega) h64 g3 hm⟩
    rintro e w' ⟨v, rfl, hO, hB⟩
    rw [hby] at hO
    exact ⟨v, rfl, by rw [fB_len]; exact hO, hB⟩

theorem both_known {w0 w : World} {U : Nat → Prop} {p tot k : Nat} {a : Option Addr} {n cap : Nat} {P : List Pc} (h : SrcU w0 w U p tot k (.slice a n cap) P P) (hk : k ≤ 31) :
    ∃ T : List (Int × Int), T.length ≤ 31 ∧ (∀ W, Below w.heap.size w W → Calls Try.prog 25 #[.pointer (some ⟨p, 0, none⟩)] W (AllEnd T W)) ∧ ∀ L, SpOf tot (fun i => (byteP P i).isSome) L → L = T := by
  obtain ⟨N, T, C, h1, h2, h3, h4, h5⟩ := h.src
  obtain ⟨hF, hin, htb⟩ := h1.form
  refine ⟨T, by omega, fun W hW => known_any (h1.mono hW) (by omega), fun L hL => form_unique hL.form hF fun j => ?_⟩
  rw [hL.cov_ j]
  constructor
  · rintro ⟨g1, g2, g3⟩
    have := (h2 j.toNat).2 g3
    rwa [Int.toNat_of_nonneg g1] at this
  · intro hc
    have hc0 := hc
    obtain ⟨z, hz, z1, z2, z3⟩ := hc0
    have := hin z hz
    refine ⟨by omega, by omega, (h2 j.toNat).1 ?_⟩
    rw [Int.toNat_of_nonneg (by omega)]
    exact hc

theorem put_bytes {T T' : List (Int × Int)} {C C' : Nat → UInt8} {P : List Pc} {at_ : Nat} (a : Option Addr) (cap : Nat) {bs : List UInt8} (h2 : ∀ i : Nat, cov T i ↔ (byteP P i).isSome = true) (h3 : ∀ i c, byteP P i = some c → C i = c)
    (hP : PutS T ((at_ : Int), (at_ : Int) + bs.length) T') (hC : newC T C at_ bs C') :
    (∀ i : Nat, cov T' i ↔ (byteP (P ++ [⟨at_, a, cap, bs⟩]) i).isSome = true) ∧ ∀ i c, byteP (P ++ [⟨at_, a, cap, bs⟩]) i = some c → C' i = c := by
  obtain ⟨hF, hcov⟩ := putS_form hP
  constructor
  · intro i
    rw [hcov i, h2 i, byteP_snoc]
    have : cov [((at_ : Int), (at_ : Int) + (bs.length : Int))] (i : Int) ↔ at_ ≤ i ∧ i < at_ + bs.length := by
      have := cov_one at_ (at_ + bs.length) i
      rwa [show ((at_ + bs.length : Nat) : Int) = (at_ : Int) + bs.length by omega] at this
    rw [this]
    simp only [Option.isSome_or, Bool.or_eq_true]
    refine or_congr Iff.rfl ?_
    split <;> simp_all
  · intro i c hc
    rw [byteP_snoc] at hc
    obtain ⟨c1, c2⟩ := hC i
    cases hb : byteP P i with
    | some d =>
      rw [hb] at hc
      simp at hc
      subst hc
      rw [c1 ((h2 i).2 (by rw [hb]; rfl))]
      exact h3 i d hb
    | none =>
      rw [hb] at hc
      simp only [Option.none_or] at hc
      split at hc
      · rename_i hr
        simp at hc
        rw [c2 (fun e => by have := (h2 i).1 e; rw [hb] at this; cases this) hr.1 hr.2, ← hc]
        simp [List.getD]
      · cases hc

/-- What Put leaves beside the pieces. -/
def PutBeside (w0 w : World) (U : Nat → Prop) (p tot k : Nat) (vp : Value) (PV PS : List Pc) (w' : World) : Prop := ∃ U', SrcU w0 w' U' p tot k vp PV PS ∧ Keeps U w w' ∧ ∀ b, U' b → U b ∨ w.heap.size ≤ b

theorem sput_all {w0 w : World} {U : Nat → Prop} {p tot k : Nat} {vp : Value} {P : List Pc} (h : SrcU w0 w U p tot k vp P P) (hk : k ≤ 30) (at_ : Int) {a : Option Addr} {cap : Nat} {bs : List UInt8} (hr : Row w0 1 a bs.length cap (bs.map u8C)) (hl : bs.length ≤ 100) :
    Calls Try.prog 19 #[.pointer (some ⟨p, 0, none⟩), .int .i64 at_, .slice a bs.length cap] w fun e w' => e = .returned (.int .i64 (rput tot at_ bs.length)) ∧ PutBeside w0 w U p tot (k + 1) vp P (if rput tot at_ bs.length = 0 then P ++ [⟨at_.toNat, a, cap, bs⟩] else P) w' := by
  have hh := h
  obtain ⟨⟨N, T, C, h1, h2, h3, h4, h5⟩, hlo, hap, hbel, hown, hlen, hea⟩ := h
  have hstay : PutBeside w0 w U p tot (k + 1) vp P P w := ⟨U, ⟨⟨N, T, C, h1, h2, h3, by omega, by omega⟩, hlo, hap, hbel, hown, by omega, hea⟩, Keeps.refl _ _, fun b hb => .inl hb⟩
  by_cases hb : at_ < 0 ∨ (tot : Int) < at_
  · have e : rput tot at_ bs.length = 2 := by unfold rput; rw [if_pos hb]
    rw [e]
    refine (sput_bad h1 at_ _ hb).mono ?_
    rintro e w' ⟨rfl, rfl⟩
    exact ⟨rfl, hstay⟩
  · by_cases hf : (tot : Int) - at_ < bs.length
    · have e : rput tot at_ bs.length = 5 := by unfold rput; rw [if_neg hb, if_pos hf]
      rw [e]
      refine (sput_far h1 at_ a _ cap (by omega) (by omega) hf).mono ?_
      rintro e w' ⟨rfl, rfl⟩
      exact ⟨rfl, hstay⟩
    · have e : rput tot at_ bs.length = 0 := by unfold rput; rw [if_neg hb, if_neg hf]
      rw [e]
      obtain ⟨n, rfl⟩ := Int.eq_ofNat_of_zero_le (show 0 ≤ at_ by omega)
      have hm : (T.length + 1) * bs.length ≤ 32 * 100 := Nat.mul_le_mul (by omega) hl
      refine (sput_any h1 (by omega) n (hr.mono hbel) (fun hn x hx hUx => ?_) (by omega) (N' := 3200 * (k + 1)) (by omega) (by omega)).mono ?_
      · have g1 := row_block hr hn x hx
        have g2 := hlo _ hUx
        omega
      · rintro e w' ⟨rfl, U', T', C', g1, g2, g3, g4, g5⟩
        have hs := hbel.size
        obtain ⟨g6, g7⟩ := put_bytes a cap h2 h3 g2 g3
        rw [if_pos rfl]
        refine ⟨rfl, U', ⟨⟨3200 * (k + 1), T', C', g1, g6, g7, by have := putS_len g2; omega, Nat.le_refl _⟩, fun b hb => (g5 b hb).elim (hlo b) (fun e => by omega), fun b hb hU => ?_, hbel.trans (g4.below hs hlo), owns_keeps hown g4 hap, by omega, fun q hq => ?_⟩, g4, g5⟩
        · rcases g5 b hU with e | e
          · exact hap b hb e
          · have := (hown.lt b hb).2
            omega
        · rcases List.mem_append.1 hq with hq | hq
          · exact hea q hq
          · simp only [List.mem_singleton] at hq
            subst hq
            exact ⟨hr, by simp only [Int.toNat_natCast]; omega⟩

/-- The pieces take one more. -/
theorem SrcU.app {w0 w w' : World} {U : Nat → Prop} {p tot k : Nat} {vp vp' : Value} {P : List Pc} {x : Pc} {o : Obj} (h : SrcU w0 w U p tot (k + 1) vp P (P ++ [x])) (hP : P.length ≤ k)
    (hO : w'.ownsRow w0.heap.size 45 2 vp' (P.length + 1) (pcV P ++ pcV [x])) (hg : (w.alloc o).grownBy w' vp.ownBlock) (hN : NewAt (w.alloc o) vp vp') : SrcU w0 w' U p tot (k + 1) vp' (P ++ [x]) (P ++ [x]) := by
  obtain ⟨⟨N, T, C, h1, h2⟩, hlo, hap, hbel, hown, hlen, hea⟩ := h
  have hs := hbel.size
  have hU := h1.lt
  have hsz := sizeA w o
  refine ⟨⟨N, T, C, ?_, h2⟩, hlo, fun b hb hU2 => ?_, ?_, ?_, by simp; omega, hea⟩
  · have k0 : Keeps (fun b => vp.ownBlock = some b) w w' := ((Keeps.refl _ w).alloc o).grown hg (fun k hk => .inl hk)
    exact h1.keeps k0 (fun b hb e => hap b e hb)
  · rcases hN b hb with e | e
    · exact hap b e hU2
    · have := hU b hU2
      omega
  · exact (hbel.alloc hs _).grown hg (by omega) (fun q hq => (hown.lt q hq).1)
  · rw [pcV_append, List.length_append]; exact hO
end Go.Proofs.Ytimeacigbacadaa
