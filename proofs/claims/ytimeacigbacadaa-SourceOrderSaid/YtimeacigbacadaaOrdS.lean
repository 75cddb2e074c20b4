/-
  Two sources that take the pieces of one file: what each knows.
-/
import Derived.Test.YtimeacigbacadaaSrcA
import Derived.Test.YtimeacigbacadaaLawFar2
namespace Go.Proofs.Ytimeacigbacadaa
open Go.RowKit Go.Maps Go.Sort

def okS (n : Nat) (z : Int × Int) : Prop := 0 ≤ z.1 ∧ z.1 ≤ z.2 ∧ z.2 ≤ (n : Int)
def cvS (n : Nat) (L : List (Int × Int)) (i : Int) : Prop := ∃ z ∈ L, okS n z ∧ z.1 ≤ i ∧ i < z.2
theorem cvS_snoc (n : Nat) (L : List (Int × Int)) (z : Int × Int) (i : Int) : cvS n (L ++ [z]) i ↔ cvS n L i ∨ (okS n z ∧ z.1 ≤ i ∧ i < z.2) := by
  constructor
  · rintro ⟨x, hx, h⟩
    rcases List.mem_append.1 hx with hx | hx
    · exact .inl ⟨x, hx, h⟩
    · simp only [List.mem_singleton] at hx
      subst hx
      exact .inr h
  · rintro (⟨x, hx, h⟩ | h)
    · exact ⟨x, List.mem_append.2 (.inl hx), h⟩
    · exact ⟨z, List.mem_append.2 (.inr (by simp)), h⟩
theorem cvS_perm {n : Nat} {L L' : List (Int × Int)} (h : ∀ z, z ∈ L ↔ z ∈ L') (i : Int) : cvS n L i ↔ cvS n L' i :=
  ⟨fun ⟨z, hz, r⟩ => ⟨z, (h z).1 hz, r⟩, fun ⟨z, hz, r⟩ => ⟨z, (h z).2 hz, r⟩⟩
theorem cvS_rng {n : Nat} {L : List (Int × Int)} {i : Int} (h : cvS n L i) : 0 ≤ i ∧ i < (n : Int) := by
  obtain ⟨z, -, ⟨h1, h2, h3⟩, h4, h5⟩ := h
  omega

/-- How many bytes are known from f on. -/
def IsN (n : Nat) (L : List (Int × Int)) (f m : Nat) : Prop := f + m ≤ n ∧ (∀ j : Nat, f ≤ j → j < f + m → cvS n L j) ∧ (f + m < n → ¬ cvS n L ((f + m : Nat) : Int))
theorem IsN.le {n : Nat} {L L' : List (Int × Int)} {f m m' : Nat} (h : IsN n L f m) (h' : IsN n L' f m') (hs : ∀ i, cvS n L i → cvS n L' i) : m ≤ m' := by
  obtain ⟨h1, h2, h3⟩ := h
  obtain ⟨g1, g2, g3⟩ := h'
  rcases Nat.lt_or_ge m' m with hlt | hge
  · exact absurd (hs _ (h2 (f + m') (by omega) (by omega))) (g3 (by omega))
  · exact hge

/-- A source that knows what of the file's bytes the spans tell. -/
structure OrdS (w0 w : World) (U : Nat → Prop) (p : Nat) (bs : List UInt8) (k : Nat) (L : List (Int × Int)) : Prop where
  src : ∃ N T C, SrcQ w U p bs.length N T C ∧ (∀ i : Nat, cov T i ↔ cvS bs.length L i) ∧ (∀ i : Nat, cov T i → C i = bs.getD i 0) ∧ T.length ≤ k ∧ N ≤ 9300 * k
  lo : ∀ b, U b → w0.heap.size ≤ b
theorem OrdS.mono {w0 w w' : World} {U : Nat → Prop} {p k : Nat} {bs : List UInt8} {L : List (Int × Int)} (h : OrdS w0 w U p bs k L) (hb : Below w.heap.size w w') : OrdS w0 w' U p bs k L := by
  obtain ⟨⟨N, T, C, h1, h2⟩, h3⟩ := h
  exact ⟨⟨N, T, C, h1.mono hb, h2⟩, h3⟩
theorem OrdS.keeps {w0 w w' : World} {U V : Nat → Prop} {p k : Nat} {bs : List UInt8} {L : List (Int × Int)} (h : OrdS w0 w U p bs k L) (hk : Keeps V w w') (hV : ∀ b, U b → ¬ V b) : OrdS w0 w' U p bs k L := by
  obtain ⟨⟨N, T, C, h1, h2⟩, h3⟩ := h
  exact ⟨⟨N, T, C, h1.keeps hk hV, h2⟩, h3⟩
theorem OrdS.lt {w0 w : World} {U : Nat → Prop} {p k : Nat} {bs : List UInt8} {L : List (Int × Int)} (h : OrdS w0 w U p bs k L) : ∀ b, U b → b < w.heap.size := by
  obtain ⟨⟨N, T, C, h1, h2⟩, h3⟩ := h
  exact h1.lt
theorem OrdS.skip {w0 w : World} {U : Nat → Prop} {p k : Nat} {bs : List UInt8} {L : List (Int × Int)} {z : Int × Int} (h : OrdS w0 w U p bs k L) (hz : ¬ okS bs.length z) : OrdS w0 w U p bs (k + 1) (L ++ [z]) := by
  obtain ⟨⟨N, T, C, h1, h2, h3, h4, h5⟩, h6⟩ := h
  refine ⟨⟨N, T, C, h1, fun i => ?_, h3, by omega, by omega⟩, h6⟩
  rw [h2 i, cvS_snoc]
  exact ⟨.inl, fun h => h.elim id fun h => absurd h.1 hz⟩

def chB (bs : List UInt8) (u v : Nat) : List UInt8 := (bs.drop u).take (v - u)
theorem chB_len {bs : List UInt8} {u v : Nat} (hv : v ≤ bs.length) : (chB bs u v).length = v - u := by simp [chB]; omega
theorem chB_get {bs : List UInt8} {u v i : Nat} (h1 : u ≤ i) (h2 : i < v) : (chB bs u v).getD (i - u) 0 = bs.getD i 0 := by
  unfold chB
  rw [List.getD_eq_getElem?_getD, List.getD_eq_getElem?_getD, List.getElem?_take, if_pos (by omega), List.getElem?_drop, show u + (i - u) = i by omega]

theorem ord_put {w0 w : World} {U : Nat → Prop} {p k : Nat} {bs : List UInt8} {L : List (Int × Int)} (h : OrdS w0 w U p bs k L) (hk : k ≤ 30) (hl : bs.length ≤ 300) (hbel : Below w0.heap.size w0 w) {u v : Nat} (huv : u ≤ v) (hv : v ≤ bs.length) {a : Option Addr} {cap : Nat}
    (hr : Row w0 1 a (v - u) cap ((chB bs u v).map u8C)) :
    Calls Try.prog 19 #[.pointer (some ⟨p, 0, none⟩), .int .i64 u, .slice a (v - u) cap] w fun e w' => e = .returned (.int .i64 0) ∧ ∃ U', OrdS w0 w' U' p bs (k + 1) (L ++ [((u : Int), (v : Int))]) ∧ Keeps U w w' ∧ ∀ b, U' b → U b ∨ w.heap.size ≤ b := by
  obtain ⟨⟨N, T, C, h1, h2, h3, h4, h5⟩, h6⟩ := h
  have hcl := chB_len (bs := bs) (u := u) (v := v) hv
  have hm : (T.length + 1) * (chB bs u v).length ≤ 31 * 300 := Nat.mul_le_mul (by omega) (by omega)
  rw [← hcl] at hr ⊢
  refine (sput_any h1 (by omega) u (hr.mono hbel) (fun hn x hx hUx => ?_) (by omega) (N' := 9300 * (k + 1)) (by omega) (by omega)).mono ?_
  · have g1 := row_block hr hn x hx
    have g2 := h6 _ hUx
    omega
  · rintro e w' ⟨rfl, U', T', C', g1, g2, g3, g4, g5⟩
    obtain ⟨hF, hcov⟩ := putS_form g2
    have hs := hbel.size
    have hone : ∀ i : Nat, cov [((u : Int), (u : Int) + ((chB bs u v).length : Int))] i ↔ u ≤ i ∧ i < v := fun i => by
      have := cov_one u v i
      rwa [show (u : Int) + ((chB bs u v).length : Int) = (v : Int) by omega]
    refine ⟨rfl, U', ⟨⟨9300 * (k + 1), T', C', g1, fun i => ?_, fun i hi => ?_, by have := putS_len g2; omega, Nat.le_refl _⟩, fun b hb => (g5 b hb).elim (h6 b) (fun e => by omega)⟩, g4, g5⟩
    · rw [hcov i, h2 i, cvS_snoc, hone i]
      refine or_congr Iff.rfl ⟨fun h => ⟨⟨by omega, by omega, by omega⟩, by omega, by omega⟩, fun h => by omega⟩
    · obtain ⟨c1, c2⟩ := g3 i
      by_cases hc : cov T i
      · rw [c1 hc]; exact h3 i hc
      · have := (hone i).1 (((hcov i).1 hi).resolve_left hc)
        rw [c2 hc (by omega) (by omega), chB_get (by omega) (by omega)]

theorem ord_read {w0 w : World} {U : Nat → Prop} {p k : Nat} {bs : List UInt8} {L : List (Int × Int)} (h : OrdS w0 w U p bs k L) (hk : k ≤ 31) (f : Nat) (hf : f ≤ bs.length) (hl : bs.length ≤ 300) :
    ∃ m, IsN bs.length L f m ∧ Calls Try.prog 20 #[.pointer (some ⟨p, 0, none⟩), .int .i64 f, .int .i64 (bs.length : Nat)] w fun e w' => ∃ v, e = .returned (.tuple #[v, .bool (decide (f + m = bs.length))]) ∧ w'.ownsRow w.heap.size 5 1 v m ((chB bs f (f + m)).map u8C) ∧ Below w.heap.size w w' := by
  obtain ⟨⟨N, T, C, h1, h2, h3, h4, h5⟩, h6⟩ := h
  obtain ⟨hF, hin, htb⟩ := h1.form
  obtain ⟨g1, g2, g3⟩ := uptoS_bd bs.length T f (fun x hx => (hF.full x hx).1)
  have g4 := g3 hin (by omega)
  obtain ⟨u, hu⟩ : ∃ u : Nat, uptoS T f = (u : Int) := ⟨(uptoS T f).toNat, by omega⟩
  have hn : ¬ cov T (uptoS T f) := by
    obtain ⟨h1, h2⟩ := upto_cov hF (f : Int)
    by_cases h0 : cov T f
    · exact (h1 h0).2.2
    · rw [h2 h0]; exact h0
  rw [hu] at g1 g2 g4 hn
  obtain ⟨m, rfl⟩ : ∃ m, u = f + m := ⟨u - f, by omega⟩
  have hby : bytesC C f m = chB bs f (f + m) := by
    unfold bytesC
    apply List.ext_getElem?
    intro j
    by_cases hj : j < m
    · have e1 : ((List.range m).map fun i => C (f + i))[j]? = some (C (f + j)) := by simp [hj]
      have hjl : f + j < bs.length := by omega
      rw [e1, h3 _ (g2 _ (by omega) (by omega))]
      simp [chB, List.getElem?_take, hj, hjl, List.getD]
    · rw [List.getElem?_eq_none (by simp; omega), List.getElem?_eq_none (by rw [chB_len (by omega)]; omega)]
  refine ⟨m, ⟨by omega, fun j hj hj2 => (h2 j).1 (g2 _ (by omega) (by omega)), fun _ hc => hn ((h2 (f + m)).2 hc)⟩, (read_any h1 (by omega) f (by omega) (bs.length : Nat) (by omega) (by omega) (n := m) (by rw [hu]; omega)).mono ?_⟩
  rintro e w' ⟨v, rfl, hO, hB⟩
  rw [hby] at hO
  exact ⟨v, rfl, hO, hB⟩

theorem ord_known {w0 w : World} {U : Nat → Prop} {p k : Nat} {bs : List UInt8} {L : List (Int × Int)} (h : OrdS w0 w U p bs k L) (hk : k ≤ 31) :
    ∃ T : List (Int × Int), T.length ≤ 31 ∧ Form T ∧ (∀ j : Int, cov T j ↔ cvS bs.length L j) ∧ ∀ W, Below w.heap.size w W → Calls Try.prog 25 #[.pointer (some ⟨p, 0, none⟩)] W (AllEnd T W) := by
  obtain ⟨⟨N, T, C, h1, h2, h3, h4, h5⟩, h6⟩ := h
  obtain ⟨hF, hin, htb⟩ := h1.form
  refine ⟨T, by omega, hF, fun j => ?_, fun W hW => known_any (h1.mono hW) (by omega)⟩
  constructor
  · intro hc
    have hc0 := hc
    obtain ⟨z, hz, z1, z2, z3⟩ := hc0
    have := (h2 j.toNat).1 (by rwa [Int.toNat_of_nonneg (by omega)])
    rwa [Int.toNat_of_nonneg (by omega)] at this
  · intro hc
    have := cvS_rng hc
    have := (h2 j.toNat).2 (by rwa [Int.toNat_of_nonneg (by omega)])
    rwa [Int.toNat_of_nonneg (by omega)] at this

/-- Two of them, apart. -/
structure TwoS (w0 w : World) (U1 U2 : Nat → Prop) (p1 p2 : Nat) (bs : List UInt8) (k1 : Nat) (L1 : List (Int × Int)) (k2 : Nat) (L2 : List (Int × Int)) : Prop where
  s : OrdS w0 w U1 p1 bs k1 L1
  t : OrdS w0 w U2 p2 bs k2 L2
  ap : ∀ b, U1 b → ¬ U2 b
  below : Below w0.heap.size w0 w
theorem TwoS.mono {w0 w w' : World} {U1 U2 : Nat → Prop} {p1 p2 k1 k2 : Nat} {bs : List UInt8} {L1 L2 : List (Int × Int)} (h : TwoS w0 w U1 U2 p1 p2 bs k1 L1 k2 L2) (hb : Below w.heap.size w w') : TwoS w0 w' U1 U2 p1 p2 bs k1 L1 k2 L2 :=
  ⟨h.s.mono hb, h.t.mono hb, h.ap, h.below.trans (hb.mono h.below.size)⟩
theorem TwoS.flip {w0 w : World} {U1 U2 : Nat → Prop} {p1 p2 k1 k2 : Nat} {bs : List UInt8} {L1 L2 : List (Int × Int)} (h : TwoS w0 w U1 U2 p1 p2 bs k1 L1 k2 L2) : TwoS w0 w U2 U1 p2 p1 bs k2 L2 k1 L1 :=
  ⟨h.t, h.s, fun b h2 h1 => h.ap b h1 h2, h.below⟩
theorem TwoS.skip {w0 w : World} {U1 U2 : Nat → Prop} {p1 p2 k1 k2 : Nat} {bs : List UInt8} {L1 L2 : List (Int × Int)} {z : Int × Int} (h : TwoS w0 w U1 U2 p1 p2 bs k1 L1 k2 L2) (hz : ¬ okS bs.length z) : TwoS w0 w U1 U2 p1 p2 bs (k1 + 1) (L1 ++ [z]) k2 L2 :=
  ⟨h.s.skip hz, h.t, h.ap, h.below⟩
theorem two_put {w0 w : World} {U1 U2 : Nat → Prop} {p1 p2 k1 k2 : Nat} {bs : List UInt8} {L1 L2 : List (Int × Int)} (h : TwoS w0 w U1 U2 p1 p2 bs k1 L1 k2 L2) (hk : k1 ≤ 30) (hl : bs.length ≤ 300) {u v : Nat} (huv : u ≤ v) (hv : v ≤ bs.length) {a : Option Addr} {cap : Nat}
    (hr : Row w0 1 a (v - u) cap ((chB bs u v).map u8C)) :
    Calls Try.prog 19 #[.pointer (some ⟨p1, 0, none⟩), .int .i64 u, .slice a (v - u) cap] w fun e w' => e = .returned (.int .i64 0) ∧ ∃ U', TwoS w0 w' U' U2 p1 p2 bs (k1 + 1) (L1 ++ [((u : Int), (v : Int))]) k2 L2 ∧ Keeps U1 w w' ∧ ∀ b, U' b → U1 b ∨ w.heap.size ≤ b := by
  refine (ord_put h.s hk hl h.below huv hv hr).mono ?_
  rintro e w' ⟨rfl, U', h1, h2, h3⟩
  refine ⟨rfl, U', ⟨h1, h.t.keeps h2 (fun b hb e => h.ap b e hb), fun b hb e => (h3 b hb).elim (fun e1 => h.ap b e1 e) (fun e1 => by have := h.t.lt b e; omega), h.below.trans (h2.below h.below.size h.s.lo)⟩, h2, h3⟩
end Go.Proofs.Ytimeacigbacadaa
