/-
  The walk of lex.All: all tokens of any bytes stand behind one another.
-/
import Derived.Test.YtkolfecjlbnfkaaLexH
import Derived.Test.YtkolfecjlbnfkaaLexQ
import Derived.Deep.AppendLies
namespace Go.Proofs.Ytkolfecjlbnfkaa
open Go.RowKit

/-- Tokens behind one another, from a place on, up to a place. -/
def ChainT (bs : List UInt8) : Int → List (Tk × Int × Int) → Int → Prop
  | a, [], b => a = b
  | a, y :: l, b => nextV bs a true = (y.1, y.2.1, y.2.2, 0) ∧ y.1.kind ≠ 0 ∧ ChainT bs y.2.2 l b
theorem ChainT.snoc {bs : List UInt8} : ∀ {l : List (Tk × Int × Int)} {a b : Int} {x : Tk} {f t : Int}, ChainT bs a l b → nextV bs b true = (x, f, t, 0) → x.kind ≠ 0 → ChainT bs a (l ++ [(x, f, t)]) t
  | [], a, b, x, f, t, h, h1, h2 => by
    have h : a = b := h
    subst h
    exact ⟨h1, h2, rfl⟩
  | y :: l, a, b, x, f, t, h, h1, h2 => ⟨h.1, h.2.1, ChainT.snoc h.2.2 h1 h2⟩

/-- Tokens as cells. -/
def tkV : List (Tk × Int × Int) → List Value
  | [] => []
  | y :: l => (tokN y.1 y.2.1 y.2.2).toList ++ tkV l
theorem tkV_append : ∀ (l m : List (Tk × Int × Int)), tkV (l ++ m) = tkV l ++ tkV m
  | [], m => rfl
  | y :: l, m => by rw [List.cons_append, tkV, tkV, tkV_append l m, List.append_assoc]
theorem tkV_len : ∀ (l : List (Tk × Int × Int)), (tkV l).length = l.length * 8
  | [] => rfl
  | y :: l => by
    have := tkV_len l
    rw [tkV, List.length_append, this, List.length_cons]
    simp [tokN]; omega
theorem tkV_get : ∀ (l : List (Tk × Int × Int)) (m i : Nat) (h : m < l.length), i < 8 → (tkV l)[m * 8 + i]? = (tokN (l[m]).1 (l[m]).2.1 (l[m]).2.2)[i]?
  | [], m, i, h, _ => by simp at h
  | y :: l, 0, i, h, hi => by
    rw [tkV, Nat.zero_mul, Nat.zero_add, List.getElem?_append_left (by simp [tokN]; omega)]
    simp
  | y :: l, m + 1, i, h, hi => by
    rw [tkV, List.getElem?_append_right (by simp [tokN]; omega)]
    rw [show (m + 1) * 8 + i - (tokN y.1 y.2.1 y.2.2).toList.length = m * 8 + i by simp [tokN]; omega]
    rw [tkV_get l m i (by simpa using h) hi]
    rfl
theorem tkV_one : ∀ (l : List (Tk × Int × Int)), ∀ u ∈ tkV l, u.oneCell' = true
  | [], u, h => by simp [tkV] at h
  | y :: l, u, h => by
    rw [tkV, List.mem_append] at h
    rcases h with h | h
    · simp [tokN] at h
      rcases h with rfl | rfl | rfl | rfl | rfl | rfl | rfl | rfl <;> rfl
    · exact tkV_one l u h
theorem ETok : ElemT Try.prog 45 28 (.agg #[.int .i64 0, .int .i64 0, .int .i64 0, .int .i64 0, .int .i64 0, .string ⟨#[]⟩, .slice none 0 0, .string ⟨#[]⟩]) 8 96 := ⟨Try.underlying45, by kernel_rfl, rfl, by omega⟩
/-- The one element that 'append(v, x)' lays first. -/
theorem row_newC (w : World) (cs : Array Value) (e : TypeId) (n : Nat) (hn : cs.size = n) : Row (w.alloc (.cells cs e)) n (some ⟨w.heap.size, 0, none⟩) 1 1 cs.toList :=
  ⟨by simp [hn], Nat.le_refl _, by simp [maxLen], fun h => (by cases h), fun _ => ⟨w.heap.size, 0, rfl, by rw [sizeA]; omega, fun j u hj => by
    rw [Nat.zero_add, cell_of_row _ _ _ _ _ _ (heapA_new _ rfl)]; simpa using hj⟩⟩

theorem row_newE (w : World) (cs : Array Value) (e : TypeId) (n : Nat) (hn : cs.size = n) {b : Nat} (hb : w.heap.size = b) : Row (w.alloc (.cells cs e)) n (some ⟨b, 0, none⟩) 1 1 cs.toList := by
  subst hb; exact row_newC w cs e n hn
/-- What All leaves. -/
def AllTEnd (bs : List UInt8) (w : World) (e : Ending) (w' : World) : Prop :=
  Below w.heap.size w w' ∧ ∃ (v : Value) (L : List (Tk × Int × Int)) (A to er : Int), e = .returned (.tuple #[v, .int .i64 to, .int .i64 er]) ∧ w'.ownsRow w.heap.size 28 8 v L.length (tkV L) ∧ L.length ≤ bs.length ∧
    ChainT bs 0 L A ∧ 0 ≤ A ∧ A ≤ bs.length ∧
    (∃ x f t, nextV bs A true = (x, f, t, er) ∧ ((er ≠ 0 ∧ to = f) ∨ (er = 0 ∧ x.kind = 0 ∧ to = A)))

set_option maxRecDepth 8000 in
set_option maxHeartbeats 8000000 in
theorem all_tok {w : World} {a : Option Addr} {cap : Nat} {bs : List UInt8} (hr : Row w 1 a bs.length cap (bs.map u8C)) (hn : bs.length ≤ 400) :
    Calls Try.prog 19 #[.slice a bs.length cap] w (AllTEnd bs w) := by
  have HN := Lib.hid (fun (W : World) (h : Below w.heap.size w W) (k : Int) => next_any (hr.mono h) (by omega) k true)
  clear hr
  go_enter Try.func19, Try.ntmps19
  go_wp2
  go_loopw [5, 6] (fun v i wr => ∃ (A : Int) (L : List (Tk × Int × Int)), i = .int .i64 A ∧ 0 ≤ A ∧ A ≤ bs.length ∧ (L.length : Int) ≤ A ∧ Hid (ChainT bs 0 L A) ∧ Hid (wr.ownsRow w.heap.size 28 8 v L.length (tkV L)) ∧ Hid (Below w.heap.size w wr)) (fun _ i _ => bs.length - (intOf i).toNat)
  case atStart => exact ⟨0, [], rfl, by omega, by omega, by simp, Lib.hid rfl, Lib.hid (World.ownsRow_nil _ _ _ _), Lib.hid (Below.refl _ _)⟩
  case round =>
    obtain ⟨A, L, rfl, hA0, hA1, hLA, HCH, HO, HB⟩ := hrel
    have hsz := HB.out.size
    obtain ⟨p1, p2, p3⟩ := nextV_places (bs := bs) (k := A) true hA0 hA1
    have HN1 := Lib.hid (HN.out wr HB.out A)
    obtain ⟨V, hV⟩ : ∃ V, nextV bs A true = V := ⟨_, rfl⟩
    rw [hV] at p1 p2 p3 HN1
    have HV := Lib.hid hV
    clear hV
    obtain ⟨x, f, t, er⟩ := V
    simp only at p1 p2 p3
    unfold NextEnd at HN1
    simp only [tokN] at HN1
    by_cases her : er = 0
    · subst her
      by_cases hk : x.kind = 0
      · have HK := Lib.hid hk
        rw [hk] at HN1
        clear p1 p2 p3 hk
        go_wp2_with fail
        refine HN1.out.mono ?_
        rintro e w1 ⟨rfl, hb1⟩
        have HB1 := Lib.hid (HB.out.trans ((hb1.alloc hb1.size (.cells #[.int .i64 0, .int .i64 f, .int .i64 t, .int .i64 x.vk, .int .i64 x.vn, .string (mkB x.vs), .slice none 0 0, .string (mkB x.s)] 28)).mono hsz))
        have HO1 := Lib.hid (ownsRow_keep HO.out (hb1.alloc hb1.size (.cells #[.int .i64 0, .int .i64 f, .int .i64 t, .int .i64 x.vk, .int .i64 x.vn, .string (mkB x.vs), .slice none 0 0, .string (mkB x.s)] 28)))
        clear hb1
        go_wp2
        go_ret3
        exact ⟨HB1.out, _, L, A, A, 0, rfl, HO1.out, by omega, HCH.out, hA0, hA1, x, f, t, HV.out, .inr ⟨rfl, HK.out, rfl⟩⟩
      · obtain ⟨-, g1, g2, g3⟩ := p3 rfl hk
        have hkf : (x.kind == 0) = false := by rw [beq_eq_false_iff_ne]; exact hk
        have HCH2 := Lib.hid (ChainT.snoc HCH.out HV.out hk)
        have HT := Lib.hid (show tkV (L ++ [(x, f, t)]) = tkV L ++ [.int .i64 x.kind, .int .i64 f, .int .i64 t, .int .i64 x.vk, .int .i64 x.vn, .string (mkB x.vs), .slice none 0 0, .string (mkB x.s)] by rw [tkV_append]; rfl)
        clear p1 p2 p3 hk
        generalize x.kind = a0 at *
        generalize x.vk = a1 at *
        generalize x.vn = a2 at *
        generalize mkB x.vs = s1 at *
        generalize mkB x.s = s2 at *
        go_wp2_with fail
        refine HN1.out.mono ?_
        rintro e w1 ⟨rfl, hb1⟩
        have hb2 := hb1.alloc hb1.size (.cells #[.int .i64 a0, .int .i64 f, .int .i64 t, .int .i64 a1, .int .i64 a2, .string s1, .slice none 0 0, .string s2] 28)
        have HB1 := Lib.hid (HB.out.trans (hb2.mono hsz))
        have HO1 := Lib.hid (ownsRow_keep HO.out hb2)
        have HBK := Lib.hid (heapA_new (w := w1) (.cells #[.int .i64 a0, .int .i64 f, .int .i64 t, .int .i64 a1, .int .i64 a2, .string s1, .slice none 0 0, .string s2] 28) rfl)
        have hs1 := hb1.size
        clear hb1 hb2
        have HVR := Lib.hid HO.out.lt
        have hsz2 := HB1.out.size
        have hs3 := sizeA w1 (.cells #[.int .i64 a0, .int .i64 f, .int .i64 t, .int .i64 a1, .int .i64 a2, .string s1, .slice none 0 0, .string s2] 28)
        have HS3 := Lib.hid hs3
        have HK2 := Lib.hid (cells8 HBK.out).1.2.2.1
        have hone : ∀ u ∈ [Value.int .i64 a0, .int .i64 f, .int .i64 t, .int .i64 a1, .int .i64 a2, .string s1, .slice none 0 0, .string s2], u.oneCell' = true := by
          intro u hu
          simp at hu
          rcases hu with rfl | rfl | rfl | rfl | rfl | rfl | rfl | rfl <;> rfl
        have HONE := Lib.hid hone
        have hl4 : L.length ≤ 400 := by omega
        clear hone hs3
        go_wp2_with (at_builtin; refine append_row ETok rfl (.tmp 26) (.tmp 28) rfl w.heap.size _ L.length _ rfl (HO1.out.alloc _) _ 1 _ _ rfl (row_newE _ #[.int .i64 a0, .int .i64 f, .int .i64 t, .int .i64 a1, .int .i64 a2, .string s1, .slice none 0 0, .string s2] _ 8 rfl HS3.out) HONE.out (by unfold maxLen; omega) (by omega) (by rw [sizeA, HS3.out]; omega) ?_; intro v' w5 hO5 hg5 hnil5; have e2 : w5.cell? ⟨w1.heap.size, 2, none⟩ = some (.int .i64 t) := (hg5.cell_far ⟨w1.heap.size, 2, none⟩ (by rw [sizeA, HS3.out]; show w1.heap.size < _; omega) (fun e => by have h := (HVR.out _ e.symm).2; exact absurd h (by show ¬ w1.heap.size < _; omega))).trans (cell_alloc _ HK2.out); have HO5 := Lib.hid hO5; have HB5 := Lib.hid (show Below w.heap.size w w5 from (HB1.out.alloc hsz2 _).grown hg5 (by rw [sizeA, HS3.out]; omega) (fun q hq => (HVR.out q hq).1)); clear hO5 hg5 hnil5)
        go_roundw
        case rel =>
          refine ⟨t, L ++ [(x, f, t)], rfl, by omega, g3, by simp; omega, HCH2, Lib.hid ?_, HB5⟩
          rw [HT.out]
          have h := HO5.out
          simpa using h
        case measure => simp [intOf]; omega
    · obtain ⟨rfl, rfl, g1, g2⟩ := p1 her
      have e1 : (er == 0) = false := by rw [beq_eq_false_iff_ne]; exact her
      have e2 : (er != 0) = true := by simp only [bne, e1, Bool.not_false]
      have HE := Lib.hid her
      clear p1 p2 p3 her
      go_wp2_with fail
      refine HN1.out.mono ?_
      rintro e w1 ⟨rfl, hb1⟩
      have hb2 := hb1.alloc hb1.size (.cells #[.int .i64 0, .int .i64 f, .int .i64 f, .int .i64 0, .int .i64 0, .string ⟨#[]⟩, .slice none 0 0, .string ⟨#[]⟩] 28)
      have HB1 := Lib.hid (fun q => below_drewN (HB.out.trans (hb2.mono hsz)) q)
      have HO1 := Lib.hid (fun q => ownsRow_keep (ownsRow_keep HO.out hb2) (below_drewN (Below.refl _ _) q))
      clear hb1 hb2
      go_wp2
      go_quiet (fail)
      go_wp2
      go_ret3
      exact ⟨HB1.out _, _, L, A, f, er, rfl, HO1.out _, by omega, HCH.out, hA0, hA1, _, f, f, HV.out, .inl ⟨HE.out, rfl⟩⟩
end Go.Proofs.Ytkolfecjlbnfkaa
