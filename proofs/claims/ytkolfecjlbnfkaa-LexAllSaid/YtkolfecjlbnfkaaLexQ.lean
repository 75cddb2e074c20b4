/-
  Plain half of LexPlaces and LexStays: where a token lies; what is told of the first bytes is told of more.
-/
import Derived.Test.YtkolfecjlbnfkaaLexP
namespace Go.Proofs.Ytkolfecjlbnfkaa

theorem skipN_idem : ∀ (b : Bool) (l : List UInt8), skipN false (l.drop (skipN b l)) = 0
  | _, [] => by simp [skipN]
  | true, c :: l => by
    simp only [skipN]
    rw [Nat.add_comm, List.drop_succ_cons]; exact skipN_idem _ l
  | false, c :: l => by
    by_cases h : c = 37
    · rw [skipN, if_pos h, Nat.add_comm, List.drop_succ_cons]; exact skipN_idem _ l
    · by_cases h2 : isSp c = true
      · rw [skipN, if_neg h, if_pos h2, Nat.add_comm, List.drop_succ_cons]; exact skipN_idem _ l
      · rw [skipN, if_neg h, if_neg h2, List.drop_zero, skipN, if_neg h, if_neg h2]
theorem skipV_bd {bs : List UInt8} {k : Int} (h : 0 ≤ k) (h2 : k ≤ bs.length) : k ≤ (skipV bs k : Nat) ∧ skipV bs k ≤ bs.length := by
  unfold skipV
  rw [if_neg (by omega)]
  split
  · omega
  · have := skipN_le false (bs.drop k.toNat)
    rw [List.length_drop] at this; omega
theorem skipV_idem {bs : List UInt8} {k : Int} (h : 0 ≤ k) (h2 : k ≤ bs.length) : skipV bs (skipV bs k : Nat) = skipV bs k := by
  have hb := skipV_bd h h2
  by_cases h3 : (bs.length : Int) ≤ (skipV bs k : Nat)
  · have e : skipV bs k = bs.length := by omega
    rw [e]; unfold skipV; rw [if_neg (by omega), if_pos (by omega)]
  · have e : skipV bs k = k.toNat + skipN false (bs.drop k.toNat) := by
      unfold skipV
      rw [if_neg (by omega), if_neg (by omega)]
    have e3 : skipN false (bs.drop (skipV bs k)) = 0 := by
      rw [e, ← List.drop_drop]
      exact skipN_idem false _
    have gen : ∀ f : Nat, ¬ (bs.length : Int) ≤ (f : Int) → skipN false (bs.drop f) = 0 → skipV bs (f : Int) = f := fun f h1 h2 => by
      unfold skipV
      rw [if_neg (by omega), if_neg h1, Int.toNat_natCast, h2]; rfl
    exact gen _ h3 e3

/-- Of a longer list nothing else, if it stops within. -/
theorem skipN_more : ∀ (b : Bool) (l u : List UInt8), skipN b l < l.length → skipN b (l ++ u) = skipN b l
  | _, [], u => by simp
  | true, c :: l, u => by
    intro h
    simp only [skipN, List.cons_append, List.length_cons] at h ⊢
    rw [skipN_more _ l u (by omega)]
  | false, c :: l, u => by
    intro h
    rw [List.cons_append]
    by_cases h1 : c = 37
    · rw [skipN, if_pos h1] at h ⊢
      rw [skipN, if_pos h1, skipN_more _ l u (by simp at h; omega)]
    · by_cases h2 : isSp c = true
      · rw [skipN, if_neg h1, if_pos h2] at h ⊢
        rw [skipN, if_neg h1, if_pos h2, skipN_more _ l u (by simp at h; omega)]
      · rw [skipN, if_neg h1, if_neg h2, skipN, if_neg h1, if_neg h2]

theorem lineV_more {t u : List UInt8} {last : Bool} {k : Nat} (h : lineV false t = some k) : lineV last (t ++ u) = some k ∧ k ≤ t.length := by
  cases t with
  | nil => simp [lineV] at h
  | cons d t =>
    simp only [lineV, List.cons_append, Option.some.injEq, List.length_cons] at h ⊢
    refine ⟨h, ?_⟩
    subst h; split <;> omega
theorem octV_more {c : UInt8} {t u : List UInt8} {last : Bool} {x : Nat × Nat} (h : octV false c t = some x) : octV last c (t ++ u) = some x ∧ x.2 ≤ t.length + 1 := by
  rcases t with _ | ⟨d, _ | ⟨e, t⟩⟩
  · simp [octV] at h
  · by_cases hd : isOc d = true
    · simp [octV, hd] at h
    · simp only [octV, List.cons_append, if_neg hd] at h ⊢
      refine ⟨h, ?_⟩
      cases h; simp
  · by_cases hd : isOc d = true
    · simp only [octV, List.cons_append, if_pos hd] at h ⊢
      refine ⟨h, ?_⟩
      split at h <;> (cases h; simp)
    · simp only [octV, List.cons_append, if_neg hd] at h ⊢
      refine ⟨h, ?_⟩
      cases h; simp
theorem escV_more {t u : List UInt8} {last : Bool} {x : List UInt8 × Nat} (h : escV false t = some x) : escV last (t ++ u) = some x ∧ x.2 ≤ t.length := by
  cases t with
  | nil => simp [escV] at h
  | cons c t =>
    rw [List.cons_append]
    unfold escV at h ⊢
    simp only [List.length_cons] at h ⊢
    by_cases h1 : c = 110
    · rw [if_pos h1] at h ⊢; refine ⟨h, ?_⟩; cases h; simp
    rw [if_neg h1] at h ⊢
    by_cases h2 : c = 114
    · rw [if_pos h2] at h ⊢; refine ⟨h, ?_⟩; cases h; simp
    rw [if_neg h2] at h ⊢
    by_cases h3 : c = 116
    · rw [if_pos h3] at h ⊢; refine ⟨h, ?_⟩; cases h; simp
    rw [if_neg h3] at h ⊢
    by_cases h4 : c = 98
    · rw [if_pos h4] at h ⊢; refine ⟨h, ?_⟩; cases h; simp
    rw [if_neg h4] at h ⊢
    by_cases h5 : c = 102
    · rw [if_pos h5] at h ⊢; refine ⟨h, ?_⟩; cases h; simp
    rw [if_neg h5] at h ⊢
    by_cases h6 : isOc c = true
    · rw [if_pos h6] at h ⊢
      obtain ⟨y, hy, rfl⟩ := Option.map_eq_some_iff.1 h
      obtain ⟨h7, h8⟩ := octV_more (u := u) (last := last) hy
      rw [h7]
      exact ⟨rfl, h8⟩
    rw [if_neg h6] at h ⊢
    by_cases h7 : c = 10
    · rw [if_pos h7] at h ⊢; refine ⟨h, ?_⟩; cases h; simp
    rw [if_neg h7] at h ⊢
    by_cases h8 : c = 13
    · rw [if_pos h8] at h ⊢
      obtain ⟨y, hy, rfl⟩ := Option.map_eq_some_iff.1 h
      obtain ⟨h7, h8⟩ := lineV_more (u := u) (last := last) hy
      rw [h7]
      exact ⟨rfl, by simp; omega⟩
    rw [if_neg h8] at h ⊢
    refine ⟨h, ?_⟩; cases h; simp
theorem textV_more (last : Bool) (u : List UInt8) : ∀ (n : Nat) (l : List UInt8), l.length ≤ n → ∀ (deep : Nat) (out x r : List UInt8), textV false deep out l = some (x, r) → textV last deep out (l ++ u) = some (x, r ++ u) ∧ r.length < l.length := by
  intro n
  induction n with
  | zero =>
    intro l hl deep out x r h
    obtain rfl : l = [] := List.eq_nil_of_length_eq_zero (by omega)
    rw [textV] at h; cases h
  | succ n ih =>
    intro l hl deep out x r h
    cases l with
    | nil => rw [textV] at h; cases h
    | cons c t =>
      simp only [List.length_cons] at hl ⊢
      rw [List.cons_append]
      rw [textV.eq_def] at h ⊢
      simp only at h ⊢
      by_cases h1 : c = 92
      · rw [if_pos h1] at h ⊢
        cases he : escV false t with
        | none => rw [he] at h; cases h
        | some y =>
          obtain ⟨a, k⟩ := y
          rw [he] at h
          obtain ⟨h7, h8⟩ := escV_more (u := u) (last := last) he
          rw [h7]
          simp only at h h8 ⊢
          obtain ⟨g1, g2⟩ := ih (t.drop k) (by rw [List.length_drop]; omega) _ _ _ _ h
          rw [List.drop_append_of_le_length h8]
          rw [List.length_drop] at g2
          exact ⟨g1, by omega⟩
      rw [if_neg h1] at h ⊢
      by_cases h2 : c = 13
      · rw [if_pos h2] at h ⊢
        cases he : lineV false t with
        | none => rw [he] at h; cases h
        | some k =>
          rw [he] at h
          obtain ⟨h7, h8⟩ := lineV_more (u := u) (last := last) he
          rw [h7]
          simp only at h ⊢
          obtain ⟨g1, g2⟩ := ih (t.drop k) (by rw [List.length_drop]; omega) _ _ _ _ h
          rw [List.drop_append_of_le_length h8]
          rw [List.length_drop] at g2
          exact ⟨g1, by omega⟩
      rw [if_neg h2] at h ⊢
      by_cases h3 : c = 40
      · rw [if_pos h3] at h ⊢
        obtain ⟨g1, g2⟩ := ih t (by omega) _ _ _ _ h
        exact ⟨g1, by omega⟩
      rw [if_neg h3] at h ⊢
      by_cases h4 : c = 41
      · rw [if_pos h4] at h ⊢
        by_cases h5 : deep = 1
        · rw [if_pos h5] at h ⊢
          cases h
          exact ⟨rfl, by omega⟩
        · rw [if_neg h5] at h ⊢
          obtain ⟨g1, g2⟩ := ih t (by omega) _ _ _ _ h
          exact ⟨g1, by omega⟩
      rw [if_neg h4] at h ⊢
      obtain ⟨g1, g2⟩ := ih t (by omega) _ _ _ _ h
      exact ⟨g1, by omega⟩
theorem hexV_more (u : List UInt8) : ∀ (l : List UInt8) (out : List UInt8) (half : Int), ((hexV out half l).1 = 0 → hexV out half (l ++ u) = (0, (hexV out half l).2.1, (hexV out half l).2.2 ++ u) ∧ (hexV out half l).2.2.length < l.length) ∧
    ((hexV out half l).1 ≠ 0 → (hexV out half l).1 ≠ 1 → (hexV out half l).1 = 11 ∧ hexV out half (l ++ u) = (11, [], []))
  | [], out, half => by simp [hexV]
  | c :: t, out, half => by
    rw [List.cons_append]
    simp only [hexV, List.length_cons]
    by_cases h1 : c = 62
    · simp only [if_pos h1]
      exact ⟨fun _ => ⟨by simp, by omega⟩, fun h => absurd rfl h⟩
    simp only [if_neg h1]
    by_cases h2 : isSp c = true
    · simp only [if_pos h2]
      obtain ⟨g1, g2⟩ := hexV_more u t out half
      exact ⟨fun h => ⟨(g1 h).1, by have := (g1 h).2; omega⟩, g2⟩
    simp only [if_neg h2]
    by_cases h3 : hexD c < 0
    · simp only [if_pos h3]
      exact ⟨fun h => by simp at h, fun _ _ => ⟨by simp, by simp⟩⟩
    simp only [if_neg h3]
    by_cases h4 : half < 0
    · simp only [if_pos h4]
      obtain ⟨g1, g2⟩ := hexV_more u t out (hexD c)
      exact ⟨fun h => ⟨(g1 h).1, by have := (g1 h).2; omega⟩, g2⟩
    simp only [if_neg h4]
    obtain ⟨g1, g2⟩ := hexV_more u t (out ++ [UInt8.ofNat (16 * half + hexD c).toNat]) (-1)
    exact ⟨fun h => ⟨(g1 h).1, by have := (g1 h).2; omega⟩, g2⟩
theorem hexV_err : ∀ (l : List UInt8) (out : List UInt8) (half : Int), (hexV out half l).1 = 0 ∨ (hexV out half l).1 = 1 ∨ (hexV out half l).1 = 11
  | [], out, half => by simp [hexV]
  | c :: t, out, half => by
    simp only [hexV]
    split
    · exact .inl rfl
    · split
      · exact hexV_err t _ _
      · split
        · exact .inr (.inr rfl)
        · split
          · exact hexV_err t _ _
          · exact hexV_err t _ _
theorem while_more (p : UInt8 → Bool) (u : List UInt8) : ∀ (l : List UInt8), l.dropWhile p ≠ [] → (l ++ u).takeWhile p = l.takeWhile p ∧ (l ++ u).dropWhile p = l.dropWhile p ++ u
  | [] => by simp
  | c :: t => by
    intro h
    rw [List.cons_append]
    by_cases hp : p c = true
    · rw [List.dropWhile_cons_of_pos hp] at h
      obtain ⟨g1, g2⟩ := while_more p u t h
      rw [List.takeWhile_cons_of_pos hp, List.dropWhile_cons_of_pos hp, List.takeWhile_cons_of_pos hp, List.dropWhile_cons_of_pos hp, g1, g2]
      exact ⟨rfl, rfl⟩
    · rw [List.takeWhile_cons_of_neg hp, List.dropWhile_cons_of_neg hp, List.takeWhile_cons_of_neg hp, List.dropWhile_cons_of_neg hp]
      exact ⟨rfl, rfl⟩
theorem drop_len (p : UInt8 → Bool) (l : List UInt8) : (l.dropWhile p).length ≤ l.length := List.Sublist.length_le (List.dropWhile_sublist _)

/-- The token of the first bytes, if no more are needed, is the token of all; it is not empty. -/
theorem tokV_more (last : Bool) (c : UInt8) (t u : List UInt8) :
    ((tokV false c t).1 = 0 → tokV last c (t ++ u) = (0, (tokV false c t).2.1, (tokV false c t).2.2 ++ u)) ∧ ((tokV false c t).1 ≠ 0 → (tokV false c t).1 ≠ 6 → (tokV last c (t ++ u)).1 = (tokV false c t).1) := by
  by_cases hr : isRg c = true
  · have hc : tokV false c t = if (c :: t).dropWhile isRg = [] ∧ false = false then (6, { kind := 0 }, []) else if isDg c = true ∨ c = 43 ∨ c = 45 ∨ c = 46 then ((parseV ((c :: t).takeWhile isRg)).2.2, { kind := 1, vk := (parseV ((c :: t).takeWhile isRg)).1, vn := (parseV ((c :: t).takeWhile isRg)).2.1 }, (c :: t).dropWhile isRg) else (0, { kind := 6, s := (c :: t).takeWhile isRg }, (c :: t).dropWhile isRg) := by
      unfold tokV; rw [if_pos hr]
    have hc2 : tokV last c (t ++ u) = if (c :: (t ++ u)).dropWhile isRg = [] ∧ last = false then (6, { kind := 0 }, []) else if isDg c = true ∨ c = 43 ∨ c = 45 ∨ c = 46 then ((parseV ((c :: (t ++ u)).takeWhile isRg)).2.2, { kind := 1, vk := (parseV ((c :: (t ++ u)).takeWhile isRg)).1, vn := (parseV ((c :: (t ++ u)).takeWhile isRg)).2.1 }, (c :: (t ++ u)).dropWhile isRg) else (0, { kind := 6, s := (c :: (t ++ u)).takeWhile isRg }, (c :: (t ++ u)).dropWhile isRg) := by
      unfold tokV; rw [if_pos hr]
    by_cases h0 : (c :: t).dropWhile isRg = []
    · rw [hc, if_pos ⟨h0, rfl⟩]
      exact ⟨fun h => by simp at h, fun _ h => absurd rfl h⟩
    · obtain ⟨g1, g2⟩ := while_more isRg u _ h0
      rw [List.cons_append] at g1 g2
      rw [hc, hc2, g1, g2, if_neg (show ¬ ((c :: t).dropWhile isRg = [] ∧ false = false) from fun h => h0 h.1), if_neg (show ¬ ((c :: t).dropWhile isRg ++ u = [] ∧ last = false) from fun h => h0 (List.append_eq_nil_iff.1 h.1).1)]
      by_cases hd : isDg c = true ∨ c = 43 ∨ c = 45 ∨ c = 46
      · rw [if_pos hd, if_pos hd]
        exact ⟨fun h => by rw [show (parseV (List.takeWhile isRg (c :: t))).2.2 = 0 from h], fun _ _ => rfl⟩
      · rw [if_neg hd, if_neg hd]
        exact ⟨fun _ => rfl, fun _ _ => rfl⟩
  · unfold tokV
    rw [if_neg hr, if_neg hr]
    by_cases h1 : c = 91
    · rw [if_pos h1, if_pos h1]; exact ⟨fun _ => rfl, fun _ _ => rfl⟩
    rw [if_neg h1, if_neg h1]
    by_cases h2 : c = 93
    · rw [if_pos h2, if_pos h2]; exact ⟨fun _ => rfl, fun _ _ => rfl⟩
    rw [if_neg h2, if_neg h2]
    by_cases h3 : c = 60
    · rw [if_pos h3, if_pos h3]
      cases t with
      | nil => exact ⟨fun h => by simp [openE] at h, fun _ h => by simp [openE] at h⟩
      | cons d t =>
        simp only [List.cons_append]
        by_cases hd : d = 60
        · rw [if_pos hd, if_pos hd]; exact ⟨fun _ => rfl, fun _ _ => rfl⟩
        rw [if_neg hd, if_neg hd]
        obtain ⟨g1, g2⟩ := hexV_more u (d :: t) [] (-1)
        have g3 := hexV_err (d :: t) [] (-1)
        rw [List.cons_append] at g1 g2
        obtain ⟨H, hH⟩ : ∃ H, hexV [] (-1) (d :: t) = H := ⟨_, rfl⟩
        rw [hH] at g1 g2 g3 ⊢
        obtain ⟨e, x, r⟩ := H
        simp only at g1 g2 g3 ⊢
        rcases g3 with rfl | rfl | rfl
        · rw [(g1 rfl).1, if_pos rfl]
          exact ⟨fun _ => rfl, fun h => absurd rfl h⟩
        · rw [if_neg (by decide), if_pos rfl]
          exact ⟨fun h => by simp [openE] at h, fun _ h => by simp [openE] at h⟩
        · rw [(g2 (by decide) (by decide)).2, if_neg (by decide), if_neg (by decide)]
          exact ⟨fun h => by simp at h, fun _ _ => rfl⟩
    rw [if_neg h3, if_neg h3]
    by_cases h4 : c = 62
    · rw [if_pos h4, if_pos h4]
      cases t with
      | nil => exact ⟨fun h => by simp at h, fun _ h => by simp at h⟩
      | cons d t =>
        simp only [List.cons_append]
        by_cases hd : d = 62
        · rw [if_pos hd, if_pos hd]; exact ⟨fun _ => rfl, fun _ _ => rfl⟩
        · rw [if_neg hd, if_neg hd]; exact ⟨fun h => by simp at h, fun _ _ => rfl⟩
    rw [if_neg h4, if_neg h4]
    by_cases h5 : c = 40
    · rw [if_pos h5, if_pos h5]
      cases he : textV false 1 [] t with
      | none => exact ⟨fun h => by simp [openE] at h, fun _ h => by simp [openE] at h⟩
      | some y =>
        obtain ⟨x, r⟩ := y
        rw [(textV_more last u _ t (Nat.le_refl _) _ _ _ _ he).1]
        exact ⟨fun _ => rfl, fun h => absurd rfl h⟩
    rw [if_neg h5, if_neg h5]
    by_cases h6 : c = 47
    · rw [if_pos h6, if_pos h6]
      simp only
      by_cases h0 : t.dropWhile isRg = []
      · rw [if_pos (show t.dropWhile isRg = [] ∧ True from ⟨h0, trivial⟩)]
        exact ⟨fun h => by simp at h, fun _ h => absurd rfl h⟩
      · obtain ⟨g1, g2⟩ := while_more isRg u _ h0
        rw [g1, g2, if_neg (fun h => h0 h.1), if_neg (fun h => h0 (List.append_eq_nil_iff.1 h.1).1)]
        cases nameV (t.takeWhile isRg) with
        | none => exact ⟨fun h => by simp at h, fun _ _ => rfl⟩
        | some o => exact ⟨fun _ => rfl, fun _ _ => rfl⟩
    rw [if_neg h6, if_neg h6]
    exact ⟨fun h => by simp at h, fun _ _ => rfl⟩
theorem textV_len (last : Bool) : ∀ (n : Nat) (l : List UInt8), l.length ≤ n → ∀ (deep : Nat) (out x r : List UInt8), textV last deep out l = some (x, r) → r.length < l.length := by
  intro n
  induction n with
  | zero =>
    intro l hl deep out x r h
    obtain rfl : l = [] := List.eq_nil_of_length_eq_zero (by omega)
    rw [textV] at h; cases h
  | succ n ih =>
    intro l hl deep out x r h
    cases l with
    | nil => rw [textV] at h; cases h
    | cons c t =>
      simp only [List.length_cons] at hl ⊢
      rw [textV.eq_def] at h
      simp only at h
      split at h
      · split at h
        · cases h
        · have := ih _ (by rw [List.length_drop]; omega) _ _ _ _ h
          rw [List.length_drop] at this; omega
      · split at h
        · split at h
          · cases h
          · have := ih _ (by rw [List.length_drop]; omega) _ _ _ _ h
            rw [List.length_drop] at this; omega
        · split at h
          · have := ih _ (by omega) _ _ _ _ h
            omega
          · split at h
            · split at h
              · cases h; omega
              · have := ih _ (by omega) _ _ _ _ h
                omega
            · have := ih _ (by omega) _ _ _ _ h
              omega
/-- A token is some, and takes its bytes. -/
theorem tokV_some (last : Bool) (c : UInt8) (t : List UInt8) (h : (tokV last c t).1 = 0) : (tokV last c t).2.1.kind ≠ 0 ∧ (tokV last c t).2.2.length ≤ t.length := by
  obtain ⟨V, hV⟩ : ∃ V, tokV last c t = V := ⟨_, rfl⟩
  rw [hV] at h ⊢
  unfold tokV at hV
  split at hV
  · next hr =>
    have hd : ((c :: t).dropWhile isRg).length ≤ t.length := by rw [List.dropWhile_cons_of_pos hr]; exact drop_len _ _
    simp only at hV
    split at hV
    · subst hV; simp at h
    · split at hV
      · subst hV; exact ⟨by simp, hd⟩
      · subst hV; exact ⟨by simp, hd⟩
  split at hV
  · subst hV; exact ⟨by simp, Nat.le_refl _⟩
  split at hV
  · subst hV; exact ⟨by simp, Nat.le_refl _⟩
  split at hV
  · cases t with
    | nil => subst hV; cases last <;> simp [openE] at h
    | cons d t =>
      simp only at hV
      split at hV
      · subst hV; exact ⟨by simp, by simp⟩
      · have hx := (hexV_more [] (d :: t) [] (-1)).1
        split at hV
        · subst hV
          exact ⟨by simp, Nat.le_of_lt (hx ‹_›).2⟩
        · split at hV
          · subst hV; cases last <;> simp [openE] at h
          · subst hV; simp at h
  split at hV
  · cases t with
    | nil => subst hV; cases last <;> simp at h
    | cons d t =>
      simp only at hV
      split at hV
      · subst hV; exact ⟨by simp, by simp⟩
      · subst hV; simp at h
  split at hV
  · cases he : textV last 1 [] t with
    | none => rw [he] at hV; subst hV; cases last <;> simp [openE] at h
    | some y =>
      obtain ⟨x, r⟩ := y
      rw [he] at hV
      subst hV
      exact ⟨by simp, by have := textV_len last _ t (Nat.le_refl _) _ _ _ _ he; simp only; omega⟩
  split at hV
  · simp only at hV
    split at hV
    · subst hV; simp at h
    · split at hV
      · subst hV; simp at h
      · subst hV; exact ⟨by simp, drop_len _ _⟩
  · subst hV; simp at h

/-- The token that stands at a place where no space is. -/
def nextF (bs : List UInt8) (f : Nat) (last : Bool) : Tk × Int × Int × Int :=
  match bs.drop f with
  | [] => ({ kind := 0 }, (f : Int), (f : Int), if last then 0 else 6)
  | c :: t => if (tokV last c t).1 = 0 then ((tokV last c t).2.1, (f : Int), (bs.length : Int) - ((tokV last c t).2.2.length : Int), 0) else ({ kind := 0 }, (f : Int), (f : Int), (tokV last c t).1)
theorem nextV_in {bs : List UInt8} {k : Int} (last : Bool) (h : 0 ≤ k) (h2 : k ≤ bs.length) : nextV bs k last = nextF bs (skipV bs k) last := by
  have h3 : ¬ (k < 0 ∨ (bs.length : Int) < k) := by omega
  unfold nextV
  rw [if_neg h3]
  show (match bs.drop (skipV bs k) with | [] => _ | c :: t => _) = _
  unfold nextF
  cases bs.drop (skipV bs k) <;> rfl
theorem nextF_nil {bs : List UInt8} {f : Nat} (last : Bool) (h : bs.drop f = []) : nextF bs f last = ({ kind := 0 }, (f : Int), (f : Int), if last then 0 else 6) := by unfold nextF; rw [h]
theorem nextF_cons {bs : List UInt8} {f : Nat} (last : Bool) {c : UInt8} {t : List UInt8} (h : bs.drop f = c :: t) : nextF bs f last = if (tokV last c t).1 = 0 then ((tokV last c t).2.1, (f : Int), (bs.length : Int) - ((tokV last c t).2.2.length : Int), 0) else ({ kind := 0 }, (f : Int), (f : Int), (tokV last c t).1) := by unfold nextF; rw [h]
/-- What LexPlaces asks. -/
theorem nextV_places {bs : List UInt8} {k : Int} (last : Bool) (h : 0 ≤ k) (h2 : k ≤ bs.length) :
    ((nextV bs k last).2.2.2 ≠ 0 → (nextV bs k last).1 = { kind := 0 } ∧ (nextV bs k last).2.1 = (nextV bs k last).2.2.1 ∧ k ≤ (nextV bs k last).2.1 ∧ (nextV bs k last).2.1 ≤ bs.length) ∧
    ((nextV bs k last).2.2.2 = 0 → (nextV bs k last).1.kind = 0 → last = true ∧ (nextV bs k last).2.1 = bs.length ∧ (nextV bs k last).2.2.1 = bs.length) ∧
    ((nextV bs k last).2.2.2 = 0 → (nextV bs k last).1.kind ≠ 0 → nextV bs (nextV bs k last).2.1 last = nextV bs k last ∧ k ≤ (nextV bs k last).2.1 ∧ (nextV bs k last).2.1 < (nextV bs k last).2.2.1 ∧ (nextV bs k last).2.2.1 ≤ bs.length) := by
  obtain ⟨hb1, hb2⟩ := skipV_bd h h2
  have hi := skipV_idem h h2
  have hV := nextV_in (bs := bs) last h h2
  have hV2 := nextV_in (bs := bs) (k := (skipV bs k : Nat)) last (by omega) (by omega)
  rw [hi] at hV2
  generalize skipV bs k = f at *
  rw [hV]
  cases hd : bs.drop f with
  | nil =>
    have hn := nextF_nil last hd
    rw [hn] at hV2 ⊢
    have hfl : f = bs.length := by have := List.drop_eq_nil_iff.1 hd; omega
    refine ⟨fun _ => ⟨rfl, rfl, hb1, by simp only; omega⟩, fun h0 _ => ⟨?_, by simp only; omega, by simp only; omega⟩, fun _ h => absurd rfl h⟩
    cases last
    · simp at h0
    · rfl
  | cons c t =>
    have hn := nextF_cons last hd
    have hlen : f + (t.length + 1) = bs.length := by
      have := congrArg List.length hd
      rw [List.length_drop, List.length_cons] at this; omega
    by_cases h0 : (tokV last c t).1 = 0
    · obtain ⟨g1, g2⟩ := tokV_some last c t h0
      rw [if_pos h0] at hn
      rw [hn] at hV2 ⊢
      generalize tokV last c t = T at *
      obtain ⟨e, x, r⟩ := T
      simp only at g1 g2 hV2 ⊢
      exact ⟨fun h => absurd rfl h, fun _ h => absurd h g1, fun _ _ => ⟨hV2, hb1, by omega, by omega⟩⟩
    · rw [if_neg h0] at hn
      rw [hn]
      exact ⟨fun _ => ⟨rfl, rfl, hb1, by simp only; omega⟩, fun h => absurd h h0, fun h => absurd h h0⟩

theorem nextV_gen {l : List UInt8} (u : List UInt8) (la : Bool) {k : Int} (h : 0 ≤ k) (hk : k ≤ l.length) (h6 : (nextV l k false).2.2.2 ≠ 6) : nextV (l ++ u) k la = nextV l k false := by
  obtain ⟨hb1, hb2⟩ := skipV_bd h hk
  have hV := nextV_in (bs := l) false h hk
  have hV2 := nextV_in (bs := l ++ u) la h (by rw [List.length_append]; omega)
  by_cases hl : skipV l k = l.length
  · exfalso; apply h6
    rw [hV, hl, nextF_nil false (by simp)]
    rfl
  · have hkl : k < l.length := by omega
    have e : skipV l k = k.toNat + skipN false (l.drop k.toNat) := by
      unfold skipV; rw [if_neg (by omega), if_neg (by omega)]
    have e2 : skipV (l ++ u) k = skipV l k := by
      rw [e]; unfold skipV
      rw [if_neg (by omega), if_neg (by rw [List.length_append]; omega), List.drop_append_of_le_length (by omega), skipN_more _ _ _ (by rw [List.length_drop]; omega)]
    rw [e2] at hV2
    rw [hV] at h6
    rw [hV, hV2]
    clear hV hV2 e e2
    generalize skipV l k = f at *
    cases hd : l.drop f with
    | nil => have := List.drop_eq_nil_iff.1 hd; omega
    | cons c t =>
      have hd2 : (l ++ u).drop f = c :: (t ++ u) := by rw [List.drop_append_of_le_length (by omega), hd]; rfl
      have hn := nextF_cons false hd
      rw [nextF_cons la hd2, hn]
      rw [hn] at h6
      obtain ⟨g1, g2⟩ := tokV_more la c t u
      by_cases h0 : (tokV false c t).1 = 0
      · rw [g1 h0, if_pos rfl, if_pos h0]
        simp only
        rw [List.length_append, List.length_append]
        congr 3; omega
      · rw [if_neg h0] at h6
        have g3 := g2 h0 h6
        rw [if_neg (by rw [g3]; exact h0), if_neg h0, g3]
/-- What LexStays asks. -/
theorem nextV_stays {bs : List UInt8} {n : Nat} {k : Int} (last : Bool) (h : 0 ≤ k) (h2 : k ≤ n) (hn : n ≤ bs.length) (h6 : (nextV (bs.take n) k false).2.2.2 ≠ 6) : nextV bs k last = nextV (bs.take n) k false ∧ nextV (bs.take n) k true = nextV (bs.take n) k false := by
  have hk : k ≤ (bs.take n).length := by rw [List.length_take]; omega
  refine ⟨?_, ?_⟩
  · have := nextV_gen (l := bs.take n) (bs.drop n) last h hk h6
    rwa [List.take_append_drop] at this
  · have := nextV_gen (l := bs.take n) [] true h hk h6
    rwa [List.append_nil] at this
end Go.Proofs.Ytkolfecjlbnfkaa
