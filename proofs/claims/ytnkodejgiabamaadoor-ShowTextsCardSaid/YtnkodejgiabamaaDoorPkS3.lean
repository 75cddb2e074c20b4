/-
  Our texts LexQ to ParP, in one.
-/
import Derived.Test.YtnkodejgiabamaaDoorPkS2
/-
  Plain half of LexPlaces and LexStays: where a token lies; what is told of the first bytes is told of more.
-/
namespace Go.Proofs.YtnkodejgiabamaaDoor

theorem skipN_idem : ∀ (b : Bool) (l : List UInt8), skipN false (l.drop (skipN b l)) = 0
  | _, [] => by simp [skipN]
  | true, c :: l => by
    simp only [skipN]
    rw [Nat.add_comm, List.drop_succ_cons]; exact skipN_idem _ l
  | false, c :: l => by
    by_cases h : c = 37
    · rw [skipN, if_pos h, Nat.add_comm, List.drop_succ_cons]; exact skipN_idem _ l
    · by_cases h2 : isSp c = true
      · rw [skipN, if_neg h, if_pos h2, Nat.add_comm, List.drop_succ_cons]; exact skipN_idem _ l
      · rw [skipN, if_neg h, if_neg h2, List.drop_zero, skipN, if_neg h, if_neg h2]
theorem skipV_bd {bs : List UInt8} {k : Int} (h : 0 ≤ k) (h2 : k ≤ bs.length) : k ≤ (skipV bs k : Nat) ∧ skipV bs k ≤ bs.length := by
  unfold skipV
  rw [if_neg (by omega)]
  split
  · omega
  · have := skipN_le false (bs.drop k.toNat)
    rw [List.length_drop] at this; omega
theorem skipV_idem {bs : List UInt8} {k : Int} (h : 0 ≤ k) (h2 : k ≤ bs.length) : skipV bs (skipV bs k : Nat) = skipV bs k := by
  have hb := skipV_bd h h2
  by_cases h3 : (bs.length : Int) ≤ (skipV bs k : Nat)
  · have e : skipV bs k = bs.length := by omega
    rw [e]; unfold skipV; rw [if_neg (by omega), if_pos (by omega)]
  · have e : skipV bs k = k.toNat + skipN false (bs.drop k.toNat) := by
      unfold skipV
      rw [if_neg (by omega), if_neg (by omega)]
    have e3 : skipN false (bs.drop (skipV bs k)) = 0 := by
      rw [e, ← List.drop_drop]
      exact skipN_idem false _
    have gen : ∀ f : Nat, ¬ (bs.length : Int) ≤ (f : Int) → skipN false (bs.drop f) = 0 → skipV bs (f : Int) = f := fun f h1 h2 => by
      unfold skipV
      rw [if_neg (by omega), if_neg h1, Int.toNat_natCast, h2]; rfl
    exact gen _ h3 e3

/-- Of a longer list nothing else, if it stops within. -/
theorem skipN_more : ∀ (b : Bool) (l u : List UInt8), skipN b l < l.length → skipN b (l ++ u) = skipN b l
  | _, [], u => by simp
  | true, c :: l, u => by
    intro h
    simp only [skipN, List.cons_append, List.length_cons] at h ⊢
    rw [skipN_more _ l u (by omega)]
  | false, c :: l, u => by
    intro h
    rw [List.cons_append]
    by_cases h1 : c = 37
    · rw [skipN, if_pos h1] at h ⊢
      rw [skipN, if_pos h1, skipN_more _ l u (by simp at h; omega)]
    · by_cases h2 : isSp c = true
      · rw [skipN, if_neg h1, if_pos h2] at h ⊢
        rw [skipN, if_neg h1, if_pos h2, skipN_more _ l u (by simp at h; omega)]
      · rw [skipN, if_neg h1, if_neg h2, skipN, if_neg h1, if_neg h2]

theorem lineV_more {t u : List UInt8} {last : Bool} {k : Nat} (h : lineV false t = some k) : lineV last (t ++ u) = some k ∧ k ≤ t.length := by
  cases t with
  | nil => simp [lineV] at h
  | cons d t =>
    simp only [lineV, List.cons_append, Option.some.injEq, List.length_cons] at h ⊢
    refine ⟨h, ?_⟩
    subst h; split <;> omega
theorem octV_more {c : UInt8} {t u : List UInt8} {last : Bool} {x : Nat × Nat} (h : octV false c t = some x) : octV last c (t ++ u) = some x ∧ x.2 ≤ t.length + 1 := by
  rcases t with _ | ⟨d, _ | ⟨e, t⟩⟩
  · simp [octV] at h
  · by_cases hd : isOc d = true
    · simp [octV, hd] at h
    · simp only [octV, List.cons_append, if_neg hd] at h ⊢
      refine ⟨h, ?_⟩
      cases h; simp
  · by_cases hd : isOc d = true
    · simp only [octV, List.cons_append, if_pos hd] at h ⊢
      refine ⟨h, ?_⟩
      split at h <;> (cases h; simp)
    · simp only [octV, List.cons_append, if_neg hd] at h ⊢
      refine ⟨h, ?_⟩
      cases h; simp
theorem escV_more {t u : List UInt8} {last : Bool} {x : List UInt8 × Nat} (h : escV false t = some x) : escV last (t ++ u) = some x ∧ x.2 ≤ t.length := by
  cases t with
  | nil => simp [escV] at h
  | cons c t =>
    rw [List.cons_append]
    unfold escV at h ⊢
    simp only [List.length_cons] at h ⊢
    by_cases h1 : c = 110
    · rw [if_pos h1] at h ⊢; refine ⟨h, ?_⟩; cases h; simp
    rw [if_neg h1] at h ⊢
    by_cases h2 : c = 114
    · rw [if_pos h2] at h ⊢; refine ⟨h, ?_⟩; cases h; simp
    rw [if_neg h2] at h ⊢
    by_cases h3 : c = 116
    · rw [if_pos h3] at h ⊢; refine ⟨h, ?_⟩; cases h; simp
    rw [if_neg h3] at h ⊢
    by_cases h4 : c = 98
    · rw [if_pos h4] at h ⊢; refine ⟨h, ?_⟩; cases h; simp
    rw [if_neg h4] at h ⊢
    by_cases h5 : c = 102
    · rw [if_pos h5] at h ⊢; refine ⟨h, ?_⟩; cases h; simp
    rw [if_neg h5] at h ⊢
    by_cases h6 : isOc c = true
    · rw [if_pos h6] at h ⊢
      obtain ⟨y, hy, rfl⟩ := Option.map_eq_some_iff.1 h
      obtain ⟨h7, h8⟩ := octV_more (u := u) (last := last) hy
      rw [h7]
      exact ⟨rfl, h8⟩
    rw [if_neg h6] at h ⊢
    by_cases h7 : c = 10
    · rw [if_pos h7] at h ⊢; refine ⟨h, ?_⟩; cases h; simp
    rw [if_neg h7] at h ⊢
    by_cases h8 : c = 13
    · rw [if_pos h8] at h ⊢
      obtain ⟨y, hy, rfl⟩ := Option.map_eq_some_iff.1 h
      obtain ⟨h7, h8⟩ := lineV_more (u := u) (last := last) hy
      rw [h7]
      exact ⟨rfl, by simp; omega⟩
    rw [if_neg h8] at h ⊢
    refine ⟨h, ?_⟩; cases h; simp
theorem textV_more (last : Bool) (u : List UInt8) : ∀ (n : Nat) (l : List UInt8), l.length ≤ n → ∀ (deep : Nat) (out x r : List UInt8), textV false deep out l = some (x, r) → textV last deep out (l ++ u) = some (x, r ++ u) ∧ r.length < l.length := by
  intro n
  induction n with
  | zero =>
    intro l hl deep out x r h
    obtain rfl : l = [] := List.eq_nil_of_length_eq_zero (by omega)
    rw [textV] at h; cases h
  | succ n ih =>
    intro l hl deep out x r h
    cases l with
    | nil => rw [textV] at h; cases h
    | cons c t =>
      simp only [List.length_cons] at hl ⊢
      rw [List.cons_append]
      rw [textV.eq_def] at h ⊢
      simp only at h ⊢
      by_cases h1 : c = 92
      · rw [if_pos h1] at h ⊢
        cases he : escV false t with
        | none => rw [he] at h; cases h
        | some y =>
          obtain ⟨a, k⟩ := y
          rw [he] at h
          obtain ⟨h7, h8⟩ := escV_more (u := u) (last := last) he
          rw [h7]
          simp only at h h8 ⊢
          obtain ⟨g1, g2⟩ := ih (t.drop k) (by rw [List.length_drop]; omega) _ _ _ _ h
          rw [List.drop_append_of_le_length h8]
          rw [List.length_drop] at g2
          exact ⟨g1, by omega⟩
      rw [if_neg h1] at h ⊢
      by_cases h2 : c = 13
      · rw [if_pos h2] at h ⊢
        cases he : lineV false t with
        | none => rw [he] at h; cases h
        | some k =>
          rw [he] at h
          obtain ⟨h7, h8⟩ := lineV_more (u := u) (last := last) he
          rw [h7]
          simp only at h ⊢
          obtain ⟨g1, g2⟩ := ih (t.drop k) (by rw [List.length_drop]; omega) _ _ _ _ h
          rw [List.drop_append_of_le_length h8]
          rw [List.length_drop] at g2
          exact ⟨g1, by omega⟩
      rw [if_neg h2] at h ⊢
      by_cases h3 : c = 40
      · rw [if_pos h3] at h ⊢
        obtain ⟨g1, g2⟩ := ih t (by omega) _ _ _ _ h
        exact ⟨g1, by omega⟩
      rw [if_neg h3] at h ⊢
      by_cases h4 : c = 41
      · rw [if_pos h4] at h ⊢
        by_cases h5 : deep = 1
        · rw [if_pos h5] at h ⊢
          cases h
          exact ⟨rfl, by omega⟩
        · rw [if_neg h5] at h ⊢
          obtain ⟨g1, g2⟩ := ih t (by omega) _ _ _ _ h
          exact ⟨g1, by omega⟩
      rw [if_neg h4] at h ⊢
      obtain ⟨g1, g2⟩ := ih t (by omega) _ _ _ _ h
      exact ⟨g1, by omega⟩
theorem hexV_more (u : List UInt8) : ∀ (l : List UInt8) (out : List UInt8) (half : Int), ((hexV out half l).1 = 0 → hexV out half (l ++ u) = (0, (hexV out half l).2.1, (hexV out half l).2.2 ++ u) ∧ (hexV out half l).2.2.length < l.length) ∧
    ((hexV out half l).1 ≠ 0 → (hexV out half l).1 ≠ 1 → (hexV out half l).1 = 11 ∧ hexV out half (l ++ u) = (11, [], []))
  | [], out, half => by simp [hexV]
  | c :: t, out, half => by
    rw [List.cons_append]
    simp only [hexV, List.length_cons]
    by_cases h1 : c = 62
    · simp only [if_pos h1]
      exact ⟨fun _ => ⟨by simp, by omega⟩, fun h => absurd rfl h⟩
    simp only [if_neg h1]
    by_cases h2 : isSp c = true
    · simp only [if_pos h2]
      obtain ⟨g1, g2⟩ := hexV_more u t out half
      exact ⟨fun h => ⟨(g1 h).1, by have := (g1 h).2; omega⟩, g2⟩
    simp only [if_neg h2]
    by_cases h3 : hexD c < 0
    · simp only [if_pos h3]
      exact ⟨fun h => by simp at h, fun _ _ => ⟨by simp, by simp⟩⟩
    simp only [if_neg h3]
    by_cases h4 : half < 0
    · simp only [if_pos h4]
      obtain ⟨g1, g2⟩ := hexV_more u t out (hexD c)
      exact ⟨fun h => ⟨(g1 h).1, by have := (g1 h).2; omega⟩, g2⟩
    simp only [if_neg h4]
    obtain ⟨g1, g2⟩ := hexV_more u t (out ++ [UInt8.ofNat (16 * half + hexD c).toNat]) (-1)
    exact ⟨fun h => ⟨(g1 h).1, by have := (g1 h).2; omega⟩, g2⟩
theorem hexV_err : ∀ (l : List UInt8) (out : List UInt8) (half : Int), (hexV out half l).1 = 0 ∨ (hexV out half l).1 = 1 ∨ (hexV out half l).1 = 11
  | [], out, half => by simp [hexV]
  | c :: t, out, half => by
    simp only [hexV]
    split
    · exact .inl rfl
    · split
      · exact hexV_err t _ _
      · split
        · exact .inr (.inr rfl)
        · split
          · exact hexV_err t _ _
          · exact hexV_err t _ _
theorem while_more (p : UInt8 → Bool) (u : List UInt8) : ∀ (l : List UInt8), l.dropWhile p ≠ [] → (l ++ u).takeWhile p = l.takeWhile p ∧ (l ++ u).dropWhile p = l.dropWhile p ++ u
  | [] => by simp
  | c :: t => by
    intro h
    rw [List.cons_append]
    by_cases hp : p c = true
    · rw [List.dropWhile_cons_of_pos hp] at h
      obtain ⟨g1, g2⟩ := while_more p u t h
      rw [List.takeWhile_cons_of_pos hp, List.dropWhile_cons_of_pos hp, List.takeWhile_cons_of_pos hp, List.dropWhile_cons_of_pos hp, g1, g2]
      exact ⟨rfl, rfl⟩
    · rw [List.takeWhile_cons_of_neg hp, List.dropWhile_cons_of_neg hp, List.takeWhile_cons_of_neg hp, List.dropWhile_cons_of_neg hp]
      exact ⟨rfl, rfl⟩
theorem drop_len (p : UInt8 → Bool) (l : List UInt8) : (l.dropWhile p).length ≤ l.length := List.Sublist.length_le (List.dropWhile_sublist _)

/-- The token of the first bytes, if no more are needed, is the token of all; it is not empty. -/
theorem tokV_more (last : Bool) (c : UInt8) (t u : List UInt8) :
    ((tokV false c t).1 = 0 → tokV last c (t ++ u) = (0, (tokV false c t).2.1, (tokV false c t).2.2 ++ u)) ∧ ((tokV false c t).1 ≠ 0 → (tokV false c t).1 ≠ 6 → (tokV last c (t ++ u)).1 = (tokV false c t).1) := by
  by_cases hr : isRg c = true
  · have hc : tokV false c t = if (c :: t).dropWhile isRg = [] ∧ false = false then (6, { kind := 0 }, []) else if isDg c = true ∨ c = 43 ∨ c = 45 ∨ c = 46 then ((parseV ((c :: t).takeWhile isRg)).2.2, { kind := 1, vk := (parseV ((c :: t).takeWhile isRg)).1, vn := (parseV ((c :: t).takeWhile isRg)).2.1 }, (c :: t).dropWhile isRg) else (0, { kind := 6, s := (c :: t).takeWhile isRg }, (c :: t).dropWhile isRg) := by
      unfold tokV; rw [if_pos hr]
    have hc2 : tokV last c (t ++ u) = if (c :: (t ++ u)).dropWhile isRg = [] ∧ last = false then (6, { kind := 0 }, []) else if isDg c = true ∨ c = 43 ∨ c = 45 ∨ c = 46 then ((parseV ((c :: (t ++ u)).takeWhile isRg)).2.2, { kind := 1, vk := (parseV ((c :: (t ++ u)).takeWhile isRg)).1, vn := (parseV ((c :: (t ++ u)).takeWhile isRg)).2.1 }, (c :: (t ++ u)).dropWhile isRg) else (0, { kind := 6, s := (c :: (t ++ u)).takeWhile isRg }, (c :: (t ++ u)).dropWhile isRg) := by
      unfold tokV; rw [if_pos hr]
    by_cases h0 : (c :: t).dropWhile isRg = []
    · rw [hc, if_pos ⟨h0, rfl⟩]
      exact ⟨fun h => by simp at h, fun _ h => absurd rfl h⟩
    · obtain ⟨g1, g2⟩ := while_more isRg u _ h0
      rw [List.cons_append] at g1 g2
      rw [hc, hc2, g1, g2, if_neg (show ¬ ((c :: t).dropWhile isRg = [] ∧ false = false) from fun h => h0 h.1), if_neg (show ¬ ((c :: t).dropWhile isRg ++ u = [] ∧ last = false) from fun h => h0 (List.append_eq_nil_iff.1 h.1).1)]
      by_cases hd : isDg c = true ∨ c = 43 ∨ c = 45 ∨ c = 46
      · rw [if_pos hd, if_pos hd]
        exact ⟨fun h => by rw [show (parseV (List.takeWhile isRg (c :: t))).2.2 = 0 from h], fun _ _ => rfl⟩
      · rw [if_neg hd, if_neg hd]
        exact ⟨fun _ => rfl, fun _ _ => rfl⟩
  · unfold tokV
    rw [if_neg hr, if_neg hr]
    by_cases h1 : c = 91
    · rw [if_pos h1, if_pos h1]; exact ⟨fun _ => rfl, fun _ _ => rfl⟩
    rw [if_neg h1, if_neg h1]
    by_cases h2 : c = 93
    · rw [if_pos h2, if_pos h2]; exact ⟨fun _ => rfl, fun _ _ => rfl⟩
    rw [if_neg h2, if_neg h2]
    by_cases h3 : c = 60
    · rw [if_pos h3, if_pos h3]
      cases t with
      | nil => exact ⟨fun h => by simp [openE] at h, fun _ h => by simp [openE] at h⟩
      | cons d t =>
        simp only [List.cons_append]
        by_cases hd : d = 60
        · rw [if_pos hd, if_pos hd]; exact ⟨fun _ => rfl, fun _ _ => rfl⟩
        rw [if_neg hd, if_neg hd]
        obtain ⟨g1, g2⟩ := hexV_more u (d :: t) [] (-1)
        have g3 := hexV_err (d :: t) [] (-1)
        rw [List.cons_append] at g1 g2
        obtain ⟨H, hH⟩ : ∃ H, hexV [] (-1) (d :: t) = H := ⟨_, rfl⟩
        rw [hH] at g1 g2 g3 ⊢
        obtain ⟨e, x, r⟩ := H
        simp only at g1 g2 g3 ⊢
        rcases g3 with rfl | rfl | rfl
        · rw [(g1 rfl).1, if_pos rfl]
          exact ⟨fun _ => rfl, fun h => absurd rfl h⟩
        · rw [if_neg (by decide), if_pos rfl]
          exact ⟨fun h => by simp [openE] at h, fun _ h => by simp [openE] at h⟩
        · rw [(g2 (by decide) (by decide)).2, if_neg (by decide), if_neg (by decide)]
          exact ⟨fun h => by simp at h, fun _ _ => rfl⟩
    rw [if_neg h3, if_neg h3]
    by_cases h4 : c = 62
    · rw [if_pos h4, if_pos h4]
      cases t with
      | nil => exact ⟨fun h => by simp at h, fun _ h => by simp at h⟩
      | cons d t =>
        simp only [List.cons_append]
        by_cases hd : d = 62
        · rw [if_pos hd, if_pos hd]; exact ⟨fun _ => rfl, fun _ _ => rfl⟩
        · rw [if_neg hd, if_neg hd]; exact ⟨fun h => by simp at h, fun _ _ => rfl⟩
    rw [if_neg h4, if_neg h4]
    by_cases h5 : c = 40
    · rw [if_pos h5, if_pos h5]
      cases he : textV false 1 [] t with
      | none => exact ⟨fun h => by simp [openE] at h, fun _ h => by simp [openE] at h⟩
      | some y =>
        obtain ⟨x, r⟩ := y
        rw [(textV_more last u _ t (Nat.le_refl _) _ _ _ _ he).1]
        exact ⟨fun _ => rfl, fun h => absurd rfl h⟩
    rw [if_neg h5, if_neg h5]
    by_cases h6 : c = 47
    · rw [if_pos h6, if_pos h6]
      simp only
      by_cases h0 : t.dropWhile isRg = []
      · rw [if_pos (show t.dropWhile isRg = [] ∧ True from ⟨h0, trivial⟩)]
        exact ⟨fun h => by simp at h, fun _ h => absurd rfl h⟩
      · obtain ⟨g1, g2⟩ := while_more isRg u _ h0
        rw [g1, g2, if_neg (fun h => h0 h.1), if_neg (fun h => h0 (List.append_eq_nil_iff.1 h.1).1)]
        cases nameV (t.takeWhile isRg) with
        | none => exact ⟨fun h => by simp at h, fun _ _ => rfl⟩
        | some o => exact ⟨fun _ => rfl, fun _ _ => rfl⟩
    rw [if_neg h6, if_neg h6]
    exact ⟨fun h => by simp at h, fun _ _ => rfl⟩
theorem textV_len (last : Bool) : ∀ (n : Nat) (l : List UInt8), l.length ≤ n → ∀ (deep : Nat) (out x r : List UInt8), textV last deep out l = some (x, r) → r.length < l.length := by
  intro n
  induction n with
  | zero =>
    intro l hl deep out x r h
    obtain rfl : l = [] := List.eq_nil_of_length_eq_zero (by omega)
    rw [textV] at h; cases h
  | succ n ih =>
    intro l hl deep out x r h
    cases l with
    | nil => rw [textV] at h; cases h
    | cons c t =>
      simp only [List.length_cons] at hl ⊢
      rw [textV.eq_def] at h
      simp only at h
      split at h
      · split at h
        · cases h
        · have := ih _ (by rw [List.length_drop]; omega) _ _ _ _ h
          rw [List.length_drop] at this; omega
      · split at h
        · split at h
          · cases h
          · have := ih _ (by rw [List.length_drop]; omega) _ _ _ _ h
            rw [List.length_drop] at this; omega
        · split at h
          · have := ih _ (by omega) _ _ _ _ h
            omega
          · split at h
            · split at h
              · cases h; omega
              · have := ih _ (by omega) _ _ _ _ h
                omega
            · have := ih _ (by omega) _ _ _ _ h
              omega
/-- A token is some, and takes its bytes. -/
theorem tokV_some (last : Bool) (c : UInt8) (t : List UInt8) (h : (tokV last c t).1 = 0) : (tokV last c t).2.1.kind ≠ 0 ∧ (tokV last c t).2.2.length ≤ t.length := by
  obtain ⟨V, hV⟩ : ∃ V, tokV last c t = V := ⟨_, rfl⟩
  rw [hV] at h ⊢
  unfold tokV at hV
  split at hV
  · next hr =>
    have hd : ((c :: t).dropWhile isRg).length ≤ t.length := by rw [List.dropWhile_cons_of_pos hr]; exact drop_len _ _
    simp only at hV
    split at hV
    · subst hV; simp at h
    · split at hV
      · subst hV; exact ⟨by simp, hd⟩
      · subst hV; exact ⟨by simp, hd⟩
  split at hV
  · subst hV; exact ⟨by simp, Nat.le_refl _⟩
  split at hV
  · subst hV; exact ⟨by simp, Nat.le_refl _⟩
  split at hV
  · cases t with
    | nil => subst hV; cases last <;> simp [openE] at h
    | cons d t =>
      simp only at hV
      split at hV
      · subst hV; exact ⟨by simp, by simp⟩
      · have hx := (hexV_more [] (d :: t) [] (-1)).1
        split at hV
        · subst hV
          exact ⟨by simp, Nat.le_of_lt (hx ‹_›).2⟩
        · split at hV
          · subst hV; cases last <;> simp [openE] at h
          · subst hV; simp at h
  split at hV
  · cases t with
    | nil => subst hV; cases last <;> simp at h
    | cons d t =>
      simp only at hV
      split at hV
      · subst hV; exact ⟨by simp, by simp⟩
      · subst hV; simp at h
  split at hV
  · cases he : textV last 1 [] t with
    | none => rw [he] at hV; subst hV; cases last <;> simp [openE] at h
    | some y =>
      obtain ⟨x, r⟩ := y
      rw [he] at hV
      subst hV
      exact ⟨by simp, by have := textV_len last _ t (Nat.le_refl _) _ _ _ _ he; simp only; omega⟩
  split at hV
  · simp only at hV
    split at hV
    · subst hV; simp at h
    · split at hV
      · subst hV; simp at h
      · subst hV; exact ⟨by simp, drop_len _ _⟩
  · subst hV; simp at h

/-- The token that stands at a place where no space is. -/
def nextF (bs : List UInt8) (f : Nat) (last : Bool) : Tk × Int × Int × Int :=
  match bs.drop f with
  | [] => ({ kind := 0 }, (f : Int), (f : Int), if last then 0 else 6)
  | c :: t => if (tokV last c t).1 = 0 then ((tokV last c t).2.1, (f : Int), (bs.length : Int) - ((tokV last c t).2.2.length : Int), 0) else ({ kind := 0 }, (f : Int), (f : Int), (tokV last c t).1)
theorem nextV_in {bs : List UInt8} {k : Int} (last : Bool) (h : 0 ≤ k) (h2 : k ≤ bs.length) : nextV bs k last = nextF bs (skipV bs k) last := by
  have h3 : ¬ (k < 0 ∨ (bs.length : Int) < k) := by omega
  unfold nextV
  rw [if_neg h3]
  show (match bs.drop (skipV bs k) with | [] => _ | c :: t => _) = _
  unfold nextF
  cases bs.drop (skipV bs k) <;> rfl
theorem nextF_nil {bs : List UInt8} {f : Nat} (last : Bool) (h : bs.drop f = []) : nextF bs f last = ({ kind := 0 }, (f : Int), (f : Int), if last then 0 else 6) := by unfold nextF; rw [h]
theorem nextF_cons {bs : List UInt8} {f : Nat} (last : Bool) {c : UInt8} {t : List UInt8} (h : bs.drop f = c :: t) : nextF bs f last = if (tokV last c t).1 = 0 then ((tokV last c t).2.1, (f : Int), (bs.length : Int) - ((tokV last c t).2.2.length : Int), 0) else ({ kind := 0 }, (f : Int), (f : Int), (tokV last c t).1) := by unfold nextF; rw [h]
/-- What LexPlaces asks. -/
theorem nextV_places {bs : List UInt8} {k : Int} (last : Bool) (h : 0 ≤ k) (h2 : k ≤ bs.length) :
    ((nextV bs k last).2.2.2 ≠ 0 → (nextV bs k last).1 = { kind := 0 } ∧ (nextV bs k last).2.1 = (nextV bs k last).2.2.1 ∧ k ≤ (nextV bs k last).2.1 ∧ (nextV bs k last).2.1 ≤ bs.length) ∧
    ((nextV bs k last).2.2.2 = 0 → (nextV bs k last).1.kind = 0 → last = true ∧ (nextV bs k last).2.1 = bs.length ∧ (nextV bs k last).2.2.1 = bs.length) ∧
    ((nextV bs k last).2.2.2 = 0 → (nextV bs k last).1.kind ≠ 0 → nextV bs (nextV bs k last).2.1 last = nextV bs k last ∧ k ≤ (nextV bs k last).2.1 ∧ (nextV bs k last).2.1 < (nextV bs k last).2.2.1 ∧ (nextV bs k last).2.2.1 ≤ bs.length) := by
  obtain ⟨hb1, hb2⟩ := skipV_bd h h2
  have hi := skipV_idem h h2
  have hV := nextV_in (bs := bs) last h h2
  have hV2 := nextV_in (bs := bs) (k := (skipV bs k : Nat)) last (by omega) (by omega)
  rw [hi] at hV2
  generalize skipV bs k = f at *
  rw [hV]
  cases hd : bs.drop f with
  | nil =>
    have hn := nextF_nil last hd
    rw [hn] at hV2 ⊢
    have hfl : f = bs.length := by have := List.drop_eq_nil_iff.1 hd; omega
    refine ⟨fun _ => ⟨rfl, rfl, hb1, by simp only; omega⟩, fun h0 _ => ⟨?_, by simp only; omega, by simp only; omega⟩, fun _ h => absurd rfl h⟩
    cases last
    · simp at h0
    · rfl
  | cons c t =>
    have hn := nextF_cons last hd
    have hlen : f + (t.length + 1) = bs.length := by
      have := congrArg List.length hd
      rw [List.length_drop, List.length_cons] at this; omega
    by_cases h0 : (tokV last c t).1 = 0
    · obtain ⟨g1, g2⟩ := tokV_some last c t h0
      rw [if_pos h0] at hn
      rw [hn] at hV2 ⊢
      generalize tokV last c t = T at *
      obtain ⟨e, x, r⟩ := T
      simp only at g1 g2 hV2 ⊢
      exact ⟨fun h => absurd rfl h, fun _ h => absurd h g1, fun _ _ => ⟨hV2, hb1, by omega, by omega⟩⟩
    · rw [if_neg h0] at hn
      rw [hn]
      exact ⟨fun _ => ⟨rfl, rfl, hb1, by simp only; omega⟩, fun h => absurd h h0, fun h => absurd h h0⟩

theorem nextV_gen {l : List UInt8} (u : List UInt8) (la : Bool) {k : Int} (h : 0 ≤ k) (hk : k ≤ l.length) (h6 : (nextV l k false).2.2.2 ≠ 6) : nextV (l ++ u) k la = nextV l k false := by
  obtain ⟨hb1, hb2⟩ := skipV_bd h hk
  have hV := nextV_in (bs := l) false h hk
  have hV2 := nextV_in (bs := l ++ u) la h (by rw [List.length_append]; omega)
  by_cases hl : skipV l k = l.length
  · exfalso; apply h6
    rw [hV, hl, nextF_nil false (by simp)]
    rfl
  · have hkl : k < l.length := by omega
    have e : skipV l k = k.toNat + skipN false (l.drop k.toNat) := by
      unfold skipV; rw [if_neg (by omega), if_neg (by omega)]
    have e2 : skipV (l ++ u) k = skipV l k := by
      rw [e]; unfold skipV
      rw [if_neg (by omega), if_neg (by rw [List.length_append]; omega), List.drop_append_of_le_length (by omega), skipN_more _ _ _ (by rw [List.length_drop]; omega)]
    rw [e2] at hV2
    rw [hV] at h6
    rw [hV, hV2]
    clear hV hV2 e e2
    generalize skipV l k = f at *
    cases hd : l.drop f with
    | nil => have := List.drop_eq_nil_iff.1 hd; omega
    | cons c t =>
      have hd2 : (l ++ u).drop f = c :: (t ++ u) := by rw [List.drop_append_of_le_length (by omega), hd]; rfl
      have hn := nextF_cons false hd
      rw [nextF_cons la hd2, hn]
      rw [hn] at h6
      obtain ⟨g1, g2⟩ := tokV_more la c t u
      by_cases h0 : (tokV false c t).1 = 0
      · rw [g1 h0, if_pos rfl, if_pos h0]
        simp only
        rw [List.length_append, List.length_append]
        congr 3; omega
      · rw [if_neg h0] at h6
        have g3 := g2 h0 h6
        rw [if_neg (by rw [g3]; exact h0), if_neg h0, g3]
/-- What LexStays asks. -/
theorem nextV_stays {bs : List UInt8} {n : Nat} {k : Int} (last : Bool) (h : 0 ≤ k) (h2 : k ≤ n) (hn : n ≤ bs.length) (h6 : (nextV (bs.take n) k false).2.2.2 ≠ 6) : nextV bs k last = nextV (bs.take n) k false ∧ nextV (bs.take n) k true = nextV (bs.take n) k false := by
  have hk : k ≤ (bs.take n).length := by rw [List.length_take]; omega
  refine ⟨?_, ?_⟩
  · have := nextV_gen (l := bs.take n) (bs.drop n) last h hk h6
    rwa [List.take_append_drop] at this
  · have := nextV_gen (l := bs.take n) [] true h hk h6
    rwa [List.append_nil] at this
end Go.Proofs.YtnkodejgiabamaaDoor
/-
  Plain half of layer 12: values, what is open, the value that stands from a place on; what more bytes change.
-/
namespace Go.Proofs.YtnkodejgiabamaaDoor

/-- A value: its kind, number, text, and the values in it. -/
inductive PV where
  | mk (kind n : Int) (s : List UInt8) (l : List PV)
def PV.kind : PV → Int | .mk k _ _ _ => k
def PV.n : PV → Int | .mk _ n _ _ => n
def PV.s : PV → List UInt8 | .mk _ _ s _ => s
def PV.l : PV → List PV | .mk _ _ _ l => l
def PV.none : PV := .mk 0 0 [] []
instance : Inhabited PV := ⟨PV.none⟩
/-- What is open: a dictionary or an array, and what came in it. -/
structure Lv where
  dict : Bool
  l : List PV
def wantsV (v : Lv) : Bool := v.dict && v.l.length % 2 == 0
def topW : List Lv → Bool
  | [] => false
  | v :: _ => wantsV v
def wholeV (t : Tk) : Bool := t.kind == 1 && t.vk == 2
def moreV (e : Int) : Int := if e = 6 then 6 else 0
/-- The value of a token. -/
def tkV (t : Tk) : PV := .mk t.vk t.vn t.vs []
/-- Behind a whole number: the value, where it ends, the error. -/
def refV (bs : List UInt8) (last : Bool) (at_ : Int) (v : PV) : PV × Int × Int :=
  let g := nextV bs at_ last
  if g.2.2.2 ≠ 0 ∨ wholeV g.1 = false then (v, at_, moreV g.2.2.2) else
  let r := nextV bs g.2.2.1 last
  if r.2.2.2 ≠ 0 ∨ r.1.kind ≠ 6 ∨ r.1.s ≠ [82] then (v, at_, moreV r.2.2.2) else
  if v.n < 1 ∨ 4096 < v.n ∨ g.1.vn ≠ 0 then (v, at_, 26) else (.mk 8 v.n [] [], r.2.2.1, 0)
def wordV (w : List UInt8) : Option PV :=
  if w = [116, 114, 117, 101] then some (.mk 1 1 [] []) else if w = [102, 97, 108, 115, 101] then some (.mk 1 0 [] []) else if w = [110, 117, 108, 108] then some PV.none else none
/-- The value of one token, or of a reference. -/
def singleV (bs : List UInt8) (last : Bool) (st : List Lv) (at_ : Int) (t : Tk) : PV × Int × Int :=
  if topW st = true ∧ (t.kind ≠ 1 ∨ t.vk ≠ 5) then (PV.none, at_, 11)
  else if t.kind = 6 then (match wordV t.s with | none => (PV.none, at_, 11) | some v => (v, at_, 0))
  else if wholeV t = true then refV bs last at_ (tkV t)
  else (tkV t, at_, 0)
def beginV (st : List Lv) (dict : Bool) : List Lv × Int := if topW st = true then (st, 11) else if 64 ≤ st.length then (st, 15) else ({ dict := dict, l := [] } :: st, 0)
/-- Names and values, two by two. -/
def twoV : List PV → List (PV × PV)
  | a :: b :: l => (a, b) :: twoV l
  | _ => []
def flatV : List (PV × PV) → List PV
  | [] => []
  | (a, b) :: l => a :: b :: flatV l
/-- Two texts, byte by byte: is the first less? -/
def sLt : List UInt8 → List UInt8 → Bool
  | [], [] => false
  | [], _ :: _ => true
  | _ :: _, [] => false
  | a :: l, b :: m => if a.toNat < b.toNat then true else if b.toNat < a.toNat then false else sLt l m
/-- In their order: one more. -/
def insV (x : PV × PV) : List (PV × PV) → List (PV × PV)
  | [] => [x]
  | y :: l => if sLt y.1.s x.1.s then y :: insV x l else x :: y :: l
def sortV : List (PV × PV) → List (PV × PV)
  | [] => []
  | x :: l => insV x (sortV l)
def twiceV : List (PV × PV) → Bool
  | x :: y :: l => x.1.s == y.1.s || twiceV (y :: l)
  | _ => false
def pairsV (l : List PV) : Option (List PV) := if twiceV (sortV (twoV l)) = true then none else some (flatV (sortV (twoV l)))
/-- What was opened last is closed. -/
def endV12 (st : List Lv) (dict : Bool) : PV × List Lv × Int :=
  match st with
  | [] => (PV.none, st, 11)
  | v :: rest =>
    if v.dict ≠ dict ∨ (dict = true ∧ wantsV v = false) then (PV.none, st, 11)
    else if dict = false then (.mk 6 0 [] v.l, rest, 0)
    else match pairsV v.l with
      | none => (PV.none, st, 16)
      | some l => (.mk 7 0 [] l, rest, 0)
/-- A token is taken: the value that is whole, if one is; what is open; where; the error. -/
def stepV (bs : List UInt8) (last : Bool) (st : List Lv) (at_ : Int) (t : Tk) : Option PV × List Lv × Int × Int :=
  if t.kind = 0 then (none, st, at_, 10)
  else if t.kind = 2 ∨ t.kind = 4 then (none, (beginV st (t.kind == 4)).1, at_, (beginV st (t.kind == 4)).2)
  else if t.kind = 3 ∨ t.kind = 5 then
    (let r := endV12 st (t.kind == 5)
     if r.2.2 = 0 then (some r.1, r.2.1, at_, 0) else (none, r.2.1, at_, r.2.2))
  else
    (let r := singleV bs last st at_ t
     if r.2.2 ≠ 0 then (none, st, r.2.1, r.2.2) else if 64 ≤ st.length then (none, st, r.2.1, 15) else (some r.1, st, r.2.1, 0))
/-- The value that stands from a place on, behind all that is open: the value, where it ends, the error. -/
def valO (bs : List UInt8) (last : Bool) : Nat → List Lv → Int → Option (PV × Int × Int)
  | 0, _, _ => none
  | g + 1, st, at_ =>
    let t := nextV bs at_ last
    if t.2.2.2 ≠ 0 then some (PV.none, 0, t.2.2.2) else
    match stepV bs last st t.2.2.1 t.1 with
    | (v, st2, at2, e) =>
      if e ≠ 0 then some (PV.none, 0, e) else
      match v with
      | none => valO bs last g st2 at2
      | some x => match st2 with
        | [] => some (x, at2, 0)
        | top :: rest => valO bs last g ({ top with l := top.l ++ [x] } :: rest) at2

/-- Where what is told lies. -/
theorem nextV_to {bs : List UInt8} {k : Int} (last : Bool) (h : 0 ≤ k) (h2 : k ≤ bs.length) : k ≤ (nextV bs k last).2.2.1 ∧ (nextV bs k last).2.2.1 ≤ bs.length := by
  rw [nextV_in last h h2]
  have hs := skipV_bd h h2
  cases hd : bs.drop (skipV bs k) with
  | nil => rw [nextF_nil last hd]; exact ⟨hs.1, by have := hs.2; show ((skipV bs k : Nat) : Int) ≤ _; omega⟩
  | cons c t =>
    rw [nextF_cons last hd]
    have hl : (bs.drop (skipV bs k)).length = t.length + 1 := by rw [hd]; rfl
    rw [List.length_drop] at hl
    split
    · rename_i h0
      have := (tokV_some last c t h0).2
      exact ⟨by show k ≤ (bs.length : Int) - _; omega, by show (bs.length : Int) - _ ≤ _; omega⟩
    · exact ⟨hs.1, by have := hs.2; show ((skipV bs k : Nat) : Int) ≤ _; omega⟩
theorem moreV_6 {e : Int} (h : moreV e ≠ 6) : moreV e = 0 ∧ e ≠ 6 := by
  unfold moreV at h ⊢
  split
  · rename_i h1; rw [if_pos h1] at h; exact absurd rfl h
  · rename_i h1; exact ⟨rfl, h1⟩
/-- All that is told of the first bytes. -/
structure Same3 (bs : List UInt8) (n : Nat) (last : Bool) (k : Int) : Prop where
  a : nextV bs k last = nextV (bs.take n) k false
  b : nextV (bs.take n) k true = nextV (bs.take n) k false
  lo : k ≤ (nextV (bs.take n) k false).2.2.1
  hi : (nextV (bs.take n) k false).2.2.1 ≤ n
theorem same3 {bs : List UInt8} {n : Nat} (last : Bool) {k : Int} (h : 0 ≤ k) (h2 : k ≤ n) (hn : n ≤ bs.length) (h6 : (nextV (bs.take n) k false).2.2.2 ≠ 6) : Same3 bs n last k := by
  obtain ⟨p, q⟩ := nextV_stays last h h2 hn h6
  have hl : (bs.take n).length = n := by rw [List.length_take]; omega
  obtain ⟨r, s⟩ := nextV_to (bs := bs.take n) (k := k) false h (by omega)
  exact ⟨p, q, r, by omega⟩
theorem refV_stays {bs : List UInt8} {n : Nat} (last : Bool) {k : Int} (h : 0 ≤ k) (h2 : k ≤ n) (hn : n ≤ bs.length) (v : PV) (h6 : (refV (bs.take n) false k v).2.2 ≠ 6) :
    refV bs last k v = refV (bs.take n) false k v ∧ refV (bs.take n) true k v = refV (bs.take n) false k v ∧ k ≤ (refV (bs.take n) false k v).2.1 ∧ (refV (bs.take n) false k v).2.1 ≤ n := by
  unfold refV at h6 ⊢
  simp only at h6 ⊢
  by_cases hg6 : (nextV (bs.take n) k false).2.2.2 = 6
  · rw [if_pos (.inl (by rw [hg6]; decide)), hg6] at h6
    exact absurd rfl h6
  · have g := same3 last h h2 hn hg6
    rw [g.a, g.b]
    by_cases hc : (nextV (bs.take n) k false).2.2.2 ≠ 0 ∨ wholeV (nextV (bs.take n) k false).1 = false
    · simp only [if_pos hc]
      exact ⟨by trivial, by trivial, Int.le_refl _, h2⟩
    · simp only [if_neg hc] at h6 ⊢
      by_cases hr6 : (nextV (bs.take n) (nextV (bs.take n) k false).2.2.1 false).2.2.2 = 6
      · rw [if_pos (.inl (by rw [hr6]; decide)), hr6] at h6
        exact absurd rfl h6
      · have r := same3 (n := n) last (k := (nextV (bs.take n) k false).2.2.1) (by have := g.lo; omega) g.hi hn hr6
        rw [r.a, r.b]
        refine ⟨rfl, rfl, ?_⟩
        split
        · exact ⟨Int.le_refl _, h2⟩
        · split
          · exact ⟨Int.le_refl _, h2⟩
          · have h3 := r.lo; have h4 := g.lo; exact ⟨Int.le_trans h4 h3, r.hi⟩
theorem singleV_stays {bs : List UInt8} {n : Nat} (last : Bool) (st : List Lv) {k : Int} (h : 0 ≤ k) (h2 : k ≤ n) (hn : n ≤ bs.length) (t : Tk) (h6 : (singleV (bs.take n) false st k t).2.2 ≠ 6) :
    singleV bs last st k t = singleV (bs.take n) false st k t ∧ singleV (bs.take n) true st k t = singleV (bs.take n) false st k t ∧ k ≤ (singleV (bs.take n) false st k t).2.1 ∧ (singleV (bs.take n) false st k t).2.1 ≤ n := by
  unfold singleV at h6 ⊢
  split
  · exact ⟨by trivial, by trivial, Int.le_refl _, h2⟩
  · rename_i q1
    rw [if_neg q1] at h6
    split
    · split
      · exact ⟨by trivial, by trivial, Int.le_refl _, h2⟩
      · exact ⟨by trivial, by trivial, Int.le_refl _, h2⟩
    · rename_i q2
      rw [if_neg q2] at h6
      split
      · rename_i q3
        rw [if_pos q3] at h6
        exact refV_stays last h h2 hn _ h6
      · exact ⟨by trivial, by trivial, Int.le_refl _, h2⟩
theorem stepV_stays {bs : List UInt8} {n : Nat} (last : Bool) (st : List Lv) {k : Int} (h : 0 ≤ k) (h2 : k ≤ n) (hn : n ≤ bs.length) (t : Tk) (h6 : (stepV (bs.take n) false st k t).2.2.2 ≠ 6) :
    stepV bs last st k t = stepV (bs.take n) false st k t ∧ stepV (bs.take n) true st k t = stepV (bs.take n) false st k t ∧ k ≤ (stepV (bs.take n) false st k t).2.2.1 ∧ (stepV (bs.take n) false st k t).2.2.1 ≤ n := by
  unfold stepV at h6 ⊢
  split
  · exact ⟨by trivial, by trivial, Int.le_refl _, h2⟩
  · rename_i q1
    rw [if_neg q1] at h6
    split
    · exact ⟨by trivial, by trivial, Int.le_refl _, h2⟩
    · rename_i q2
      rw [if_neg q2] at h6
      split
      · simp only
        split
        · exact ⟨by trivial, by trivial, Int.le_refl _, h2⟩
        · exact ⟨by trivial, by trivial, Int.le_refl _, h2⟩
      · rename_i q3
        rw [if_neg q3] at h6
        simp only at h6 ⊢
        have h7 : (singleV (bs.take n) false st k t).2.2 ≠ 6 := by
          intro e
          rw [if_pos (by rw [e]; decide)] at h6
          exact h6 e
        obtain ⟨r1, r2, r3, r4⟩ := singleV_stays last st h h2 hn t h7
        rw [r1, r2]
        refine ⟨rfl, rfl, ?_⟩
        split
        · exact ⟨r3, r4⟩
        · split
          · exact ⟨r3, r4⟩
          · exact ⟨r3, r4⟩
theorem valO_stays {bs : List UInt8} {n : Nat} (last : Bool) (hn : n ≤ bs.length) : ∀ (g : Nat) (st : List Lv) (k : Int) (V : PV × Int × Int), 0 ≤ k → k ≤ n → valO (bs.take n) false g st k = some V → V.2.2 ≠ 6 → valO bs last g st k = some V ∧ valO (bs.take n) true g st k = some V
  | 0, _, _, _, _, _, hV, _ => by cases hV
  | g + 1, st, k, V, h, h2, hV, h6 => by
    unfold valO at hV ⊢
    simp only at hV ⊢
    have ht6 : (nextV (bs.take n) k false).2.2.2 ≠ 6 := by
      intro e
      rw [if_pos (by rw [e]; decide), e] at hV
      cases hV
      exact h6 rfl
    have s := same3 last h h2 hn ht6
    rw [s.a, s.b]
    by_cases he : (nextV (bs.take n) k false).2.2.2 ≠ 0
    · simp only [if_pos he] at hV ⊢
      exact ⟨hV, hV⟩
    · simp only [if_neg he] at hV ⊢
      have hs6 : (stepV (bs.take n) false st (nextV (bs.take n) k false).2.2.1 (nextV (bs.take n) k false).1).2.2.2 ≠ 6 := by
        intro e
        rw [if_pos (by rw [e]; decide), e] at hV
        cases hV
        exact h6 rfl
      have hlo := s.lo
      obtain ⟨r1, r2, r3, r4⟩ := stepV_stays last st (k := (nextV (bs.take n) k false).2.2.1) (by omega) s.hi hn (nextV (bs.take n) k false).1 hs6
      rw [r1, r2]
      generalize stepV (bs.take n) false st (nextV (bs.take n) k false).2.2.1 (nextV (bs.take n) k false).1 = Z at *
      obtain ⟨v, st2, at2, e2⟩ := Z
      simp only at hV r3 r4 ⊢
      by_cases h0 : e2 ≠ 0
      · simp only [if_pos h0] at hV ⊢
        exact ⟨hV, hV⟩
      · simp only [if_neg h0] at hV ⊢
        cases v with
        | none => exact valO_stays last hn g st2 at2 V (by omega) r4 hV h6
        | some x =>
          cases st2 with
          | nil => exact ⟨hV, hV⟩
          | cons top rest => exact valO_stays last hn g _ at2 V (by omega) r4 hV h6
end Go.Proofs.YtnkodejgiabamaaDoor
