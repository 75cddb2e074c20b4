/-
  Our texts ShowP to Sw3, in one.
-/
import Derived.Test.YtnkodejgiabamaaDoorPkV5
import Derived.BigQuiet
import Derived.Deep.RegionHeld3
import Derived.Deep.Cut
/-
  Plain half of layer 13: forms of values, and the tokens that stand in them.
-/
namespace Go.Proofs.YtnkodejgiabamaaDoor

/-- A digit to the base 16. -/
def hexG (d : Nat) : UInt8 := if d < 10 then UInt8.ofNat (48 + d) else UInt8.ofNat (87 + d)
def hexB (c : UInt8) : List UInt8 := [hexG (c.toNat / 16), hexG (c.toNat % 16)]
def hexF : List UInt8 → List UInt8
  | [] => []
  | c :: s => hexB c ++ hexF s
def nameF : List UInt8 → List UInt8
  | [] => []
  | c :: s => (if c.toNat < 33 ∨ 126 < c.toNat ∨ c = 35 ∨ isDl c = true then 35 :: hexB c else [c]) ++ nameF s
def readF (s : List UInt8) : Bool := s.all fun c => decide (32 ≤ c.toNat) && decide (c.toNat ≤ 126)
def bareF : List UInt8 → List UInt8
  | [] => []
  | c :: s => (if c = 40 ∨ c = 41 ∨ c = 92 then [92, c] else [c]) ++ bareF s
def textF (s : List UInt8) : List UInt8 := if readF s = true then 40 :: (bareF s ++ [41]) else 60 :: (hexF s ++ [62])
mutual
def formV : PV → List UInt8
  | .mk k n s l =>
    if k = 0 then [110, 117, 108, 108]
    else if k = 1 then (if n = 0 then [102, 97, 108, 115, 101] else [116, 114, 117, 101])
    else if k = 2 ∨ k = 3 then (printV k n true).1
    else if k = 4 then textF s
    else if k = 5 then 47 :: nameF s
    else if k = 8 then (printV 2 n true).1 ++ [32, 48, 32, 82]
    else if k = 6 then 91 :: (rowF l ++ [93])
    else if k = 7 then 60 :: 60 :: (rowF l ++ [62, 62])
    else []
def rowF : List PV → List UInt8
  | [] => []
  | x :: l => formV x ++ moreF l
def moreF : List PV → List UInt8
  | [] => []
  | x :: l => 32 :: (formV x ++ moreF l)
end

theorem hexG_rg : ∀ d, d < 16 → isRg (hexG d) = true ∧ hexD (hexG d) = (d : Int) ∧ isSp (hexG d) = false ∧ hexG d ≠ 62 ∧ hexG d ≠ 35 := by
  have : ∀ d : Fin 16, isRg (hexG d.1) = true ∧ hexD (hexG d.1) = (d.1 : Int) ∧ isSp (hexG d.1) = false ∧ hexG d.1 ≠ 62 ∧ hexG d.1 ≠ 35 := by decide
  exact fun d hd => this ⟨d, hd⟩
theorem byte_hex (c : UInt8) : UInt8.ofNat (16 * ((c.toNat / 16 : Nat) : Int) + ((c.toNat % 16 : Nat) : Int)).toNat = c := by
  have h : (16 * ((c.toNat / 16 : Nat) : Int) + ((c.toNat % 16 : Nat) : Int)).toNat = c.toNat := by omega
  rw [h]
  exact UInt8.ofNat_toNat
theorem hex_lt (c : UInt8) : c.toNat / 16 < 16 ∧ c.toNat % 16 < 16 := by
  have := c.toNat_lt
  omega
theorem hexV_form : ∀ (s out t : List UInt8), hexV out (-1) (hexF s ++ 62 :: t) = (0, out ++ s, t)
  | [], out, t => by simp [hexF, hexV]
  | c :: s, out, t => by
    obtain ⟨h1, h2⟩ := hex_lt c
    obtain ⟨-, a2, a3, a4, -⟩ := hexG_rg _ h1
    obtain ⟨-, b2, b3, b4, -⟩ := hexG_rg _ h2
    simp only [hexF, hexB, List.cons_append, List.nil_append]
    rw [hexV, if_neg a4, if_neg (by rw [a3]; decide), if_neg (by rw [a2]; omega), if_pos (by decide)]
    rw [hexV, if_neg b4, if_neg (by rw [b3]; decide), if_neg (by rw [b2]; omega), if_neg (by rw [a2]; omega), a2, b2, byte_hex, hexV_form s]
    simp
theorem nameGo_form : ∀ (s out : List UInt8), nameGo out (nameF s) = some (out ++ s)
  | [], out => by simp [nameF, nameGo]
  | c :: s, out => by
    obtain ⟨h1, h2⟩ := hex_lt c
    obtain ⟨-, a2, -, -, -⟩ := hexG_rg _ h1
    obtain ⟨-, b2, -, -, -⟩ := hexG_rg _ h2
    simp only [nameF]
    split
    · simp only [hexB, List.cons_append, List.nil_append]
      rw [nameGo, if_pos rfl, if_neg (by rw [a2, b2]; omega), a2, b2, byte_hex, nameGo_form s]
      simp
    · rename_i hn
      simp only [List.cons_append, List.nil_append]
      have hc : ¬ c = 35 := fun e => hn (.inr (.inr (.inl e)))
      have hstep : nameGo out (c :: nameF s) = nameGo (out ++ [c]) (nameF s) := by
        rw [nameGo.eq_def]
        simp only [if_neg hc]
      rw [hstep, nameGo_form s]
      simp
theorem nameF_rg : ∀ (s : List UInt8), ∀ x ∈ nameF s, isRg x = true
  | [], x, hx => by cases hx
  | c :: s, x, hx => by
    obtain ⟨h1, h2⟩ := hex_lt c
    simp only [nameF] at hx
    rcases List.mem_append.1 hx with hx | hx
    · split at hx
      · simp only [hexB, List.mem_cons, List.not_mem_nil, or_false] at hx
        rcases hx with rfl | rfl | rfl
        · decide
        · exact (hexG_rg _ h1).1
        · exact (hexG_rg _ h2).1
      · rename_i hn
        rw [List.mem_singleton.1 hx]
        have hd : isDl c = false := by
          cases h : isDl c with
          | false => rfl
          | true => exact absurd (.inr (.inr (.inr h))) hn
        have hs : isSp c = false := by
          have hc : ¬ c.toNat < 33 := fun h => hn (.inl h)
          unfold isSp
          simp only [Bool.or_eq_false_iff, beq_eq_false_iff_ne]
          refine ⟨⟨⟨⟨⟨?_, ?_⟩, ?_⟩, ?_⟩, ?_⟩, ?_⟩ <;> (rintro rfl; exact hc (by decide))
        unfold isRg
        rw [hd, hs]
        rfl
    · exact nameF_rg s x hx
/-- What stands behind a run of regular bytes. -/
def StopsAt (post : List UInt8) : Prop := ∀ c t, post = c :: t → isRg c = false
theorem run_stop {w post : List UInt8} (hw : ∀ x ∈ w, isRg x = true) (hp : StopsAt post) : (w ++ post).takeWhile isRg = w ∧ (w ++ post).dropWhile isRg = post := by
  induction w with
  | nil =>
    cases post with
    | nil => exact ⟨rfl, rfl⟩
    | cons c t =>
      have := hp c t rfl
      simp [this]
  | cons x w ih =>
    obtain ⟨i1, i2⟩ := ih fun y hy => hw y (List.mem_cons_of_mem _ hy)
    have hx := hw x (List.mem_cons_self)
    rw [List.cons_append]
    simp only [List.takeWhile_cons, List.dropWhile_cons, hx, if_pos]
    exact ⟨by rw [i1], i2⟩
theorem textV_form (last : Bool) : ∀ (s out t : List UInt8), readF s = true → textV last 1 out (bareF s ++ 41 :: t) = some (out ++ s, t)
  | [], out, t, _ => by
    simp only [bareF, List.nil_append]
    rw [textV, if_neg (by decide), if_neg (by decide), if_neg (by decide), if_pos rfl, if_pos rfl]
    simp
  | c :: s, out, t, h => by
    simp only [readF, List.all_cons, Bool.and_eq_true, decide_eq_true_eq] at h
    obtain ⟨⟨h1, h2⟩, h3⟩ := h
    have ih := fun o => textV_form last s o t (by simpa [readF] using h3)
    simp only [bareF]
    by_cases hc : c = 40 ∨ c = 41 ∨ c = 92
    · rw [if_pos hc]
      simp only [List.cons_append, List.nil_append]
      have he : escV last (c :: (bareF s ++ 41 :: t)) = some ([c], 1) := by
        rcases hc with rfl | rfl | rfl <;> (unfold escV; simp [isOc])
      rw [textV, if_pos rfl, he]
      simp only [List.drop_succ_cons, List.drop_zero]
      rw [ih]
      simp
    · rw [if_neg hc]
      simp only [List.cons_append, List.nil_append]
      rw [textV, if_neg (fun e => hc (.inr (.inr e))), if_neg (by rintro rfl; revert h1; decide), if_neg (fun e => hc (.inl e)), if_neg (fun e => hc (.inr (.inl e))), ih]
      simp
theorem dg_rg {c : UInt8} (h : isDg c = true) : isRg c = true := by
  have h0 : ∀ n : Fin 256, isDg (UInt8.ofNat n.1) = true → isRg (UInt8.ofNat n.1) = true := by decide +kernel
  have h1 := h0 ⟨c.toNat, c.toNat_lt⟩
  rw [show UInt8.ofNat c.toNat = c from UInt8.ofNat_toNat] at h1
  exact h1 h
theorem absL_rg (k : Int) (n : Nat) : ∀ x ∈ absL k n, isRg x = true := by
  intro x hx
  unfold absL at hx
  split at hx
  · exact dg_rg (List.all_eq_true.1 (decL_spec n).1 x hx)
  · rcases List.mem_append.1 hx with hx | hx
    · exact dg_rg (List.all_eq_true.1 (decL_spec _).1 x hx)
    · rcases List.mem_cons.1 hx with rfl | hx
      · decide
      · exact dg_rg (List.all_eq_true.1 (mil_trimF _ (Nat.mod_lt _ (by decide))).2.1 x hx)
/-- A number's form: a digit or a sign first, regular bytes all. -/
theorem print_form {k n : Int} (h : checkV k n true = 0) : ∃ c w, (printV k n true).1 = c :: w ∧ (∀ x ∈ c :: w, isRg x = true) ∧ (isDg c = true ∨ c = 43 ∨ c = 45 ∨ c = 46) := by
  have hp : (printV k n true).1 = signL n ++ absL k n.natAbs := by unfold printV; rw [if_pos h]
  obtain ⟨l, u, h1, h2, h3⟩ := absL_parts k n.natAbs
  have hr := absL_rg k n.natAbs
  rw [hp]
  unfold signL
  split
  · exact ⟨45, _, rfl, fun x hx => by
      rcases List.mem_cons.1 hx with rfl | hx
      · decide
      · exact hr x hx, .inr (.inr (.inl rfl))⟩
  · rw [h1] at hr ⊢
    cases l with
    | nil => simp at h3
    | cons c l =>
      refine ⟨c, l ++ u, rfl, fun x hx => hr x hx, .inl ?_⟩
      simp only [List.all_cons, Bool.and_eq_true] at h2
      exact h2.1
theorem tok_run {last : Bool} {c : UInt8} {w post : List UInt8} (hw : ∀ x ∈ c :: w, isRg x = true) (hp : StopsAt post) (hl : post = [] → last = true) :
    tokV last c (w ++ post) = if isDg c = true ∨ c = 43 ∨ c = 45 ∨ c = 46 then ((parseV (c :: w)).2.2, { kind := 1, vk := (parseV (c :: w)).1, vn := (parseV (c :: w)).2.1 }, post) else (0, { kind := 6, s := c :: w }, post) := by
  obtain ⟨r1, r2⟩ := run_stop hw hp
  have hc : isRg c = true := hw c (List.mem_cons_self)
  unfold tokV
  rw [if_pos hc]
  simp only
  rw [show c :: (w ++ post) = (c :: w) ++ post from rfl, r1, r2]
  rw [if_neg (by rintro ⟨h1, h2⟩; rw [hl h1] at h2; cases h2)]
theorem tok_num {last : Bool} {k n : Int} {c : UInt8} {w post : List UInt8} (h : checkV k n true = 0) (hf : (printV k n true).1 = c :: w) (hp : StopsAt post) (hl : post = [] → last = true) :
    tokV last c (w ++ post) = (0, { kind := 1, vk := k, vn := n }, post) := by
  obtain ⟨c', w', e, hr, hd⟩ := print_form h
  rw [hf] at e
  obtain ⟨rfl, rfl⟩ := List.cons.inj e
  rw [tok_run hr hp hl, if_pos hd, ← hf, parse_print k n true h]
theorem tok_name {last : Bool} {s post : List UInt8} (hs : ¬ (127 < s.length ∨ (0 : UInt8) ∈ s)) (hp : StopsAt post) (hl : post = [] → last = true) :
    tokV last 47 (nameF s ++ post) = (0, { kind := 1, vk := 5, vs := s }, post) := by
  obtain ⟨r1, r2⟩ := run_stop (nameF_rg s) hp
  unfold tokV
  rw [if_neg (by decide), if_neg (by decide), if_neg (by decide), if_neg (by decide), if_neg (by decide), if_neg (by decide), if_pos rfl]
  simp only
  rw [r1, r2, if_neg (by rintro ⟨h1, h2⟩; rw [hl h1] at h2; cases h2)]
  unfold nameV
  rw [nameGo_form]
  simp only [List.nil_append]
  rw [if_neg hs]
theorem hexF_head {s t : List UInt8} : ∃ d u, hexF s ++ 62 :: t = d :: u ∧ d ≠ 60 := by
  cases s with
  | nil => exact ⟨62, t, rfl, by decide⟩
  | cons c s =>
    obtain ⟨h1, -⟩ := hex_lt c
    have h0 : ∀ d : Fin 16, hexG d.1 ≠ 60 := by decide
    exact ⟨hexG (c.toNat / 16), _, rfl, h0 ⟨_, h1⟩⟩
theorem tok_text {last : Bool} {s post : List UInt8} : ∃ c w, textF s = c :: w ∧ isSp c = false ∧ c ≠ 37 ∧ isRg c = false ∧ tokV last c (w ++ post) = (0, { kind := 1, vk := 4, vs := s }, post) := by
  unfold textF
  split
  · rename_i h
    refine ⟨40, _, rfl, by decide, by decide, by decide, ?_⟩
    unfold tokV
    rw [if_neg (by decide), if_neg (by decide), if_neg (by decide), if_neg (by decide), if_neg (by decide), if_pos rfl]
    rw [List.append_assoc]
    show (match textV last 1 [] (bareF s ++ 41 :: post) with | none => _ | some (x, r) => _) = _
    rw [textV_form last s [] post h]
    rfl
  · refine ⟨60, _, rfl, by decide, by decide, by decide, ?_⟩
    unfold tokV
    rw [if_neg (by decide), if_neg (by decide), if_neg (by decide), if_pos rfl]
    rw [List.append_assoc]
    show (match hexF s ++ 62 :: post with | [] => _ | d :: u => _) = _
    obtain ⟨d, u, e, hd⟩ := hexF_head (s := s) (t := post)
    have hx := hexV_form s [] post
    rw [e] at hx ⊢
    simp only
    rw [if_neg hd, hx]
    rfl
/-- The token that stands behind other bytes, and a blank or none. -/
theorem next_at {pre t : List UInt8} {c : UInt8} {last : Bool} {x : Tk} {r : List UInt8} (sp : Bool) (hs : isSp c = false) (h37 : c ≠ 37) (ht : tokV last c t = (0, x, r)) :
    nextV (pre ++ (if sp then [32] else []) ++ c :: t) pre.length last = (x, ((pre.length + (if sp then 1 else 0) : Nat) : Int), ((pre ++ (if sp then [32] else []) ++ c :: t).length : Int) - r.length, 0) := by
  have hsk : skipV (pre ++ (if sp then [32] else []) ++ c :: t) pre.length = pre.length + (if sp then 1 else 0) := by
    unfold skipV
    rw [if_neg (by omega)]
    rw [if_neg (by simp; omega)]
    simp only [Int.toNat_natCast]
    rw [List.append_assoc, List.drop_left]
    cases sp with
    | true =>
      simp only [if_pos, List.cons_append, List.nil_append]
      rw [skipN, if_neg (by decide), if_pos (by decide), skipN, if_neg h37, if_neg (by rw [hs]; decide)]
    | false =>
      simp only [Bool.false_eq_true, if_false, List.nil_append]
      rw [skipN, if_neg h37, if_neg (by rw [hs]; decide)]
  rw [nextV_in last (by omega) (by simp; omega), hsk]
  have hd : (pre ++ (if sp then [32] else []) ++ c :: t).drop (pre.length + (if sp then 1 else 0)) = c :: t := by
    cases sp with
    | true => simp [List.drop_append]
    | false => simp
  rw [nextF_cons last hd, ht]
  simp only
  rw [if_pos trivial]
/-- The token that stands first, behind a blank or not, and what is behind it. -/
def Nx (post : List UInt8) (x : Tk) (r : List UInt8) : Prop := (post = [] ∧ x = { kind := 0 } ∧ r = []) ∨ ∃ (sp : Bool) (c : UInt8) (t : List UInt8), post = (if sp then [32] else []) ++ c :: t ∧ isSp c = false ∧ c ≠ 37 ∧ tokV true c t = (0, x, r)
theorem nx_next {post r : List UInt8} {x : Tk} (h : Nx post x r) (pre : List UInt8) : (nextV (pre ++ post) pre.length true).1 = x ∧ (nextV (pre ++ post) pre.length true).2.2.1 = ((pre ++ post).length : Int) - r.length ∧ (nextV (pre ++ post) pre.length true).2.2.2 = 0 := by
  rcases h with ⟨rfl, rfl, rfl⟩ | ⟨sp, c, t, rfl, h1, h2, h3⟩
  · rw [List.append_nil]
    have hs : skipV pre pre.length = pre.length := by unfold skipV; rw [if_neg (by omega), if_pos (Int.le_refl _)]
    rw [nextV_in true (by omega) (by omega), hs, nextF_nil true (by simp)]
    exact ⟨rfl, by simp, rfl⟩
  · have := next_at (pre := pre) (last := true) sp h1 h2 h3
    rw [← List.append_assoc, this]
    exact ⟨rfl, rfl, rfl⟩
/-- No word R stands here. -/
def NotR (x : Tk) : Prop := ¬ (x.kind = 6 ∧ x.s = [82])
/-- What may stand behind a value. -/
structure Good (post : List UInt8) : Prop where
  stop : StopsAt post
  nx : ∃ x r, Nx post x r ∧ NotR x ∧ (wholeV x = true → ∃ y q, Nx r y q ∧ NotR y)
theorem good_nil : Good [] := ⟨fun c t h => (by cases h), { kind := 0 }, [], .inl ⟨rfl, rfl, rfl⟩, by unfold NotR; decide, fun h => by cases h⟩
theorem good_close (p : List UInt8) : Good (93 :: p) := ⟨fun c t h => (by cases h; decide), { kind := 3 }, p, .inr ⟨false, 93, p, rfl, by decide, by decide, rfl⟩, by unfold NotR; decide, fun h => by cases h⟩
theorem good_close2 (p : List UInt8) : Good (62 :: 62 :: p) := ⟨fun c t h => (by cases h; decide), { kind := 5 }, p, .inr ⟨false, 62, 62 :: p, rfl, by decide, by decide, rfl⟩, by unfold NotR; decide, fun h => by cases h⟩
/-- The first token of a form. -/
def firstT : PV → Tk
  | .mk k n s _ =>
    if k = 0 then { kind := 6, s := [110, 117, 108, 108] }
    else if k = 1 then { kind := 6, s := if n = 0 then [102, 97, 108, 115, 101] else [116, 114, 117, 101] }
    else if k = 2 ∨ k = 3 then { kind := 1, vk := k, vn := n }
    else if k = 4 then { kind := 1, vk := 4, vs := s }
    else if k = 5 then { kind := 1, vk := 5, vs := s }
    else if k = 8 then { kind := 1, vk := 2, vn := n }
    else if k = 6 then { kind := 2 } else { kind := 4 }
/-- What stands behind the first token in a form. -/
def restT : PV → List UInt8
  | .mk k _ _ l => if k = 8 then [32, 48, 32, 82] else if k = 6 then rowF l ++ [93] else if k = 7 then rowF l ++ [62, 62] else []
theorem dg_sp {c : UInt8} (h : isRg c = true) : isSp c = false ∧ c ≠ 37 := by
  unfold isRg at h
  simp only [Bool.and_eq_true, Bool.not_eq_true'] at h
  refine ⟨h.1, ?_⟩
  rintro rfl
  exact absurd h.2 (by decide)
theorem check_two {n : Int} (h1 : 1 ≤ n) (h2 : n ≤ 4096) : checkV 2 n true = 0 := by
  unfold checkV
  rw [if_pos ⟨rfl, .inl ⟨rfl, by omega, by omega⟩⟩]
theorem word_tok {c : UInt8} {w post : List UInt8} (hw : ∀ x ∈ c :: w, isRg x = true) (hd : ¬ (isDg c = true ∨ c = 43 ∨ c = 45 ∨ c = 46)) (hp : StopsAt post) : tokV true c (w ++ post) = (0, { kind := 6, s := c :: w }, post) := by
  rw [tok_run hw hp (fun _ => rfl), if_neg hd]
theorem stop_sp (p : List UInt8) : StopsAt (32 :: p) := fun c t h => by cases h; decide
/-- A form begins with its first token. -/
theorem form_first {v : PV} (h : ownC v = 0) (post : List UInt8) (hp : StopsAt post) : ∃ c t, formV v ++ post = c :: t ∧ isSp c = false ∧ c ≠ 37 ∧ tokV true c t = (0, firstT v, restT v ++ post) := by
  obtain ⟨k, n, s, l⟩ := v
  simp only [formV, firstT, restT]
  simp only [ownC] at h
  by_cases k0 : k = 0
  · subst k0
    exact ⟨110, [117, 108, 108] ++ post, rfl, by decide, by decide, word_tok (c := 110) (w := [117, 108, 108]) (by decide) (by decide) hp⟩
  · simp only [if_neg k0] at h ⊢
    by_cases k1 : k = 1
    · subst k1
      simp only [if_pos] at h ⊢
      by_cases n0 : n = 0
      · simp only [if_pos n0]
        exact ⟨102, [97, 108, 115, 101] ++ post, rfl, by decide, by decide, word_tok (c := 102) (w := [97, 108, 115, 101]) (by decide) (by decide) hp⟩
      · simp only [if_neg n0]
        exact ⟨116, [114, 117, 101] ++ post, rfl, by decide, by decide, word_tok (c := 116) (w := [114, 117, 101]) (by decide) (by decide) hp⟩
    · simp only [if_neg k1] at h ⊢
      by_cases k23 : k = 2 ∨ k = 3
      · simp only [if_pos k23] at h ⊢
        have hc : checkV k n true = 0 := by
          split at h
          · exact h
          · cases h
        obtain ⟨c, w, e, hr, -⟩ := print_form hc
        obtain ⟨d1, d2⟩ := dg_sp (hr c (List.mem_cons_self))
        refine ⟨c, w ++ post, by rw [e]; rfl, d1, d2, ?_⟩
        rw [if_neg (by omega), if_neg (by omega), if_neg (by omega)]
        exact tok_num hc e hp (fun _ => rfl)
      · simp only [if_neg k23] at h ⊢
        by_cases k4 : k = 4
        · subst k4
          obtain ⟨c, w, e, d1, d2, -, ht⟩ := tok_text (last := true) (s := s) (post := post)
          exact ⟨c, w ++ post, by simp only [if_pos]; rw [e]; rfl, d1, d2, ht⟩
        · simp only [if_neg k4] at h ⊢
          by_cases k5 : k = 5
          · subst k5
            simp only [if_pos] at h ⊢
            have hs : ¬ (127 < s.length ∨ (0 : UInt8) ∈ s) := by
              intro hn
              rw [if_pos hn] at h
              cases h
            exact ⟨47, _, rfl, by decide, by decide, tok_name hs hp (fun _ => rfl)⟩
          · simp only [if_neg k5] at h ⊢
            by_cases k6 : k = 6
            · subst k6
              exact ⟨91, (rowF l ++ [93]) ++ post, rfl, by decide, by decide, rfl⟩
            · simp only [if_neg k6] at h ⊢
              by_cases k7 : k = 7
              · subst k7
                exact ⟨60, 60 :: (rowF l ++ [62, 62]) ++ post, rfl, by decide, by decide, rfl⟩
              · simp only [if_neg k7] at h ⊢
                by_cases k8 : k = 8
                · subst k8
                  simp only [if_pos] at h ⊢
                  have hn : 1 ≤ n ∧ n ≤ 4096 := by
                    split at h
                    · rename_i hq; exact ⟨hq.1, hq.2.1⟩
                    · cases h
                  have hc := check_two hn.1 hn.2
                  obtain ⟨c, w, e, hr, -⟩ := print_form hc
                  obtain ⟨d1, d2⟩ := dg_sp (hr c (List.mem_cons_self))
                  refine ⟨c, w ++ ([32, 48, 32, 82] ++ post), by rw [e]; simp, d1, d2, ?_⟩
                  exact tok_num hc e (stop_sp _) (fun h => by cases h)
                · simp only [if_neg k8] at h
                  cases h
theorem first_notR {v : PV} : NotR (firstT v) := by
  obtain ⟨k, n, s, l⟩ := v
  unfold NotR
  simp only [firstT]
  split
  · decide
  · split
    · split <;> decide
    · split
      · rintro ⟨h, -⟩; cases h
      · split
        · rintro ⟨h, -⟩; cases h
        · split
          · rintro ⟨h, -⟩; cases h
          · split
            · rintro ⟨h, -⟩; cases h
            · split <;> (rintro ⟨h, -⟩; cases h)
theorem first_suffix (v : PV) (post : List UInt8) : ∃ u, formV v ++ post = u ++ (restT v ++ post) := by
  obtain ⟨k, n, s, l⟩ := v
  simp only [restT]
  by_cases k8 : k = 8
  · subst k8
    exact ⟨(printV 2 n true).1, by simp [formV]⟩
  · by_cases k6 : k = 6
    · subst k6
      exact ⟨[91], by simp [formV]⟩
    · by_cases k7 : k = 7
      · subst k7
        exact ⟨[60, 60], by simp [formV]⟩
      · rw [if_neg k8, if_neg k6, if_neg k7]
        exact ⟨_, rfl⟩
/-- The first token, where what is behind it stands at the end. -/
def Nx2 (post : List UInt8) (x : Tk) (r : List UInt8) : Prop := Nx post x r ∧ ∃ u, post = u ++ r
structure Good2 (post : List UInt8) : Prop where
  stop : StopsAt post
  nx : ∃ x r, Nx2 post x r ∧ NotR x ∧ (wholeV x = true → ∃ y q, Nx2 r y q ∧ NotR y)
theorem good2_nil : Good2 [] := ⟨good_nil.stop, { kind := 0 }, [], ⟨.inl ⟨rfl, rfl, rfl⟩, [], rfl⟩, by unfold NotR; decide, fun h => by cases h⟩
theorem good2_close (p : List UInt8) : Good2 (93 :: p) := ⟨(good_close p).stop, { kind := 3 }, p, ⟨.inr ⟨false, 93, p, rfl, by decide, by decide, rfl⟩, [93], rfl⟩, by unfold NotR; decide, fun h => by cases h⟩
theorem good2_close2 (p : List UInt8) : Good2 (62 :: 62 :: p) := ⟨(good_close2 p).stop, { kind := 5 }, p, ⟨.inr ⟨false, 62, 62 :: p, rfl, by decide, by decide, rfl⟩, [62, 62], rfl⟩, by unfold NotR; decide, fun h => by cases h⟩
theorem print_zero : (printV 2 0 true).1 = [48] := by
  have h : checkV 2 0 true = 0 := by decide
  unfold printV
  rw [if_pos h]
  simp only [signL, absL]
  rw [if_neg (by decide), if_pos (by trivial)]
  show [] ++ decL 0 = [48]
  rw [decL_small (by decide)]
  rfl
theorem tok_zero (p : List UInt8) : tokV true 48 (32 :: p) = (0, { kind := 1, vk := 2, vn := 0 }, 32 :: p) :=
  tok_num (k := 2) (n := 0) (w := []) (by decide) print_zero (stop_sp p) (fun h => by cases h)
theorem nx_form {v : PV} (h : ownC v = 0) {post : List UInt8} (hp : StopsAt post) (sp : Bool) : Nx2 ((if sp then [32] else []) ++ (formV v ++ post)) (firstT v) (restT v ++ post) := by
  obtain ⟨c, t, e, h1, h2, h3⟩ := form_first h post hp
  obtain ⟨u, hu⟩ := first_suffix v post
  exact ⟨.inr ⟨sp, c, t, by rw [e], h1, h2, h3⟩, (if sp then [32] else []) ++ u, by rw [hu, List.append_assoc]⟩
theorem own_of_first {v : PV} (h : firstC v = 0) : ownC v = 0 := by
  obtain ⟨k, n, s, l⟩ := v
  simp only [firstC] at h
  split at h
  · rename_i hn; exact absurd h hn
  · rename_i hn; simpa using hn
theorem whole_first {v : PV} (h : wholeV (firstT v) = true) : restT v = [] ∨ restT v = [32, 48, 32, 82] := by
  obtain ⟨k, n, s, l⟩ := v
  simp only [firstT, restT] at h ⊢
  by_cases k8 : k = 8
  · exact .inr (if_pos k8)
  · rw [if_neg k8]
    left
    by_cases k6 : k = 6
    · subst k6; exact absurd h (by simp [wholeV])
    · by_cases k7 : k = 7
      · subst k7; exact absurd h (by simp [wholeV])
      · rw [if_neg k6, if_neg k7]
theorem good_form {v : PV} (h : ownC v = 0) {post : List UInt8} (hg : Good2 post) (sp : Bool) (hs : StopsAt ((if sp then [32] else []) ++ (formV v ++ post))) : Good2 ((if sp then [32] else []) ++ (formV v ++ post)) := by
  refine ⟨hs, firstT v, restT v ++ post, nx_form h hg.stop sp, first_notR, fun hw => ?_⟩
  rcases whole_first hw with e | e
  · rw [e]
    obtain ⟨x, r, h1, h2, -⟩ := hg.nx
    exact ⟨x, r, h1, h2⟩
  · rw [e]
    refine ⟨{ kind := 1, vk := 2, vn := 0 }, 32 :: 82 :: post, ⟨.inr ⟨true, 48, 32 :: 82 :: post, rfl, by decide, by decide, tok_zero _⟩, [32, 48], rfl⟩, by unfold NotR; decide⟩
theorem good_more {close : List UInt8} (hc : Good2 close) : ∀ l : List PV, (∀ x ∈ l, ownC x = 0) → Good2 (moreF l ++ close)
  | [], _ => hc
  | x :: l, h => by
    have ih := good_more hc l fun y hy => h y (List.mem_cons_of_mem _ hy)
    have := good_form (h x (List.mem_cons_self)) ih true (by simp only [if_pos, List.cons_append, List.nil_append]; exact stop_sp _)
    simpa [moreF] using this
/-- Behind an int that is no reference's. -/
theorem refD_no {post : List UInt8} (hg : Good2 post) (pre : List UInt8) (n : Int) : refD (pre ++ post) true pre.length n = (false, 0, 0) := by
  obtain ⟨x, r, ⟨h1, u, hu⟩, h2, h3⟩ := hg.nx
  obtain ⟨a1, a2, a3⟩ := nx_next h1 pre
  unfold refD
  simp only
  rw [a3, if_neg (by decide), a1]
  cases hw : wholeV x with
  | false => rw [if_pos (.inr rfl)]
  | true =>
    rw [if_neg (by simp)]
    obtain ⟨y, q, ⟨g1, -⟩, g2⟩ := h3 hw
    have hl : ((pre ++ post).length : Int) - r.length = ((pre ++ u).length : Int) := by rw [hu]; simp; omega
    have hb : pre ++ post = (pre ++ u) ++ r := by rw [hu, List.append_assoc]
    rw [a2, hl, hb]
    obtain ⟨b1, b2, b3⟩ := nx_next g1 (pre ++ u)
    rw [b3, if_neg (by decide), b1]
    rw [if_pos]
    right
    exact Decidable.byContradiction fun hn => g2 (by
      refine ⟨Decidable.byContradiction fun h => hn (.inl h), Decidable.byContradiction fun h => hn (.inr h)⟩)
/-- A reference's own bytes. -/
theorem refD_yes {post : List UInt8} (hp : StopsAt post) (pre : List UInt8) {n : Int} (h1 : 1 ≤ n) (h2 : n ≤ 4096) : refD (pre ++ ([32, 48, 32, 82] ++ post)) true pre.length n = (true, ((pre ++ ([32, 48, 32, 82] ++ post)).length : Int) - post.length, 0) := by
  have n1 : Nx ([32, 48, 32, 82] ++ post) { kind := 1, vk := 2, vn := 0 } (32 :: 82 :: post) := .inr ⟨true, 48, 32 :: 82 :: post, rfl, by decide, by decide, tok_zero _⟩
  have n2 : Nx (32 :: 82 :: post) { kind := 6, s := [82] } post := .inr ⟨true, 82, post, rfl, by decide, by decide, word_tok (c := 82) (w := []) (by decide) (by decide) hp⟩
  obtain ⟨a1, a2, a3⟩ := nx_next n1 pre
  have hl : ((pre ++ ([32, 48, 32, 82] ++ post)).length : Int) - (32 :: 82 :: post).length = ((pre ++ [32, 48]).length : Int) := by simp; omega
  have hb : pre ++ ([32, 48, 32, 82] ++ post) = (pre ++ [32, 48]) ++ (32 :: 82 :: post) := by simp
  unfold refD
  simp only
  rw [a3, if_neg (by decide), a1, if_neg (by decide), a2, hl]
  obtain ⟨b1, b2, b3⟩ := nx_next n2 (pre ++ [32, 48])
  rw [← hb] at b1 b2 b3
  rw [b3, if_neg (by decide), b1, if_neg (by decide), b2, if_neg (by simp; omega)]
theorem depth_pos (v : PV) : 1 ≤ depthV v := by
  obtain ⟨k, n, s, l⟩ := v
  simp only [depthV]
  split <;> omega
theorem first_kind (v : PV) : (firstT v).kind ≠ 3 ∧ (firstT v).kind ≠ 5 ∧ (firstT v).kind ≠ 0 := by
  obtain ⟨k, n, s, l⟩ := v
  simp only [firstT]
  refine ⟨?_, ?_, ?_⟩ <;> (split; · decide
                           · split
                             · show (6 : Int) ≠ _; decide
                             · split
                               · show (1 : Int) ≠ _; decide
                               · split
                                 · show (1 : Int) ≠ _; decide
                                 · split
                                   · show (1 : Int) ≠ _; decide
                                   · split
                                     · show (1 : Int) ≠ _; decide
                                     · split
                                       · show (2 : Int) ≠ _; decide
                                       · show (4 : Int) ≠ _; decide)
/-- What a value's form comes back to, within others. -/
def BackAt (d : Nat) : Prop := ∀ v, firstC v = 0 → depthV v ≤ d → ∀ pre post, Good2 post →
  vlD (pre ++ (formV v ++ post)) true d (firstT v) (((pre ++ (formV v ++ post)).length : Int) - (restT v ++ post).length) = (v, ((pre ++ (formV v ++ post)).length : Int) - post.length, 0)
/-- Values with a blank ahead, or none ahead of the first. -/
def rowS (sp : Bool) : List PV → List UInt8
  | [] => []
  | x :: l => (if sp then [32] else []) ++ (formV x ++ moreF l)
theorem rowS_row (l : List PV) : rowS false l = rowF l := by cases l <;> simp [rowS, rowF]
theorem rowS_more (l : List PV) : rowS true l = moreF l := by cases l <;> simp [rowS, moreF]
theorem arr_back {d : Nat} (hb : BackAt d) (bs post : List UInt8) : ∀ (l2 l1 : List PV) (sp : Bool) (pre : List UInt8) (r : Nat), (∀ x ∈ l2, firstC x = 0 ∧ depthV x ≤ d) → l2.length < r → bs = pre ++ (rowS sp l2 ++ (93 :: post)) →
    arrD bs true (vlD bs true d) r l1 pre.length = (.mk 6 0 [] (l1 ++ l2), (bs.length : Int) - post.length, 0)
  | _, _, _, _, 0, _, h, _ => by omega
  | [], l1, sp, pre, r + 1, _, _, he => by
    have hn : Nx (93 :: post) { kind := 3 } post := .inr ⟨false, 93, post, rfl, by decide, by decide, rfl⟩
    obtain ⟨a1, a2, a3⟩ := nx_next hn pre
    have hbs : bs = pre ++ 93 :: post := he
    rw [← hbs] at a1 a2 a3
    simp only [arrD]
    rw [a3, if_neg (by decide), a1, if_pos rfl, a2, List.append_nil]
  | x :: l, l1, sp, pre, r + 1, h, hr, he => by
    obtain ⟨x1, x2⟩ := h x (List.mem_cons_self)
    have hown : ∀ y ∈ l, ownC y = 0 := fun y hy => own_of_first (h y (List.mem_cons_of_mem _ hy)).1
    have hg : Good2 (moreF l ++ 93 :: post) := good_more (good2_close post) l hown
    have hn := nx_form (own_of_first x1) hg.stop sp
    have hbs : bs = pre ++ ((if sp then [32] else []) ++ (formV x ++ (moreF l ++ 93 :: post))) := by rw [he]; simp [rowS]
    obtain ⟨a1, a2, a3⟩ := nx_next hn.1 pre
    rw [← hbs] at a1 a2 a3
    have hbs2 : bs = (pre ++ (if sp then [32] else [])) ++ (formV x ++ (moreF l ++ 93 :: post)) := by rw [hbs]; simp
    have hv := hb x x1 x2 (pre ++ (if sp then [32] else [])) (moreF l ++ 93 :: post) hg
    rw [← hbs2] at hv
    simp only [arrD]
    rw [a3, if_neg (by decide), a1, if_neg (first_kind x).1, a2, hv]
    simp only
    rw [if_neg (by decide)]
    have hk : (bs.length : Int) - (moreF l ++ 93 :: post).length = ((pre ++ (if sp then [32] else []) ++ formV x).length : Int) := by rw [hbs2]; simp; omega
    rw [hk]
    have ih := arr_back hb bs post l (l1 ++ [x]) true (pre ++ (if sp then [32] else []) ++ formV x) r (fun y hy => h y (List.mem_cons_of_mem _ hy)) (by simp at hr; omega) (by rw [rowS_more, hbs2]; simp)
    rw [ih]
    simp
theorem insK_end {x : PV × PV} : ∀ l, (∀ y ∈ l, sLt y.1.s x.1.s = true) → insK x l = l ++ [x]
  | [], _ => rfl
  | y :: l, h => by
    simp only [insK]
    rw [if_neg (by rw [sLt_as _ _ (h y (List.mem_cons_self))]; decide), insK_end l fun z hz => h z (List.mem_cons_of_mem _ hz)]
    rfl
theorem hasK_end {s : List UInt8} {l : List (PV × PV)} (h : ∀ y ∈ l, sLt y.1.s s = true) : hasK s l = false :=
  hasK_no.2 fun y hy e => by have := h y hy; rw [e, sLt_ir] at this; cases this
theorem dict_back {d : Nat} (hd : d ≠ 0) (hb : BackAt d) (bs post : List UInt8) : ∀ (p : List (PV × PV)) (ps : List (PV × PV)) (sp : Bool) (pre : List UInt8) (r : Nat),
    (∀ q ∈ p, firstC q.1 = 0 ∧ q.1.kind = 5 ∧ firstC q.2 = 0 ∧ depthV q.2 ≤ d) → ascP (ps ++ p) → p.length < r → bs = pre ++ (rowS sp (flatV p) ++ (62 :: 62 :: post)) →
    dictD bs true (vlD bs true d) d r ps false pre.length = (.mk 7 0 [] (flatV (ps ++ p)), (bs.length : Int) - post.length, 0)
  | _, _, _, _, 0, _, _, h, _ => by omega
  | [], ps, sp, pre, r + 1, _, _, _, he => by
    have hn : Nx (62 :: 62 :: post) { kind := 5 } post := .inr ⟨false, 62, 62 :: post, rfl, by decide, by decide, rfl⟩
    obtain ⟨a1, a2, a3⟩ := nx_next hn pre
    have hbs : bs = pre ++ 62 :: 62 :: post := he
    rw [← hbs] at a1 a2 a3
    simp only [dictD]
    rw [a3, if_neg (by decide), a1, if_pos rfl, if_neg (by decide), a2, List.append_nil]
  | (a, x) :: p, ps, sp, pre, r + 1, h, hasc, hr, he => by
    obtain ⟨n1, n2, x1, x2⟩ := h (a, x) (List.mem_cons_self)
    have hflat : ∀ y ∈ flatV p, ownC y = 0 := fun y hy => by
      obtain ⟨q, hq, e⟩ := (flat_mem p).1 hy
      obtain ⟨g1, -, g3, -⟩ := h q (List.mem_cons_of_mem _ hq)
      rcases e with rfl | rfl
      · exact own_of_first g1
      · exact own_of_first g3
    have hg : Good2 (moreF (flatV p) ++ 62 :: 62 :: post) := good_more (good2_close2 post) _ hflat
    have hgx : Good2 ((if true then [32] else []) ++ (formV x ++ (moreF (flatV p) ++ 62 :: 62 :: post))) := good_form (own_of_first x1) hg true (by simp only [if_pos, List.cons_append, List.nil_append]; exact stop_sp _)
    have hna := nx_form (own_of_first n1) hgx.stop sp
    have hbs : bs = pre ++ ((if sp then [32] else []) ++ (formV a ++ ((if true then [32] else []) ++ (formV x ++ (moreF (flatV p) ++ 62 :: 62 :: post))))) := by rw [he]; simp [rowS, flatV, moreF]
    obtain ⟨a1, a2, a3⟩ := nx_next hna.1 pre
    rw [← hbs] at a1 a2 a3
    obtain ⟨ka, na, sa, la⟩ := a
    simp only [PV.kind] at n2
    subst n2
    have hao : na = 0 ∧ la = [] := by
      have := own_of_first n1
      simp only [ownC] at this
      rw [if_neg (by decide), if_neg (by decide), if_neg (by decide), if_neg (by decide), if_pos (by trivial)] at this
      split at this
      · cases this
      · split at this
        · rename_i hq; exact hq
        · cases this
    obtain ⟨rfl, rfl⟩ := hao
    have hft : firstT (.mk 5 0 sa []) = { kind := 1, vk := 5, vs := sa } := by
      simp only [firstT]
      rw [if_neg (by decide), if_neg (by decide), if_neg (by decide), if_neg (by decide), if_pos (by trivial)]
    have hrt : restT (.mk 5 0 sa []) = [] := by
      simp only [restT]
      rw [if_neg (by decide), if_neg (by decide), if_neg (by decide)]
    rw [hft] at a1
    rw [hrt, List.nil_append] at a2
    have hnx := nx_form (own_of_first x1) hg.stop true
    have hb2 : bs = (pre ++ (if sp then [32] else []) ++ formV (.mk 5 0 sa [])) ++ ((if true then [32] else []) ++ (formV x ++ (moreF (flatV p) ++ 62 :: 62 :: post))) := by rw [hbs]; simp
    have hk1 : (bs.length : Int) - ((if true then [32] else []) ++ (formV x ++ (moreF (flatV p) ++ 62 :: 62 :: post))).length = ((pre ++ (if sp then [32] else []) ++ formV (.mk 5 0 sa [])).length : Int) := by rw [hb2]; simp; omega
    obtain ⟨b1, b2, b3⟩ := nx_next hnx.1 (pre ++ (if sp then [32] else []) ++ formV (.mk 5 0 sa []))
    rw [← hb2] at b1 b2 b3
    have hb3 : bs = (pre ++ (if sp then [32] else []) ++ formV (.mk 5 0 sa []) ++ [32]) ++ (formV x ++ (moreF (flatV p) ++ 62 :: 62 :: post)) := by rw [hb2]; simp
    have hv := hb x x1 x2 (pre ++ (if sp then [32] else []) ++ formV (.mk 5 0 sa []) ++ [32]) _ hg
    rw [← hb3] at hv
    have hlt : ∀ y ∈ ps, sLt y.1.s sa = true := fun y hy => by
      have : ∀ (l m : List (PV × PV)) (z : PV × PV), ascP (l ++ z :: m) → ∀ y ∈ l, sLt y.1.s z.1.s = true := by
        intro l
        induction l with
        | nil => intro m z _ y hy; cases hy
        | cons w l ih =>
          intro m z hz y hy
          rcases List.mem_cons.1 hy with rfl | hy
          · exact hz.1 z (List.mem_append_right _ (List.mem_cons_self))
          · exact ih m z hz.2 y hy
      exact this ps p _ hasc y hy
    have hput : putK (.mk 5 0 sa [], x) ps = ps ++ [(.mk 5 0 sa [], x)] := by
      unfold putK
      rw [show hasK (PV.mk 5 0 sa [], x).1.s ps = false from hasK_end hlt, if_neg (by decide)]
      exact insK_end ps hlt
    simp only [dictD]
    rw [a3, if_neg (by decide), a1, if_neg (by simp), if_neg (by simp), if_neg (by simp), if_neg hd, a2, hk1, b3, if_neg (by decide), b1, b2, hv]
    simp only
    rw [if_neg (by decide), hput, hasK_end hlt]
    have hk2 : (bs.length : Int) - (moreF (flatV p) ++ 62 :: 62 :: post).length = ((pre ++ (if sp then [32] else []) ++ formV (.mk 5 0 sa []) ++ [32] ++ formV x).length : Int) := by rw [hb3]; simp; omega
    rw [hk2]
    have ih := dict_back hd hb bs post p (ps ++ [(.mk 5 0 sa [], x)]) true (pre ++ (if sp then [32] else []) ++ formV (.mk 5 0 sa []) ++ [32] ++ formV x) r (fun q hq => h q (List.mem_cons_of_mem _ hq)) (by simpa using hasc) (by simp at hr; omega) (by rw [rowS_more, hb3]; simp)
    simp only [Bool.false_or]
    rw [ih]
    simp
theorem first_all {l : List PV} : firstL l = 0 → ∀ x ∈ l, firstC x = 0 := by
  induction l with
  | nil => intro _ x hx; cases hx
  | cons y l ih =>
    intro h x hx
    simp only [firstL] at h
    split at h
    · rename_i hn; exact absurd h hn
    · rename_i hn
      rcases List.mem_cons.1 hx with rfl | hx
      · simpa using hn
      · exact ih h x hx
theorem depth_all {l : List PV} {n : Nat} : depthL l ≤ n → ∀ x ∈ l, depthV x ≤ n := by
  induction l with
  | nil => intro _ x hx; cases hx
  | cons y l ih =>
    intro h x hx
    simp only [depthL] at h
    rcases List.mem_cons.1 hx with rfl | hx
    · omega
    · exact ih (by omega) x hx
theorem asc_back : ∀ l : List (PV × PV), ascV l = true → ascP l
  | [], _ => trivial
  | [x], _ => ⟨fun y hy => (by cases hy), trivial⟩
  | x :: y :: l, h => by
    simp only [ascV, Bool.and_eq_true] at h
    have hr := asc_back (y :: l) h.2
    refine ⟨fun z hz => ?_, hr⟩
    rcases List.mem_cons.1 hz with rfl | hz
    · exact h.1
    · exact sLt_tr _ _ _ h.1 (hr.1 z hz)
theorem more_len : ∀ l : List PV, l.length ≤ (moreF l).length
  | [] => Nat.le_refl _
  | x :: l => by have := more_len l; simp [moreF]; omega
theorem form_pos {v : PV} (h : ownC v = 0) : 1 ≤ (formV v).length := by
  obtain ⟨c, t, e, -⟩ := form_first h [] (fun c t h => by cases h)
  rw [List.append_nil] at e
  rw [e]
  simp
theorem row_len {l : List PV} (h : ∀ x ∈ l, ownC x = 0) : l.length ≤ (rowF l).length := by
  cases l with
  | nil => exact Nat.le_refl _
  | cons x l =>
    have := more_len l
    have := form_pos (h x (List.mem_cons_self))
    simp [rowF]; omega
theorem back_all : ∀ d, BackAt d
  | 0 => fun v _ hd => by have := depth_pos v; omega
  | d + 1 => fun v hf hdp pre post hg => by
    have hown := own_of_first hf
    obtain ⟨k, n, s, l⟩ := v
    by_cases k6 : k = 6
    · subst k6
      have ho := hown
      simp only [ownC] at ho
      rw [if_neg (by decide), if_neg (by decide), if_neg (by decide), if_neg (by decide), if_neg (by decide), if_pos (by trivial)] at ho
      have hns : n = 0 ∧ s = [] := by
        split at ho
        · rename_i h; exact h
        · cases ho
      obtain ⟨rfl, rfl⟩ := hns
      simp only [firstC] at hf
      rw [if_neg (by simp [hown]), if_pos (by simp)] at hf
      simp only [depthV] at hdp
      rw [if_pos (by simp)] at hdp
      have hx : ∀ x ∈ l, firstC x = 0 ∧ depthV x ≤ d := fun x hx => ⟨first_all hf x hx, depth_all (by omega) x hx⟩
      have hft : firstT (.mk 6 0 [] l) = { kind := 2 } := by simp [firstT]
      have hrt : restT (.mk 6 0 [] l) = rowF l ++ [93] := by simp [restT]
      have hb : pre ++ (formV (.mk 6 0 [] l) ++ post) = (pre ++ [91]) ++ (rowS false l ++ (93 :: post)) := by rw [rowS_row]; simp [formV]
      have hk : ((pre ++ (formV (.mk 6 0 [] l) ++ post)).length : Int) - (restT (.mk 6 0 [] l) ++ post).length = ((pre ++ [91]).length : Int) := by rw [hb, hrt, rowS_row]; simp; omega
      rw [hk, hft]
      have hl := row_len (l := l) fun x hx2 => own_of_first (hx x hx2).1
      have ha := arr_back (back_all d) (pre ++ (formV (.mk 6 0 [] l) ++ post)) post l [] false (pre ++ [91]) ((pre ++ (formV (.mk 6 0 [] l) ++ post)).length + 1) hx (by rw [hb, rowS_row]; simp; omega) hb
      simp only [vlD]
      rw [if_neg (by decide), if_pos (by trivial), ha]
      rfl
    · by_cases k7 : k = 7
      · subst k7
        have ho := hown
        simp only [ownC] at ho
        rw [if_neg (by decide), if_neg (by decide), if_neg (by decide), if_neg (by decide), if_neg (by decide), if_neg (by decide), if_pos (by trivial)] at ho
        have hns : n = 0 ∧ s = [] ∧ l.length % 2 = 0 ∧ evenN l = true ∧ ascV (twoV l) = true := by
          split at ho
          · cases ho
          · rename_i h1
            split at ho
            · cases ho
            · rename_i h2
              split at ho
              · rename_i h3
                exact ⟨Decidable.byContradiction fun h => h1 (.inl h), Decidable.byContradiction fun h => h1 (.inr (.inl h)), Decidable.byContradiction fun h => h1 (.inr (.inr h)), by simpa using h2, h3⟩
              · cases ho
        obtain ⟨rfl, rfl, hev, hnm, hasc⟩ := hns
        simp only [firstC] at hf
        rw [if_neg (by simp [hown]), if_pos (by simp)] at hf
        simp only [depthV] at hdp
        rw [if_pos (by simp)] at hdp
        have hfl := two_flat l hev
        have hnm2 := evenN_flat (twoV l)
        rw [hfl, hnm] at hnm2
        have hx : ∀ q ∈ twoV l, firstC q.1 = 0 ∧ q.1.kind = 5 ∧ firstC q.2 = 0 ∧ depthV q.2 ≤ d := fun q hq => by
          have m1 : q.1 ∈ l := by rw [← hfl]; exact (flat_mem _).2 ⟨q, hq, .inl rfl⟩
          have m2 : q.2 ∈ l := by rw [← hfl]; exact (flat_mem _).2 ⟨q, hq, .inr rfl⟩
          have m3 := List.all_eq_true.1 hnm2.symm q hq
          exact ⟨first_all hf _ m1, by simpa using m3, first_all hf _ m2, depth_all (by omega) _ m2⟩
        have hft : firstT (.mk 7 0 [] l) = { kind := 4 } := by simp [firstT]
        have hrt : restT (.mk 7 0 [] l) = rowF l ++ [62, 62] := by simp [restT]
        have hb : pre ++ (formV (.mk 7 0 [] l) ++ post) = (pre ++ [60, 60]) ++ (rowS false (flatV (twoV l)) ++ (62 :: 62 :: post)) := by rw [hfl, rowS_row]; simp [formV]
        have hk : ((pre ++ (formV (.mk 7 0 [] l) ++ post)).length : Int) - (restT (.mk 7 0 [] l) ++ post).length = ((pre ++ [60, 60]).length : Int) := by rw [hb, hrt, hfl, rowS_row]; simp; omega
        rw [hk, hft]
        have hl := row_len (l := l) fun x hx2 => own_of_first (first_all hf x hx2)
        have h2 : (twoV l).length ≤ l.length := by
          have : (flatV (twoV l)).length = 2 * (twoV l).length := by
            generalize twoV l = p
            induction p with
            | nil => rfl
            | cons q p ih => obtain ⟨a, b⟩ := q; simp [flatV, ih]; omega
          rw [hfl] at this
          omega
        by_cases hd0 : d = 0
        · subst hd0
          cases l with
          | nil =>
            simp only [vlD]
            rw [if_neg (by decide), if_neg (by decide), if_pos (by trivial)]
            have hn : Nx (62 :: 62 :: post) { kind := 5 } post := .inr ⟨false, 62, 62 :: post, rfl, by decide, by decide, rfl⟩
            obtain ⟨a1, a2, a3⟩ := nx_next hn (pre ++ [60, 60])
            have hb3 : pre ++ (formV (.mk 7 0 [] []) ++ post) = (pre ++ [60, 60]) ++ 62 :: 62 :: post := hb
            rw [← hb3] at a1 a2 a3
            simp only [dictD]
            rw [a3, if_neg (by decide), a1, if_pos rfl, if_neg (by decide), a2]
            rfl
          | cons x l =>
            have := depth_pos x
            simp only [depthL] at hdp
            omega
        · have ha := dict_back hd0 (back_all d) (pre ++ (formV (.mk 7 0 [] l) ++ post)) post (twoV l) [] false (pre ++ [60, 60]) ((pre ++ (formV (.mk 7 0 [] l) ++ post)).length + 1) hx (asc_back _ hasc) (by rw [hb, hfl, rowS_row]; simp; omega) hb
          simp only [vlD]
          rw [if_neg (by decide), if_neg (by decide), if_pos (by trivial), ha, List.nil_append, hfl]
      · have hvl : ∀ t : Tk, t.kind = 6 ∨ t.kind = 1 → ∀ tb : Int, vlD (pre ++ (formV (.mk k n s l) ++ post)) true (d + 1) t tb = singD (pre ++ (formV (.mk k n s l) ++ post)) true t tb := fun t ht tb => by
          simp only [vlD]
          rw [if_neg (by omega), if_neg (by omega), if_neg (by omega), if_neg (by omega)]
        have hb : pre ++ (formV (.mk k n s l) ++ post) = (pre ++ formV (.mk k n s l)) ++ post := by rw [List.append_assoc]
        have ho := hown
        simp only [ownC] at ho
        by_cases k8 : k = 8
        · subst k8
          rw [if_neg (by decide), if_neg (by decide), if_neg (by decide), if_neg (by decide), if_neg (by decide), if_neg (by decide), if_neg (by decide), if_pos (by trivial)] at ho
          have hq : 1 ≤ n ∧ n ≤ 4096 ∧ s = [] ∧ l = [] := by
            split at ho
            · rename_i h; exact h
            · cases ho
          obtain ⟨n1, n2, rfl, rfl⟩ := hq
          have hft : firstT (.mk 8 n [] []) = { kind := 1, vk := 2, vn := n } := by simp [firstT]
          have hrt : restT (.mk 8 n [] []) = [32, 48, 32, 82] := by simp [restT]
          have hf8 : formV (.mk 8 n [] []) = (printV 2 n true).1 ++ [32, 48, 32, 82] := by simp [formV]
          rw [hft, hvl _ (.inr rfl), hrt, hf8]
          have hb2 : pre ++ ((printV 2 n true).1 ++ [32, 48, 32, 82] ++ post) = (pre ++ (printV 2 n true).1) ++ ([32, 48, 32, 82] ++ post) := by simp
          have hk : ((pre ++ ((printV 2 n true).1 ++ [32, 48, 32, 82] ++ post)).length : Int) - ([32, 48, 32, 82] ++ post).length = ((pre ++ (printV 2 n true).1).length : Int) := by rw [hb2]; simp; omega
          have hr := refD_yes hg.stop (pre ++ (printV 2 n true).1) n1 n2
          rw [← hb2] at hr
          rw [hk]
          unfold singD
          rw [if_neg (by simp), if_pos (by simp [wholeV])]
          simp only [hr]
          rw [if_neg (by decide), if_pos (by trivial)]
        · have hrt : restT (.mk k n s l) = [] := by
            simp only [restT]
            rw [if_neg k8, if_neg k6, if_neg k7]
          rw [hrt, List.nil_append]
          have hk : ((pre ++ (formV (.mk k n s l) ++ post)).length : Int) - post.length = ((pre ++ formV (.mk k n s l)).length : Int) := by rw [hb]; simp; omega
          by_cases k0 : k = 0
          · subst k0
            rw [if_pos (by trivial)] at ho
            have hq : n = 0 ∧ s = [] ∧ l = [] := by
              split at ho
              · rename_i h; exact h
              · cases ho
            obtain ⟨rfl, rfl, rfl⟩ := hq
            have hft : firstT (.mk 0 0 [] []) = { kind := 6, s := [110, 117, 108, 108] } := by simp [firstT]
            rw [hft, hvl _ (.inl rfl)]
            unfold singD
            rw [if_pos rfl]
            rfl
          · rw [if_neg k0] at ho
            by_cases k1 : k = 1
            · subst k1
              rw [if_pos (by trivial)] at ho
              have hq : (n = 0 ∨ n = 1) ∧ s = [] ∧ l = [] := by
                split at ho
                · rename_i h; exact h
                · cases ho
              obtain ⟨hn, rfl, rfl⟩ := hq
              rcases hn with rfl | rfl
              · have hft : firstT (.mk 1 0 [] []) = { kind := 6, s := [102, 97, 108, 115, 101] } := by simp [firstT]
                rw [hft, hvl _ (.inl rfl)]
                unfold singD
                rw [if_pos rfl]
                rfl
              · have hft : firstT (.mk 1 1 [] []) = { kind := 6, s := [116, 114, 117, 101] } := by simp [firstT]
                rw [hft, hvl _ (.inl rfl)]
                unfold singD
                rw [if_pos rfl]
                rfl
            · rw [if_neg k1] at ho
              by_cases k23 : k = 2 ∨ k = 3
              · rw [if_pos k23] at ho
                have hq : s = [] ∧ l = [] := by
                  split at ho
                  · rename_i h; exact h
                  · cases ho
                obtain ⟨rfl, rfl⟩ := hq
                have hft : firstT (.mk k n [] []) = { kind := 1, vk := k, vn := n } := by
                  simp only [firstT]
                  rw [if_neg k0, if_neg k1, if_pos k23]
                rw [hft, hvl _ (.inr rfl)]
                unfold singD
                rw [if_neg (by simp)]
                by_cases k2 : k = 2
                · subst k2
                  rw [if_pos (by simp [wholeV]), hk]
                  have hr := refD_no hg (pre ++ formV (.mk 2 n [] [])) n
                  rw [← hb] at hr
                  simp only [hr]
                  rw [if_neg (by decide), if_neg (by decide)]
                  rfl
                · rw [if_neg (by simp [wholeV]; omega)]
                  rfl
              · rw [if_neg k23] at ho
                by_cases k4 : k = 4
                · subst k4
                  rw [if_pos (by trivial)] at ho
                  have hq : n = 0 ∧ l = [] := by
                    split at ho
                    · rename_i h; exact h
                    · cases ho
                  obtain ⟨rfl, rfl⟩ := hq
                  have hft : firstT (.mk 4 0 s []) = { kind := 1, vk := 4, vs := s } := by simp [firstT]
                  rw [hft, hvl _ (.inr rfl)]
                  unfold singD
                  rw [if_neg (by simp), if_neg (by simp [wholeV])]
                  rfl
                · rw [if_neg k4] at ho
                  by_cases k5 : k = 5
                  · subst k5
                    rw [if_pos (by trivial)] at ho
                    have hq : n = 0 ∧ l = [] := by
                      split at ho
                      · cases ho
                      · split at ho
                        · rename_i h; exact h
                        · cases ho
                    obtain ⟨rfl, rfl⟩ := hq
                    have hft : firstT (.mk 5 0 s []) = { kind := 1, vk := 5, vs := s } := by simp [firstT]
                    rw [hft, hvl _ (.inr rfl)]
                    unfold singD
                    rw [if_neg (by simp), if_neg (by simp [wholeV])]
                    rfl
                  · rw [if_neg k5, if_neg k6, if_neg k7, if_neg k8] at ho
                    cases ho
/-- A value that may be comes back from its form, and nothing stands behind it. -/
theorem show_back {v : PV} (h : checkC v = 0) : wholeD (formV v) true 0 = (v, ((formV v).length : Int), 0) ∧ nextV (formV v) (formV v).length true = ({ kind := 0 }, ((formV v).length : Int), ((formV v).length : Int), 0) := by
  have hd : depthV v ≤ 64 ∧ firstC v = 0 := by
    unfold checkC at h
    split at h
    · cases h
    · exact ⟨by omega, h⟩
  refine ⟨?_, ?_⟩
  · have hb := back_all 64 v hd.2 hd.1 [] [] good2_nil
    have hn := nx_form (own_of_first hd.2) good2_nil.stop false
    obtain ⟨a1, a2, a3⟩ := nx_next hn.1 []
    simp only [List.nil_append, List.append_nil, Bool.false_eq_true, if_false, List.length_nil] at hb a1 a2 a3
    unfold wholeD
    have e0 : (((0 : Nat) : Int)) = (0 : Int) := rfl
    rw [e0] at a1 a2 a3
    rw [a3, if_neg (by decide), a1, a2, hb]
    simp
  · have hs : skipV (formV v) (formV v).length = (formV v).length := by unfold skipV; rw [if_neg (by omega), if_pos (Int.le_refl _)]
    rw [nextV_in true (by omega) (by omega), hs, nextF_nil true (by simp)]
    rfl
/-- Forms are apart. -/
theorem show_apart {u v : PV} (hu : checkC u = 0) (hv : checkC v = 0) (h : formV u = formV v) : u = v := by
  have h1 := (show_back hu).1
  have h2 := (show_back hv).1
  rw [h, h2] at h1
  exact (Prod.mk.inj h1).1.symm
end Go.Proofs.YtnkodejgiabamaaDoor
/-
  Show's writer: hex digits.
-/
namespace Go.Proofs.YtnkodejgiabamaaDoor
open Go.RowKit

def sgB : ByteArray := ⟨#[48, 49, 50, 51, 52, 53, 54, 55, 56, 57, 97, 98, 99, 100, 101, 102]⟩
theorem sg_at : ∀ (k : Nat) (h : k < sgB.size), (sgB[k]'h).toNat = (hexG k).toNat := by
  have : ∀ d : Fin 16, (sgB[d.1]'d.2).toNat = (hexG d.1).toNat := by decide
  exact fun k h => this ⟨k, h⟩
theorem sgI (x : Int) (k : Nat) (hx : x.toNat = k) {h : x.toNat < (⟨#[48, 49, 50, 51, 52, 53, 54, 55, 56, 57, 97, 98, 99, 100, 101, 102]⟩ : ByteArray).size} :
    (((⟨#[48, 49, 50, 51, 52, 53, 54, 55, 56, 57, 97, 98, 99, 100, 101, 102]⟩ : ByteArray)[x.toNat]'h).toNat : Int) = ((hexG k).toNat : Int) := by subst hx; exact congrArg Int.ofNat (sg_at _ h)
theorem u8_and15 (n : Nat) (_h : n < 256) : bits .and .u8 (n : Int) 15 = ((n % 16 : Nat) : Int) := by
  have h7 : (BitVec.ofInt 8 15).toNat = 2 ^ 4 - 1 := by decide
  have key : (BitVec.ofInt 8 (n : Int) &&& BitVec.ofInt 8 15).toNat = ((n : Int) % ((2 ^ 8 : Nat) : Int)).toNat % 2 ^ 4 := by
    rw [BitVec.toNat_and, BitVec.toNat_ofInt, h7, Nat.and_two_pow_sub_one_eq_mod]
  show IntKind.u8.wrap ((BitVec.ofInt 8 (n : Int) &&& BitVec.ofInt 8 15).toNat : Nat) = _
  rw [key, IntKind.wrap_u8]
  omega
theorem sg_n (q : Nat) {h : q < (⟨#[48, 49, 50, 51, 52, 53, 54, 55, 56, 57, 97, 98, 99, 100, 101, 102]⟩ : ByteArray).size} :
    (((⟨#[48, 49, 50, 51, 52, 53, 54, 55, 56, 57, 97, 98, 99, 100, 101, 102]⟩ : ByteArray)[q]'h).toNat : Int) = ((hexG q).toNat : Int) := congrArg Int.ofNat (sg_at q h)

set_option maxRecDepth 8000 in
set_option maxHeartbeats 2000000 in
theorem hexW {w : World} {S : Nat → Prop} {p : Nat} {out : List UInt8} (h : WrQ w S p out) (c : UInt8) (hl : out.length + 2 ≤ 10000000) :
    Calls Tryd.prog 46 #[.pointer (some ⟨p, 0, none⟩), .int .u8 c.toNat] w fun e w' => e = .returned (.tuple #[]) ∧ WrNext w S p (out ++ hexB c) w' := by
  obtain ⟨q, hq⟩ : ∃ q, q = c.toNat / 16 := ⟨_, rfl⟩
  obtain ⟨r, hr⟩ : ∃ r, r = c.toNat % 16 := ⟨_, rfl⟩
  have hc := c.toNat_lt
  have hx : hexB c = [hexG q, hexG r] := by rw [hq, hr]; rfl
  rw [hx]
  have HA := Lib.hid (fun (W : World) (hb : Below w.heap.size w W) (x : Int) (hx : x = ((hexG q).toNat : Int)) => writeByteW (h.keep hb) _ x hx (by omega))
  obtain ⟨n, hn⟩ : ∃ n, n = c.toNat := ⟨_, rfl⟩
  rw [← hn] at hq hr hc ⊢
  have e1 : (n : Int) / 16 = (q : Int) := by omega
  have e2 : (n : Int) % 16 = (r : Int) := by omega
  have e3 : n / 16 = q := hq.symm
  have e4 : n % 16 = r := hr.symm
  have hb1 : (0 : Int) ≤ (q : Int) := by omega
  have hb2 : (q : Int) < 16 := by omega
  have hb3 : q < 16 := by omega
  have hb4 : (0 : Int) ≤ (r : Int) := by omega
  have hb5 : (r : Int) < 16 := by omega
  have hb6 : r < 16 := by omega
  have hand : ((0 : Int) ≤ (n : Int) / 16 ∧ (n : Int) / 16 < 16) = True := eq_true ⟨by omega, by omega⟩
  have HQ := Lib.hid (show ((n : Int) / 16).toNat = q by omega)
  have hand2 : bits .and .u8 (n : Int) 15 = (r : Int) := by rw [u8_and15 n hc, hr]
  clear h hx hn hq hr e1 e2 e3 e4
  go_enter Tryd.func46, Tryd.ntmps46
  go_wp2
  go_region_with ((go_at_call 40; refine (HA.out _ (Below.refl _ _).drew _ (sgI _ _ HQ.out)).mono ?_; rintro e w1 ⟨rfl, hN1⟩))
  have HB := Lib.hid (fun (S1 : Nat → Prop) (W : World) (h : WrQ W S1 p (out ++ [hexG q])) (x : Int) (hx : x = ((hexG r).toNat : Int)) => writeByteW h _ x hx (by simp; omega))
  obtain ⟨S1, hq1, hk1, hs1⟩ := hN1
  go_wp2
  go_region_with ((go_at_call 40; refine (HB.out S1 _ (hq1.keep (Below.refl _ _).drew) _ (sg_n r)).mono ?_; rintro e w2 ⟨rfl, hN2⟩))
  go_wp2
  go_end0
  refine ⟨rfl, ?_⟩
  have h2 : WrNext w1 S1 p (out ++ [hexG q, hexG r]) w2 := by
    have h3 := WrNext.above (Below.refl _ _).drew hN2
    rwa [List.append_assoc] at h3
  exact WrNext.above (Below.refl _ _).drew (WrNext.trans hk1 hs1 h2)
end Go.Proofs.YtnkodejgiabamaaDoor
