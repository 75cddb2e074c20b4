/-
  Our texts ParS to Below, in one.
-/
import Derived.Test.YtnkodejgiabamaaDoorPkV3
import Derived.Deep.QuietTactic
import Derived.BigQuiet
/-
  Plain: names in order, put in one by one, or sorted at the end.
-/
namespace Go.Proofs.YtnkodejgiabamaaDoor

/-- One more, ahead of the first that is greater. -/
def insK (x : PV × PV) : List (PV × PV) → List (PV × PV)
  | [] => [x]
  | y :: l => if sLt x.1.s y.1.s then x :: y :: l else y :: insK x l
def hasK (s : List UInt8) (l : List (PV × PV)) : Bool := l.any fun y => y.1.s == s
/-- A name's value in the place of the one that was there. -/
def repK (x : PV × PV) : List (PV × PV) → List (PV × PV)
  | [] => []
  | y :: l => if y.1.s = x.1.s then (y.1, x.2) :: l else y :: repK x l
def putK (x : PV × PV) (l : List (PV × PV)) : List (PV × PV) := if hasK x.1.s l then repK x l else insK x l
/-- Pairs put in one by one, and whether a name came twice. -/
def docS : List (PV × PV) → List (PV × PV) → Bool → List (PV × PV) × Bool
  | [], l, tw => (l, tw)
  | x :: p, l, tw => docS p (putK x l) (tw || hasK x.1.s l)
/-- Strictly in their order. -/
def ascP : List (PV × PV) → Prop
  | [] => True
  | x :: l => (∀ y ∈ l, sLt x.1.s y.1.s = true) ∧ ascP l
theorem sLt_tr : ∀ a b c : List UInt8, sLt a b = true → sLt b c = true → sLt a c = true
  | [], [], _, h, _ => by simp [sLt] at h
  | [], _ :: _, [], _, h => by simp [sLt] at h
  | [], _ :: _, _ :: _, _, _ => by simp [sLt]
  | _ :: _, [], _, h, _ => by simp [sLt] at h
  | _ :: _, _ :: _, [], _, h => by simp [sLt] at h
  | x :: a, y :: b, z :: c, h1, h2 => by
    simp only [sLt] at h1 h2 ⊢
    by_cases p1 : x.toNat < y.toNat
    · by_cases p2 : y.toNat < z.toNat
      · rw [if_pos (by omega)]
      · rw [if_neg p2] at h2
        by_cases p3 : z.toNat < y.toNat
        · rw [if_pos p3] at h2; cases h2
        · rw [if_pos (by omega)]
    · rw [if_neg p1] at h1
      by_cases p4 : y.toNat < x.toNat
      · rw [if_pos p4] at h1; cases h1
      · rw [if_neg p4] at h1
        by_cases p2 : y.toNat < z.toNat
        · rw [if_pos (by omega)]
        · rw [if_neg p2] at h2
          by_cases p3 : z.toNat < y.toNat
          · rw [if_pos p3] at h2; cases h2
          · rw [if_neg p3] at h2
            rw [if_neg (by omega), if_neg (by omega)]
            exact sLt_tr a b c h1 h2
theorem sLt_ir : ∀ a : List UInt8, sLt a a = false
  | [] => rfl
  | x :: a => by simp only [sLt]; rw [if_neg (by omega), if_neg (by omega)]; exact sLt_ir a
theorem insK_mem {x y : PV × PV} : ∀ l, y ∈ insK x l ↔ y = x ∨ y ∈ l
  | [] => by simp [insK]
  | z :: l => by
    simp only [insK]
    split
    · simp
    · rw [List.mem_cons, insK_mem l, List.mem_cons]
      constructor
      · rintro (h | h | h)
        · exact .inr (.inl h)
        · exact .inl h
        · exact .inr (.inr h)
      · rintro (h | h | h)
        · exact .inr (.inl h)
        · exact .inl h
        · exact .inr (.inr h)
theorem insK_perm (x : PV × PV) : ∀ l, (insK x l).Perm (x :: l)
  | [] => List.Perm.refl _
  | y :: l => by
    simp only [insK]
    split
    · exact List.Perm.refl _
    · exact ((insK_perm x l).cons y).trans (List.Perm.swap x y l)
theorem insK_asc {x : PV × PV} : ∀ l, ascP l → hasK x.1.s l = false → ascP (insK x l)
  | [], _, _ => ⟨fun y hy => (by cases hy), trivial⟩
  | y :: l, h, hh => by
    simp only [hasK, List.any_cons, Bool.or_eq_false_iff, beq_eq_false_iff_ne] at hh
    simp only [insK]
    split
    · rename_i hlt
      refine ⟨fun z hz => ?_, h⟩
      rcases List.mem_cons.1 hz with rfl | hz
      · exact hlt
      · exact sLt_tr _ _ _ hlt (h.1 z hz)
    · rename_i hlt
      have hyx : sLt y.1.s x.1.s = true := sLt_tri _ _ (by simpa using hlt) (fun e => hh.1 e.symm)
      refine ⟨fun z hz => ?_, insK_asc l h.2 hh.2⟩
      rcases (insK_mem l).1 hz with rfl | hz
      · exact hyx
      · exact h.1 z hz
/-- Rows in their order, of the same pairs, are one. -/
theorem asc_unique : ∀ l m : List (PV × PV), ascP l → ascP m → l.Perm m → l = m
  | [], m, _, _, h => (List.Perm.nil_eq h).symm ▸ rfl
  | x :: l, [], _, _, h => absurd h.length_eq (by simp)
  | x :: l, y :: m, hl, hm, h => by
    have hxy : x = y := by
      have h1 : x ∈ y :: m := h.mem_iff.1 (List.mem_cons_self)
      have h2 : y ∈ x :: l := h.mem_iff.2 (List.mem_cons_self)
      rcases List.mem_cons.1 h1 with h1 | h1
      · exact h1
      · rcases List.mem_cons.1 h2 with h2 | h2
        · exact h2.symm
        · have a1 := hm.1 x h1
          have a2 := hl.1 y h2
          rw [sLt_as _ _ a1] at a2
          cases a2
    subst hxy
    rw [asc_unique l m hl.2 hm.2 ((List.perm_cons x).1 h)]
theorem asc_of_asc : ∀ l : List (PV × PV), notGt l → twiceV l = false → ascP l
  | [], _, _ => trivial
  | [x], _, _ => ⟨fun y hy => (by cases hy), trivial⟩
  | x :: y :: l, h, ht => by
    simp only [twiceV, Bool.or_eq_false_iff, beq_eq_false_iff_ne] at ht
    have hr := asc_of_asc (y :: l) h.2 ht.2
    have hxy : sLt x.1.s y.1.s = true := sLt_tri _ _ h.1 (fun e => ht.1 e.symm)
    refine ⟨fun z hz => ?_, hr⟩
    rcases List.mem_cons.1 hz with rfl | hz
    · exact hxy
    · exact sLt_tr _ _ _ hxy (hr.1 z hz)
/-- No name comes twice. -/
def nodupK : List (PV × PV) → Prop
  | [] => True
  | x :: l => (∀ y ∈ l, y.1.s ≠ x.1.s) ∧ nodupK l
theorem nodupK_perm {l m : List (PV × PV)} (h : l.Perm m) : nodupK l → nodupK m := by
  induction h with
  | nil => exact id
  | cons x h ih => exact fun ⟨h1, h2⟩ => ⟨fun y hy => h1 y (h.mem_iff.2 hy), ih h2⟩
  | swap x y l =>
    rintro ⟨h1, h2, h3⟩
    refine ⟨fun z hz => ?_, fun z hz => h1 z (List.mem_cons_of_mem _ hz), h3⟩
    rcases List.mem_cons.1 hz with rfl | hz
    · exact fun e => h1 x (List.mem_cons_self) e.symm
    · exact h2 z hz
  | trans _ _ ih1 ih2 => exact fun h => ih2 (ih1 h)
theorem twice_nodup : ∀ l : List (PV × PV), twiceV l = true → ¬ nodupK l
  | [], h, _ => by cases h
  | [_], h, _ => by cases h
  | x :: y :: l, h, hn => by
    simp only [twiceV, Bool.or_eq_true, beq_iff_eq] at h
    rcases h with h | h
    · exact hn.1 y (List.mem_cons_self) h.symm
    · exact twice_nodup (y :: l) h hn.2
theorem asc_nodup : ∀ l : List (PV × PV), ascP l → nodupK l
  | [], _ => trivial
  | x :: l, h => ⟨fun y hy e => (by have := h.1 y hy; rw [e, sLt_ir] at this; cases this), asc_nodup l h.2⟩
theorem hasK_no {s : List UInt8} {l : List (PV × PV)} : hasK s l = false ↔ ∀ y ∈ l, y.1.s ≠ s := by
  unfold hasK
  rw [List.any_eq_false]
  simp
theorem docS_tw : ∀ p l, (docS p l true).2 = true
  | [], _ => rfl
  | x :: p, l => by simp only [docS, Bool.true_or]; exact docS_tw p _
/-- One by one is as sorted at the end. -/
theorem docS_is : ∀ (p l : List (PV × PV)), ascP l → ((docS p l false).2 = false → ascP (docS p l false).1 ∧ (docS p l false).1.Perm (l ++ p)) ∧ ((docS p l false).2 = true → ¬ nodupK (l ++ p))
  | [], l, h => ⟨fun _ => ⟨h, by simp [docS]⟩, fun e => by cases e⟩
  | x :: p, l, h => by
    simp only [docS, Bool.false_or]
    cases hk : hasK x.1.s l with
    | true =>
      refine ⟨fun e => ?_, fun _ hn => ?_⟩
      · rw [docS_tw] at e; cases e
      · have h1 := nodupK_perm (List.perm_middle) hn
        have h2 : hasK x.1.s l = false := hasK_no.2 fun y hy => h1.1 y (List.mem_append_left _ hy)
        rw [hk] at h2; cases h2
    | false =>
      have e1 : putK x l = insK x l := by unfold putK; rw [hk]; rfl
      rw [e1]
      obtain ⟨r1, r2⟩ := docS_is p (insK x l) (insK_asc l h hk)
      have hp : (insK x l ++ p).Perm (l ++ x :: p) := ((insK_perm x l).append_right p).trans (List.perm_middle.symm)
      exact ⟨fun e => ⟨(r1 e).1, (r1 e).2.trans hp⟩, fun e hn => r2 e (nodupK_perm hp.symm hn)⟩
theorem pairs_doc (l : List PV) : pairsV l = if (docS (twoV l) [] false).2 = true then none else some (flatV (docS (twoV l) [] false).1) := by
  obtain ⟨r1, r2⟩ := docS_is (twoV l) [] trivial
  have hp := sort_perm (twoV l)
  unfold pairsV
  cases hd : (docS (twoV l) [] false).2 with
  | true =>
    have hn := r2 hd
    have ht : twiceV (sortV (twoV l)) = true := by
      cases h : twiceV (sortV (twoV l)) with
      | true => rfl
      | false => exact absurd (nodupK_perm hp (asc_nodup _ (asc_of_asc _ (sort_notGt _) h))) hn
    rw [if_pos ht, if_pos rfl]
  | false =>
    obtain ⟨q1, q2⟩ := r1 hd
    have hn : nodupK (twoV l) := nodupK_perm q2 (asc_nodup _ q1)
    have ht : twiceV (sortV (twoV l)) = false := by
      cases h : twiceV (sortV (twoV l)) with
      | false => rfl
      | true => exact absurd (nodupK_perm hp.symm hn) (twice_nodup _ h)
    rw [if_neg (by simp [ht]), if_neg (by simp)]
    rw [asc_unique _ _ (asc_of_asc _ (sort_notGt _) ht) q1 (hp.trans q2.symm)]
theorem docS_snoc : ∀ (p : List (PV × PV)) (x : PV × PV) (l : List (PV × PV)) (tw : Bool), docS (p ++ [x]) l tw = (putK x (docS p l tw).1, (docS p l tw).2 || hasK x.1.s (docS p l tw).1)
  | [], _, _, _ => rfl
  | y :: p, x, l, tw => by simp only [List.cons_append, docS]; exact docS_snoc p x _ _
theorem two_snoc : ∀ (l : List PV) (a b : PV), l.length % 2 = 0 → twoV (l ++ [a, b]) = twoV l ++ [(a, b)]
  | [], _, _, _ => rfl
  | [_], _, _, h => by simp at h
  | x :: y :: l, a, b, h => by simp only [List.cons_append, twoV]; rw [two_snoc l a b (by simp at h; omega)]
end Go.Proofs.YtnkodejgiabamaaDoor
/-
  Plain half of ParseWholes: the document's answer, which calls itself, is the program's, which keeps what is open.
-/
namespace Go.Proofs.YtnkodejgiabamaaDoor

/-- Behind an int: whether it is a reference, where that ends, the error. -/
def refD (bs : List UInt8) (last : Bool) (at_ n : Int) : Bool × Int × Int :=
  let g := nextV bs at_ last
  if g.2.2.2 = 6 then (false, 0, 6) else
  if g.2.2.2 ≠ 0 ∨ wholeV g.1 = false then (false, 0, 0) else
  let r := nextV bs g.2.2.1 last
  if r.2.2.2 = 6 then (false, 0, 6) else
  if r.2.2.2 ≠ 0 ∨ r.1.kind ≠ 6 ∨ r.1.s ≠ [82] then (false, 0, 0) else
  if n < 1 ∨ 4096 < n ∨ g.1.vn ≠ 0 then (false, 0, 26) else (true, r.2.2.1, 0)
/-- The value of one token, or of a reference. -/
def singD (bs : List UInt8) (last : Bool) (t : Tk) (to : Int) : PV × Int × Int :=
  if t.kind = 6 then (match wordV t.s with | none => (PV.none, 0, 11) | some v => (v, to, 0))
  else if wholeV t = true then
    (if (refD bs last to t.vn).2.2 ≠ 0 then (PV.none, 0, (refD bs last to t.vn).2.2) else if (refD bs last to t.vn).1 = true then (.mk 8 t.vn [] [], (refD bs last to t.vn).2.1, 0) else (tkV t, to, 0))
  else (tkV t, to, 0)
def arrD (bs : List UInt8) (last : Bool) (f : Tk → Int → PV × Int × Int) : Nat → List PV → Int → PV × Int × Int
  | 0, _, _ => (PV.none, 0, 10)
  | r + 1, l, at_ =>
    if (nextV bs at_ last).2.2.2 ≠ 0 then (PV.none, 0, (nextV bs at_ last).2.2.2)
    else if (nextV bs at_ last).1.kind = 3 then (.mk 6 0 [] l, (nextV bs at_ last).2.2.1, 0)
    else if (f (nextV bs at_ last).1 (nextV bs at_ last).2.2.1).2.2 ≠ 0 then (PV.none, 0, (f (nextV bs at_ last).1 (nextV bs at_ last).2.2.1).2.2)
    else arrD bs last f r (l ++ [(f (nextV bs at_ last).1 (nextV bs at_ last).2.2.1).1]) (f (nextV bs at_ last).1 (nextV bs at_ last).2.2.1).2.1
def dictD (bs : List UInt8) (last : Bool) (f : Tk → Int → PV × Int × Int) (d : Nat) : Nat → List (PV × PV) → Bool → Int → PV × Int × Int
  | 0, _, _, _ => (PV.none, 0, 10)
  | r + 1, ps, tw, at_ =>
    let t := nextV bs at_ last
    if t.2.2.2 ≠ 0 then (PV.none, 0, t.2.2.2)
    else if t.1.kind = 5 then (if tw = true then (PV.none, 0, 16) else (.mk 7 0 [] (flatV ps), t.2.2.1, 0))
    else if t.1.kind = 0 then (PV.none, 0, 10)
    else if t.1.kind ≠ 1 ∨ t.1.vk ≠ 5 then (PV.none, 0, 11)
    else if d = 0 then (PV.none, 0, 15)
    else
      let u := nextV bs t.2.2.1 last
      if u.2.2.2 ≠ 0 then (PV.none, 0, u.2.2.2)
      else if (f u.1 u.2.2.1).2.2 ≠ 0 then (PV.none, 0, (f u.1 u.2.2.1).2.2)
      else dictD bs last f d r (putK (.mk 5 0 t.1.vs [], (f u.1 u.2.2.1).1) ps) (tw || hasK t.1.vs ps) (f u.1 u.2.2.1).2.1
/-- The value that begins with a token; so much deeper it may go. -/
def vlD (bs : List UInt8) (last : Bool) : Nat → Tk → Int → PV × Int × Int
  | 0, t, to =>
    if t.kind = 0 then (PV.none, 0, 10) else if t.kind = 2 ∨ t.kind = 4 then (PV.none, 0, 15) else if t.kind = 3 ∨ t.kind = 5 then (PV.none, 0, 11)
    else if (singD bs last t to).2.2 ≠ 0 then (PV.none, 0, (singD bs last t to).2.2) else (PV.none, 0, 15)
  | d + 1, t, to =>
    if t.kind = 0 then (PV.none, 0, 10)
    else if t.kind = 2 then arrD bs last (vlD bs last d) (bs.length + 1) [] to
    else if t.kind = 4 then dictD bs last (vlD bs last d) d (bs.length + 1) [] false to
    else if t.kind = 3 ∨ t.kind = 5 then (PV.none, 0, 11)
    else singD bs last t to
def wholeD (bs : List UInt8) (last : Bool) (at_ : Int) : PV × Int × Int :=
  if (nextV bs at_ last).2.2.2 ≠ 0 then (PV.none, 0, (nextV bs at_ last).2.2.2) else vlD bs last 64 (nextV bs at_ last).1 (nextV bs at_ last).2.2.1

theorem refD_is {bs : List UInt8} {last : Bool} {k : Int} (v : PV) (n : Int) (hn : v.n = n) :
    (refV bs last k v).2.2 = (refD bs last k n).2.2 ∧ ((refD bs last k n).2.2 = 0 → (refV bs last k v).1 = (if (refD bs last k n).1 = true then .mk 8 n [] [] else v) ∧ (refV bs last k v).2.1 = if (refD bs last k n).1 = true then (refD bs last k n).2.1 else k) := by
  unfold refV refD
  simp only
  by_cases g6 : (nextV bs k last).2.2.2 = 6
  · rw [if_pos (.inl (by rw [g6]; decide)), if_pos g6, g6]
    exact ⟨rfl, fun h => by cases h⟩
  · rw [if_neg g6]
    by_cases hc : (nextV bs k last).2.2.2 ≠ 0 ∨ wholeV (nextV bs k last).1 = false
    · rw [if_pos hc, if_pos hc]
      have : moreV (nextV bs k last).2.2.2 = 0 := if_neg g6
      exact ⟨this, fun _ => ⟨rfl, rfl⟩⟩
    · rw [if_neg hc, if_neg hc]
      by_cases r6 : (nextV bs (nextV bs k last).2.2.1 last).2.2.2 = 6
      · rw [if_pos (.inl (by rw [r6]; decide)), if_pos r6, r6]
        exact ⟨rfl, fun h => by cases h⟩
      · rw [if_neg r6]
        by_cases hd : (nextV bs (nextV bs k last).2.2.1 last).2.2.2 ≠ 0 ∨ (nextV bs (nextV bs k last).2.2.1 last).1.kind ≠ 6 ∨ (nextV bs (nextV bs k last).2.2.1 last).1.s ≠ [82]
        · rw [if_pos hd, if_pos hd]
          have : moreV (nextV bs (nextV bs k last).2.2.1 last).2.2.2 = 0 := if_neg r6
          exact ⟨this, fun _ => ⟨rfl, rfl⟩⟩
        · rw [if_neg hd, if_neg hd, hn]
          by_cases he : n < 1 ∨ 4096 < n ∨ (nextV bs k last).1.vn ≠ 0
          · rw [if_pos he, if_pos he]
            exact ⟨rfl, fun h => by cases h⟩
          · rw [if_neg he, if_neg he]
            exact ⟨rfl, fun _ => ⟨rfl, rfl⟩⟩
theorem singD_is {bs : List UInt8} {last : Bool} {st : List Lv} {to : Int} {t : Tk} (hw : topW st = false) :
    ((singD bs last t to).2.2 = 0 → singleV bs last st to t = ((singD bs last t to).1, (singD bs last t to).2.1, 0)) ∧ ((singD bs last t to).2.2 ≠ 0 → (singleV bs last st to t).2.2 = (singD bs last t to).2.2) := by
  have hs : singleV bs last st to t = (if t.kind = 6 then (match wordV t.s with | none => (PV.none, to, 11) | some v => (v, to, 0)) else if wholeV t = true then refV bs last to (tkV t) else (tkV t, to, 0)) := by
    unfold singleV
    rw [if_neg (by rintro ⟨h, -⟩; rw [hw] at h; cases h)]
    all_goals (try rfl)
  rw [hs]
  unfold singD
  by_cases k6 : t.kind = 6
  · simp only [if_pos k6]
    cases hq : wordV t.s with
    | none => exact ⟨fun h => (by cases h), fun _ => rfl⟩
    | some v => exact ⟨fun _ => rfl, fun h => absurd rfl h⟩
  · simp only [if_neg k6]
    by_cases hq : wholeV t = true
    · simp only [if_pos hq]
      obtain ⟨r1, r2⟩ := refD_is (bs := bs) (last := last) (k := to) (tkV t) t.vn rfl
      by_cases he : (refD bs last to t.vn).2.2 ≠ 0
      · simp only [if_pos he]
        exact ⟨fun h => absurd h he, fun _ => r1⟩
      · simp only [if_neg he]
        have he0 : (refD bs last to t.vn).2.2 = 0 := by simpa using he
        obtain ⟨p1, p2⟩ := r2 he0
        rw [he0] at r1
        by_cases hb : (refD bs last to t.vn).1 = true
        · simp only [if_pos hb] at p1 p2 ⊢
          exact ⟨fun _ => Prod.ext p1 (Prod.ext p2 r1), fun h => absurd rfl h⟩
        · simp only [if_neg hb] at p1 p2 ⊢
          exact ⟨fun _ => Prod.ext p1 (Prod.ext p2 r1), fun h => absurd rfl h⟩
    · simp only [if_neg hq]
      exact ⟨fun _ => by trivial, fun h => absurd rfl h⟩

/-- What the program does behind a value. -/
def contO (bs : List UInt8) (last : Bool) (g : Nat) (st : List Lv) (at_ : Int) (x : PV) : Option (PV × Int × Int) :=
  match st with
  | [] => some (x, at_, 0)
  | top :: rest => valO bs last g ({ top with l := top.l ++ [x] } :: rest) at_
/-- What it does with a token. -/
def aftO (bs : List UInt8) (last : Bool) (g : Nat) (st : List Lv) (to : Int) (t : Tk) : Option (PV × Int × Int) :=
  if (stepV bs last st to t).2.2.2 ≠ 0 then some (PV.none, 0, (stepV bs last st to t).2.2.2) else
  match (stepV bs last st to t).1 with
  | none => valO bs last g (stepV bs last st to t).2.1 (stepV bs last st to t).2.2.1
  | some x => contO bs last g (stepV bs last st to t).2.1 (stepV bs last st to t).2.2.1 x
theorem valO_eq (bs : List UInt8) (last : Bool) (g : Nat) (st : List Lv) (k : Int) : valO bs last (g + 1) st k = if (nextV bs k last).2.2.2 ≠ 0 then some (PV.none, 0, (nextV bs k last).2.2.2) else aftO bs last g st (nextV bs k last).2.2.1 (nextV bs k last).1 := by
  unfold aftO contO
  rw [valO]
  all_goals (try rfl)
/-- Answers that are alike, as far as what follows a value goes. -/
def AnsD (bs : List UInt8) (last : Bool) (st : List Lv) (R : PV × Int × Int) (P : PV × Int × Int → Prop) : Prop :=
  (R.2.2 = 0 → ∀ V, (∃ g, contO bs last g st R.2.1 R.1 = some V) → P V) ∧ (R.2.2 ≠ 0 → P (PV.none, 0, R.2.2))
theorem aft_err {bs : List UInt8} {last : Bool} {st : List Lv} {to : Int} {t : Tk} {e : Int} (h : (stepV bs last st to t).2.2.2 = e) (he : e ≠ 0) : ∃ g, aftO bs last g st to t = some (PV.none, 0, e) := by
  refine ⟨0, ?_⟩
  unfold aftO
  rw [if_pos (by rw [h]; exact he), h]
theorem aft_none {bs : List UInt8} {last : Bool} {st st2 : List Lv} {to at2 : Int} {t : Tk} (h : stepV bs last st to t = (none, st2, at2, 0)) (g : Nat) : aftO bs last g st to t = valO bs last g st2 at2 := by
  unfold aftO
  rw [h]
  simp only
  rw [if_neg (by decide)]
theorem aft_some {bs : List UInt8} {last : Bool} {st st2 : List Lv} {to at2 : Int} {t : Tk} {x : PV} (h : stepV bs last st to t = (some x, st2, at2, 0)) (g : Nat) : aftO bs last g st to t = contO bs last g st2 at2 x := by
  unfold aftO
  rw [h]
  simp only
  rw [if_neg (by decide)]
/-- Tokens of one value, at a place where one may come. -/
theorem sing_ans {bs : List UInt8} {last : Bool} {st : List Lv} {to : Int} {t : Tk} (hw : topW st = false) (hk : t.kind = 1 ∨ t.kind = 6) :
    (st.length < 64 → AnsD bs last st (singD bs last t to) fun V => ∃ g, aftO bs last g st to t = some V) ∧
    (64 ≤ st.length → ∃ g, aftO bs last g st to t = some (PV.none, 0, if (singD bs last t to).2.2 ≠ 0 then (singD bs last t to).2.2 else 15)) := by
  obtain ⟨s1, s2⟩ := singD_is (bs := bs) (last := last) (to := to) (t := t) hw
  have hst : stepV bs last st to t = (if (singleV bs last st to t).2.2 ≠ 0 then (none, st, (singleV bs last st to t).2.1, (singleV bs last st to t).2.2) else if 64 ≤ st.length then (none, st, (singleV bs last st to t).2.1, 15) else (some (singleV bs last st to t).1, st, (singleV bs last st to t).2.1, 0)) := by
    unfold stepV
    rw [if_neg (by omega), if_neg (by omega), if_neg (by omega)]
  by_cases he : (singD bs last t to).2.2 = 0
  · have h1 := s1 he
    rw [h1] at hst
    simp only at hst
    rw [if_neg (by decide)] at hst
    refine ⟨fun hl => ⟨fun _ V hV => ?_, fun h => absurd he h⟩, fun hl => ?_⟩
    · rw [if_neg (by omega)] at hst
      obtain ⟨g, hg⟩ := hV
      exact ⟨g, by rw [aft_some hst]; exact hg⟩
    · rw [if_pos hl] at hst
      rw [if_neg (by simp [he])]
      exact aft_err (by rw [hst]) (by decide)
  · have h1 := s2 he
    rw [if_pos (by rw [h1]; exact he)] at hst
    refine ⟨fun hl => ⟨fun h => absurd h he, fun _ => ?_⟩, fun hl => ?_⟩
    · exact aft_err (by rw [hst]; exact h1) he
    · rw [if_pos he]
      exact aft_err (by rw [hst]; exact h1) he
/-- What a value within others asks. -/
def ValAt (bs : List UInt8) (last : Bool) (d : Nat) : Prop := ∀ (st : List Lv) (t : Tk) (to : Int), st.length + d = 64 → topW st = false → (t.kind = 3 → ∀ v rest, st = v :: rest → v.dict = true) → tkOk t → 0 ≤ to → to ≤ bs.length →
  AnsD bs last st (vlD bs last d t to) (fun V => ∃ g, aftO bs last g st to t = some V) ∧ ((vlD bs last d t to).2.2 = 0 → t.kind ≠ 0 ∧ to ≤ (vlD bs last d t to).2.1 ∧ (vlD bs last d t to).2.1 ≤ bs.length)
theorem arr_ans {bs : List UInt8} {last : Bool} {d : Nat} (hf : ValAt bs last d) (st : List Lv) (hd : st.length + 1 + d = 64) : ∀ (r : Nat) (l : List PV) (k : Int), 0 ≤ k → k ≤ bs.length → ((bs.length : Int) - k).toNat < r →
    AnsD bs last st (arrD bs last (vlD bs last d) r l k) (fun V => ∃ g, valO bs last g ({ dict := false, l := l } :: st) k = some V) ∧ ((arrD bs last (vlD bs last d) r l k).2.2 = 0 → k ≤ (arrD bs last (vlD bs last d) r l k).2.1 ∧ (arrD bs last (vlD bs last d) r l k).2.1 ≤ bs.length)
  | 0, _, _, _, _, h => by omega
  | r + 1, l, k, h, h2, hr => by
    obtain ⟨g1, g2⟩ := nextV_to last h h2
    have hok := nextV_ok last h h2
    have hfar := nextV_far (last := last) h h2
    have hval := valO_eq bs last
    simp only [arrD]
    by_cases he : (nextV bs k last).2.2.2 ≠ 0
    · rw [if_pos he]
      exact ⟨⟨fun h => absurd h he, fun _ => ⟨1, by rw [hval, if_pos he]⟩⟩, fun h => absurd h he⟩
    · rw [if_neg he]
      have he0 : (nextV bs k last).2.2.2 = 0 := by simpa using he
      have hfar2 := hfar he0
      have hgo : ∀ V, (∃ g, aftO bs last g ({ dict := false, l := l } :: st) (nextV bs k last).2.2.1 (nextV bs k last).1 = some V) → ∃ g, valO bs last g ({ dict := false, l := l } :: st) k = some V := fun V ⟨g, hg⟩ => ⟨g + 1, by rw [hval, if_neg he]; exact hg⟩
      generalize (nextV bs k last).2.2.1 = to at *
      generalize (nextV bs k last).1 = t at *
      by_cases k3 : t.kind = 3
      · rw [if_pos k3]
        have hst : stepV bs last ({ dict := false, l := l } :: st) to t = (some (.mk 6 0 [] l), st, to, 0) := by
          unfold stepV
          rw [if_neg (by omega), if_neg (by omega), if_pos (.inl k3)]
          have hk : (t.kind == 5) = false := by rw [beq_eq_false_iff_ne]; omega
          rw [hk]
          simp [endV12]
        exact ⟨⟨fun _ V ⟨g, hg⟩ => hgo V ⟨g, by rw [aft_some hst]; exact hg⟩, fun h => absurd rfl h⟩, fun _ => ⟨g1, g2⟩⟩
      · rw [if_neg k3]
        obtain ⟨f1, f2⟩ := hf ({ dict := false, l := l } :: st) t to (by simpa using hd) rfl (fun h => absurd h k3) hok (by omega) g2
        by_cases hv : (vlD bs last d t to).2.2 ≠ 0
        · rw [if_pos hv]
          exact ⟨⟨fun h => absurd h hv, fun _ => hgo _ (f1.2 hv)⟩, fun h => absurd h hv⟩
        · rw [if_neg hv]
          have hv0 : (vlD bs last d t to).2.2 = 0 := by simpa using hv
          obtain ⟨q1, q2, q3⟩ := f2 hv0
          have hlt := hfar2 q1
          obtain ⟨r1, r2⟩ := arr_ans hf st hd r (l ++ [(vlD bs last d t to).1]) (vlD bs last d t to).2.1 (by omega) q3 (by omega)
          exact ⟨⟨fun h V hV => hgo V (f1.1 hv0 V (r1.1 h V hV)), fun h => hgo _ (f1.1 hv0 _ (r1.2 h))⟩, fun h => ⟨by have := (r2 h).1; omega, (r2 h).2⟩⟩
theorem name_tk {t : Tk} (ht : tkOk t) (h1 : t.kind = 1) (h5 : t.vk = 5) : tkV t = .mk 5 0 t.vs [] := by
  obtain ⟨o1, -, -⟩ := ht.2.2 h1
  have hn : t.vn = 0 := by
    unfold tkV at o1
    rw [h5] at o1
    simp only [ownC] at o1
    rw [if_neg (by decide), if_neg (by decide), if_neg (by decide), if_neg (by decide), if_pos (by trivial)] at o1
    split at o1
    · cases o1
    · split at o1
      · rename_i h; exact h.1
      · cases o1
  unfold tkV
  rw [h5, hn]
theorem step_name {bs : List UInt8} {last : Bool} {st : List Lv} {to : Int} {t : Tk} (ht : tkOk t) (h1 : t.kind = 1) (h5 : t.vk = 5) : stepV bs last st to t = if 64 ≤ st.length then (none, st, to, 15) else (some (.mk 5 0 t.vs []), st, to, 0) := by
  have hs : singleV bs last st to t = (tkV t, to, 0) := by
    unfold singleV
    rw [if_neg (by rintro ⟨-, h | h⟩; exact h h1; exact h h5), if_neg (by omega), if_neg (by unfold wholeV; rw [h5]; simp)]
  unfold stepV
  rw [if_neg (by omega), if_neg (by omega), if_neg (by omega), hs, name_tk ht h1 h5]
  simp only
  rw [if_neg (by decide)]
theorem dict_ans {bs : List UInt8} {last : Bool} {d : Nat} (hf : ValAt bs last d) (st : List Lv) (hd : st.length + 1 + d = 64) : ∀ (r : Nat) (l : List PV) (k : Int), l.length % 2 = 0 → 0 ≤ k → k ≤ bs.length → ((bs.length : Int) - k).toNat < r →
    AnsD bs last st (dictD bs last (vlD bs last d) d r (docS (twoV l) [] false).1 (docS (twoV l) [] false).2 k) (fun V => ∃ g, valO bs last g ({ dict := true, l := l } :: st) k = some V) ∧ ((dictD bs last (vlD bs last d) d r (docS (twoV l) [] false).1 (docS (twoV l) [] false).2 k).2.2 = 0 → k ≤ (dictD bs last (vlD bs last d) d r (docS (twoV l) [] false).1 (docS (twoV l) [] false).2 k).2.1 ∧ (dictD bs last (vlD bs last d) d r (docS (twoV l) [] false).1 (docS (twoV l) [] false).2 k).2.1 ≤ bs.length)
  | 0, _, _, _, _, _, h => by omega
  | r + 1, l, k, hl, h, h2, hr => by
    obtain ⟨g1, g2⟩ := nextV_to last h h2
    have hok := nextV_ok last h h2
    have hfar := nextV_far (last := last) h h2
    have hval := valO_eq bs last
    have hpd := pairs_doc l
    have htw := docS_snoc (twoV l)
    have hts := two_snoc l
    simp only [dictD]
    generalize hps : docS (twoV l) [] false = D at *
    obtain ⟨ps, tw⟩ := D
    simp only at hpd ⊢
    by_cases he : (nextV bs k last).2.2.2 ≠ 0
    · rw [if_pos he]
      exact ⟨⟨fun h => absurd h he, fun _ => ⟨1, by rw [hval, if_pos he]⟩⟩, fun h => absurd h he⟩
    · rw [if_neg he]
      have he0 : (nextV bs k last).2.2.2 = 0 := by simpa using he
      have hfar2 := hfar he0
      have hgo : ∀ V, (∃ g, aftO bs last g ({ dict := true, l := l } :: st) (nextV bs k last).2.2.1 (nextV bs k last).1 = some V) → ∃ g, valO bs last g ({ dict := true, l := l } :: st) k = some V := fun V ⟨g, hg⟩ => ⟨g + 1, by rw [hval, if_neg he]; exact hg⟩
      generalize (nextV bs k last).2.2.1 = to at *
      generalize (nextV bs k last).1 = t at *
      have hw : topW ({ dict := true, l := l } :: st) = true := by simp [topW, wantsV, hl]
      by_cases k5 : t.kind = 5
      · rw [if_pos k5]
        have hst : stepV bs last ({ dict := true, l := l } :: st) to t = if tw = true then (none, { dict := true, l := l } :: st, to, 16) else (some (.mk 7 0 [] (flatV ps)), st, to, 0) := by
          have hww : wantsV { dict := true, l := l } = true := hw
          unfold stepV
          rw [if_neg (by omega), if_neg (by omega), if_pos (.inr k5)]
          have hk : (t.kind == 5) = true := by rw [beq_iff_eq]; exact k5
          rw [hk]
          cases tw with
          | true => simp [endV12, hww, hpd]
          | false => simp [endV12, hww, hpd]
        cases tw with
        | true =>
          rw [if_pos rfl] at hst ⊢
          exact ⟨⟨fun h => (by cases h), fun _ => hgo _ (aft_err (by rw [hst]) (by decide))⟩, fun h => by cases h⟩
        | false =>
          rw [if_neg (by decide)] at hst ⊢
          exact ⟨⟨fun _ V ⟨g, hg⟩ => hgo V ⟨g, by rw [aft_some hst]; exact hg⟩, fun h => absurd rfl h⟩, fun _ => ⟨g1, g2⟩⟩
      · rw [if_neg k5]
        by_cases k0 : t.kind = 0
        · rw [if_pos k0]
          exact ⟨⟨fun h => (by cases h), fun _ => hgo _ (aft_err (by unfold stepV; rw [if_pos k0]) (by decide))⟩, fun h => by cases h⟩
        · rw [if_neg k0]
          by_cases kv : t.kind ≠ 1 ∨ t.vk ≠ 5
          · rw [if_pos kv]
            have hst : (stepV bs last ({ dict := true, l := l } :: st) to t).2.2.2 = 11 := by
              unfold stepV
              rw [if_neg k0]
              by_cases k24 : t.kind = 2 ∨ t.kind = 4
              · rw [if_pos k24]
                unfold beginV
                rw [if_pos hw]
              · rw [if_neg k24]
                by_cases k3 : t.kind = 3
                · rw [if_pos (.inl k3)]
                  have hk : (t.kind == 5) = false := by rw [beq_eq_false_iff_ne]; omega
                  rw [hk]
                  simp [endV12]
                · rw [if_neg (by omega)]
                  have hs : singleV bs last ({ dict := true, l := l } :: st) to t = (PV.none, to, 11) := by
                    unfold singleV
                    rw [if_pos ⟨hw, kv⟩]
                  rw [hs]
                  rfl
            exact ⟨⟨fun h => (by cases h), fun _ => hgo _ (aft_err hst (by decide))⟩, fun h => by cases h⟩
          · rw [if_neg kv]
            have k1 : t.kind = 1 := Decidable.byContradiction fun h => kv (.inl h)
            have v5 : t.vk = 5 := Decidable.byContradiction fun h => kv (.inr h)
            have hst := step_name (bs := bs) (last := last) (st := { dict := true, l := l } :: st) (to := to) hok k1 v5
            by_cases d0 : d = 0
            · rw [if_pos d0]
              rw [if_pos (by simp only [List.length_cons]; omega)] at hst
              exact ⟨⟨fun h => (by cases h), fun _ => hgo _ (aft_err (by rw [hst]) (by decide))⟩, fun h => by cases h⟩
            · rw [if_neg d0]
              rw [if_neg (by simp only [List.length_cons]; omega)] at hst
              have hlt := hfar2 k0
              have hgo2 : ∀ V, (∃ g, valO bs last g ({ dict := true, l := l ++ [.mk 5 0 t.vs []] } :: st) to = some V) → ∃ g, valO bs last g ({ dict := true, l := l } :: st) k = some V := fun V ⟨g, hg⟩ => hgo V ⟨g, by rw [aft_some hst]; exact hg⟩
              obtain ⟨u1, u2⟩ := nextV_to (bs := bs) (k := to) last (by omega) g2
              have uok := nextV_ok (bs := bs) (k := to) last (by omega) g2
              by_cases ue : (nextV bs to last).2.2.2 ≠ 0
              · rw [if_pos ue]
                exact ⟨⟨fun h => absurd h ue, fun _ => hgo2 _ ⟨1, by rw [hval, if_pos ue]⟩⟩, fun h => absurd h ue⟩
              · rw [if_neg ue]
                have hgo3 : ∀ V, (∃ g, aftO bs last g ({ dict := true, l := l ++ [.mk 5 0 t.vs []] } :: st) (nextV bs to last).2.2.1 (nextV bs to last).1 = some V) → ∃ g, valO bs last g ({ dict := true, l := l } :: st) k = some V := fun V ⟨g, hg⟩ => hgo2 V ⟨g + 1, by rw [hval, if_neg ue]; exact hg⟩
                generalize (nextV bs to last).2.2.1 = uto at *
                generalize (nextV bs to last).1 = u at *
                obtain ⟨f1, f2⟩ := hf ({ dict := true, l := l ++ [.mk 5 0 t.vs []] } :: st) u uto (by simpa using hd) (by simp [topW, wantsV]; omega) (fun _ v rest hv => by cases hv; rfl) uok (by omega) u2
                by_cases hv : (vlD bs last d u uto).2.2 ≠ 0
                · rw [if_pos hv]
                  exact ⟨⟨fun h => absurd h hv, fun _ => hgo3 _ (f1.2 hv)⟩, fun h => absurd h hv⟩
                · rw [if_neg hv]
                  have hv0 : (vlD bs last d u uto).2.2 = 0 := by simpa using hv
                  obtain ⟨q1, q2, q3⟩ := f2 hv0
                  obtain ⟨r1, r2⟩ := dict_ans hf st hd r (l ++ [.mk 5 0 t.vs [], (vlD bs last d u uto).1]) (vlD bs last d u uto).2.1 (by simp; omega) (by omega) q3 (by omega)
                  rw [hts _ _ hl, htw, hps] at r1 r2
                  have happ : ∀ x : PV, (l ++ [.mk 5 0 t.vs []]) ++ [x] = l ++ [.mk 5 0 t.vs [], x] := fun x => by simp
                  have hc : ∀ V, (∃ g, valO bs last g ({ dict := true, l := l ++ [.mk 5 0 t.vs [], (vlD bs last d u uto).1] } :: st) (vlD bs last d u uto).2.1 = some V) → ∃ g, contO bs last g ({ dict := true, l := l ++ [.mk 5 0 t.vs []] } :: st) (vlD bs last d u uto).2.1 (vlD bs last d u uto).1 = some V := fun V ⟨g, hg⟩ => ⟨g, by show valO bs last g ({ dict := true, l := (l ++ [.mk 5 0 t.vs []]) ++ [_] } :: st) _ = _; rw [happ]; exact hg⟩
                  exact ⟨⟨fun h V hV => hgo3 V (f1.1 hv0 V (hc V (r1.1 h V hV))), fun h => hgo3 _ (f1.1 hv0 _ (hc _ (r1.2 h)))⟩, fun h => ⟨Int.le_trans (show k ≤ (vlD bs last d u uto).2.1 by omega) (r2 h).1, (r2 h).2⟩⟩
theorem refD_at {bs : List UInt8} {last : Bool} {k n : Int} (h : 0 ≤ k) (h2 : k ≤ bs.length) (hb : (refD bs last k n).1 = true) : k ≤ (refD bs last k n).2.1 ∧ (refD bs last k n).2.1 ≤ bs.length := by
  obtain ⟨g1, g2⟩ := nextV_to last h h2
  obtain ⟨r1, r2⟩ := nextV_to (bs := bs) (k := (nextV bs k last).2.2.1) last (by omega) g2
  unfold refD at hb ⊢
  simp only at hb ⊢
  split at hb
  · cases hb
  · rename_i q1
    rw [if_neg q1]
    split at hb
    · cases hb
    · rename_i q2
      rw [if_neg q2]
      split at hb
      · cases hb
      · rename_i q3
        rw [if_neg q3]
        split at hb
        · cases hb
        · rename_i q4
          rw [if_neg q4]
          split at hb
          · cases hb
          · rename_i q5
            rw [if_neg q5]
            exact ⟨Int.le_trans g1 r1, r2⟩
theorem singD_at {bs : List UInt8} {last : Bool} {k : Int} {t : Tk} (h : 0 ≤ k) (h2 : k ≤ bs.length) (he : (singD bs last t k).2.2 = 0) : k ≤ (singD bs last t k).2.1 ∧ (singD bs last t k).2.1 ≤ bs.length := by
  unfold singD at he ⊢
  split
  · rename_i q
    rw [if_pos q] at he
    cases hw : wordV t.s with
    | none => rw [hw] at he; cases he
    | some v => exact ⟨Int.le_refl _, h2⟩
  · rename_i q
    rw [if_neg q] at he
    split
    · rename_i q2
      rw [if_pos q2] at he
      split
      · rename_i q3; rw [if_pos q3] at he; exact absurd he q3
      · split
        · rename_i q4; exact refD_at h h2 q4
        · exact ⟨Int.le_refl _, h2⟩
    · exact ⟨Int.le_refl _, h2⟩
theorem close_err {bs : List UInt8} {last : Bool} {st : List Lv} {t : Tk} {to : Int} (hw : topW st = false) (hn3 : t.kind = 3 → ∀ v rest, st = v :: rest → v.dict = true) (k : t.kind = 3 ∨ t.kind = 5) : (stepV bs last st to t).2.2.2 = 11 := by
  have he : (endV12 st (t.kind == 5)).2.2 = 11 := by
    cases st with
    | nil => rfl
    | cons v rest =>
      unfold endV12
      simp only
      rw [if_pos]
      rcases k with k | k
      · left
        have hk : (t.kind == 5) = false := by rw [beq_eq_false_iff_ne]; omega
        rw [hk, hn3 k v rest rfl]
        decide
      · have hk : (t.kind == 5) = true := by rw [beq_iff_eq]; exact k
        rw [hk]
        exact .inr ⟨rfl, hw⟩
  unfold stepV
  rw [if_neg (by omega), if_neg (by omega), if_pos k]
  simp only
  rw [if_neg (by rw [he]; decide)]
  exact he
theorem val_ans {bs : List UInt8} {last : Bool} : ∀ d, ValAt bs last d
  | 0 => fun st t to hd hw hn3 ht h h2 => by
    unfold vlD
    by_cases k0 : t.kind = 0
    · rw [if_pos k0]
      exact ⟨⟨fun h => (by cases h), fun _ => aft_err (by unfold stepV; rw [if_pos k0]) (by decide)⟩, fun h => by cases h⟩
    · rw [if_neg k0]
      by_cases k24 : t.kind = 2 ∨ t.kind = 4
      · rw [if_pos k24]
        exact ⟨⟨fun h => (by cases h), fun _ => aft_err (by unfold stepV beginV; rw [if_neg k0, if_pos k24, if_neg (by rw [hw]; decide), if_pos (by omega)]) (by decide)⟩, fun h => by cases h⟩
      · rw [if_neg k24]
        by_cases k35 : t.kind = 3 ∨ t.kind = 5
        · rw [if_pos k35]
          exact ⟨⟨fun h => (by cases h), fun _ => aft_err (close_err hw hn3 k35) (by decide)⟩, fun h => by cases h⟩
        · rw [if_neg k35]
          have hk : t.kind = 1 ∨ t.kind = 6 := by have := ht.1; have := ht.2.1; omega
          have hs := (sing_ans (bs := bs) (last := last) (to := to) hw hk).2 (by omega)
          by_cases he : (singD bs last t to).2.2 ≠ 0
          · rw [if_pos he] at hs ⊢
            exact ⟨⟨fun h => absurd h he, fun _ => hs⟩, fun h => absurd h he⟩
          · rw [if_neg he] at hs ⊢
            exact ⟨⟨fun h => (by cases h), fun _ => hs⟩, fun h => by cases h⟩
  | d + 1 => fun st t to hd hw hn3 ht h h2 => by
    unfold vlD
    by_cases k0 : t.kind = 0
    · rw [if_pos k0]
      exact ⟨⟨fun h => (by cases h), fun _ => aft_err (by unfold stepV; rw [if_pos k0]) (by decide)⟩, fun h => by cases h⟩
    · rw [if_neg k0]
      have hbeg : ∀ q : Bool, beginV st q = ({ dict := q, l := [] } :: st, 0) := fun q => by
        unfold beginV
        rw [if_neg (by rw [hw]; decide), if_neg (by omega)]
      by_cases k2 : t.kind = 2
      · rw [if_pos k2]
        have hst : stepV bs last st to t = (none, { dict := false, l := [] } :: st, to, 0) := by
          unfold stepV
          have hk : (t.kind == 4) = false := by rw [beq_eq_false_iff_ne]; omega
          rw [if_neg k0, if_pos (.inl k2), hk, hbeg]
        obtain ⟨r1, r2⟩ := arr_ans (val_ans (bs := bs) (last := last) d) st (by omega) (bs.length + 1) [] to h h2 (by omega)
        exact ⟨⟨fun h V hV => by obtain ⟨g, hg⟩ := r1.1 h V hV; exact ⟨g, by rw [aft_none hst]; exact hg⟩, fun h => by obtain ⟨g, hg⟩ := r1.2 h; exact ⟨g, by rw [aft_none hst]; exact hg⟩⟩, fun h => ⟨k0, r2 h⟩⟩
      · rw [if_neg k2]
        by_cases k4 : t.kind = 4
        · rw [if_pos k4]
          have hst : stepV bs last st to t = (none, { dict := true, l := [] } :: st, to, 0) := by
            unfold stepV
            have hk : (t.kind == 4) = true := by rw [beq_iff_eq]; exact k4
            rw [if_neg k0, if_pos (.inr k4), hk, hbeg]
          obtain ⟨r1, r2⟩ := dict_ans (val_ans (bs := bs) (last := last) d) st (by omega) (bs.length + 1) [] to rfl h h2 (by omega)
          exact ⟨⟨fun h V hV => by obtain ⟨g, hg⟩ := r1.1 h V hV; exact ⟨g, by rw [aft_none hst]; exact hg⟩, fun h => by obtain ⟨g, hg⟩ := r1.2 h; exact ⟨g, by rw [aft_none hst]; exact hg⟩⟩, fun h => ⟨k0, r2 h⟩⟩
        · rw [if_neg k4]
          by_cases k35 : t.kind = 3 ∨ t.kind = 5
          · rw [if_pos k35]
            exact ⟨⟨fun h => (by cases h), fun _ => aft_err (close_err hw hn3 k35) (by decide)⟩, fun h => by cases h⟩
          · rw [if_neg k35]
            have hk : t.kind = 1 ∨ t.kind = 6 := by have := ht.1; have := ht.2.1; omega
            exact ⟨(sing_ans (bs := bs) (last := last) (to := to) hw hk).1 (by omega), fun he => ⟨k0, singD_at h h2 he⟩⟩
/-- With an error nothing is told. -/
def ErrS (R : PV × Int × Int) : Prop := R.2.2 ≠ 0 → R = (PV.none, 0, R.2.2)
theorem sing_shape (bs : List UInt8) (last : Bool) (t : Tk) (to : Int) : ErrS (singD bs last t to) := by
  unfold singD ErrS
  split
  · split
    · exact fun _ => rfl
    · exact fun h => absurd rfl h
  · split
    · split
      · exact fun _ => rfl
      · split
        · exact fun h => absurd rfl h
        · exact fun h => absurd rfl h
    · exact fun h => absurd rfl h
theorem arr_shape (bs : List UInt8) (last : Bool) (f : Tk → Int → PV × Int × Int) : ∀ r l k, ErrS (arrD bs last f r l k)
  | 0, _, _ => fun _ => rfl
  | r + 1, l, k => by
    unfold ErrS
    simp only [arrD]
    split
    · exact fun _ => rfl
    · split
      · exact fun h => absurd rfl h
      · split
        · exact fun _ => rfl
        · exact arr_shape bs last f r _ _
theorem dict_shape (bs : List UInt8) (last : Bool) (f : Tk → Int → PV × Int × Int) (d : Nat) : ∀ r ps tw k, ErrS (dictD bs last f d r ps tw k)
  | 0, _, _, _ => fun _ => rfl
  | r + 1, ps, tw, k => by
    unfold ErrS
    simp only [dictD]
    split
    · exact fun _ => rfl
    · split
      · split
        · exact fun _ => rfl
        · exact fun h => absurd rfl h
      · split
        · exact fun _ => rfl
        · split
          · exact fun _ => rfl
          · split
            · exact fun _ => rfl
            · split
              · exact fun _ => rfl
              · split
                · exact fun _ => rfl
                · exact dict_shape bs last f d r _ _ _
theorem vl_shape (bs : List UInt8) (last : Bool) (d : Nat) (t : Tk) (to : Int) : ErrS (vlD bs last d t to) := by
  cases d with
  | zero =>
    unfold ErrS vlD
    split
    · exact fun _ => rfl
    · split
      · exact fun _ => rfl
      · split
        · exact fun _ => rfl
        · split
          · exact fun _ => rfl
          · exact fun _ => rfl
  | succ d =>
    unfold vlD
    split
    · exact fun _ => rfl
    · split
      · exact arr_shape _ _ _ _ _ _
      · split
        · exact dict_shape _ _ _ _ _ _ _ _
        · split
          · exact fun _ => rfl
          · exact sing_shape _ _ _ _
/-- The program's answer is the document's. -/
theorem wholeD_is {bs : List UInt8} {last : Bool} {k : Int} (h : 0 ≤ k) (h2 : k ≤ bs.length) : ∃ g, valO bs last g [] k = some (wholeD bs last k) := by
  obtain ⟨g1, g2⟩ := nextV_to last h h2
  have hok := nextV_ok last h h2
  unfold wholeD
  by_cases he : (nextV bs k last).2.2.2 ≠ 0
  · rw [if_pos he]
    exact ⟨1, by rw [valO_eq, if_pos he]⟩
  · rw [if_neg he]
    obtain ⟨⟨a1, a2⟩, -⟩ := val_ans (bs := bs) (last := last) 64 [] (nextV bs k last).1 (nextV bs k last).2.2.1 rfl rfl (fun _ v rest hv => by cases hv) hok (by omega) g2
    by_cases hv : (vlD bs last 64 (nextV bs k last).1 (nextV bs k last).2.2.1).2.2 = 0
    · obtain ⟨g, hg⟩ := a1 hv (vlD bs last 64 (nextV bs k last).1 (nextV bs k last).2.2.1) ⟨0, by
        show some (_, _, (0 : Int)) = some _
        rw [← hv]⟩
      exact ⟨g + 1, by rw [valO_eq, if_neg he]; exact hg⟩
    · obtain ⟨g, hg⟩ := a2 hv
      refine ⟨g + 1, ?_⟩
      rw [valO_eq, if_neg he, hg]
      exact congrArg some (vl_shape bs last 64 _ _ hv).symm
/-- More rounds tell the same. -/
theorem valO_mono {bs : List UInt8} {last : Bool} : ∀ (g : Nat) (st : List Lv) (k : Int) (V : PV × Int × Int), valO bs last g st k = some V → valO bs last (g + 1) st k = some V
  | 0, _, _, _, h => by cases h
  | g + 1, st, k, V, h => by
    rw [valO_eq] at h ⊢
    by_cases he : (nextV bs k last).2.2.2 ≠ 0
    · rw [if_pos he] at h ⊢; exact h
    · rw [if_neg he] at h ⊢
      unfold aftO at h ⊢
      by_cases hs : (stepV bs last st (nextV bs k last).2.2.1 (nextV bs k last).1).2.2.2 ≠ 0
      · rw [if_pos hs] at h ⊢; exact h
      · rw [if_neg hs] at h ⊢
        generalize stepV bs last st (nextV bs k last).2.2.1 (nextV bs k last).1 = Z at *
        obtain ⟨v, st2, at2, e2⟩ := Z
        cases v with
        | none => exact valO_mono g st2 at2 V h
        | some x =>
          cases st2 with
          | nil => exact h
          | cons top rest => exact valO_mono g _ at2 V h
theorem valO_more {bs : List UInt8} {last : Bool} {g : Nat} {st : List Lv} {k : Int} {V : PV × Int × Int} (h : valO bs last g st k = some V) : ∀ j, valO bs last (g + j) st k = some V
  | 0 => h
  | j + 1 => valO_mono _ _ _ _ (valO_more h j)
theorem valO_one {bs : List UInt8} {last : Bool} {g g2 : Nat} {st : List Lv} {k : Int} {V V2 : PV × Int × Int} (h : valO bs last g st k = some V) (h2 : valO bs last g2 st k = some V2) : V = V2 := by
  have a1 := valO_more h g2
  have a2 := valO_more h2 g
  rw [Nat.add_comm] at a2
  rw [a1] at a2
  exact Option.some.inj a2
/-- What the program tells, in as many rounds as there are bytes and two. -/
theorem parse_doc {bs : List UInt8} {last : Bool} {k : Int} (h : 0 ≤ k) (h2 : k ≤ bs.length) : valO bs last (bs.length + 2) [] k = some (wholeD bs last k) := by
  obtain ⟨V, hV⟩ := valO_some bs last (bs.length + 2) [] k h h2 (by omega)
  obtain ⟨g, hg⟩ := wholeD_is (last := last) h h2
  rw [hV, valO_one hV hg]
end Go.Proofs.YtnkodejgiabamaaDoor
/-
  Plain: how two values stand (Compare); alike only if they are one.
-/
namespace Go.Proofs.YtnkodejgiabamaaDoor

mutual
def compareC : PV → PV → Int
  | .mk k n s l, .mk k2 n2 s2 l2 =>
    if k < k2 ∨ (k = k2 ∧ (n < n2 ∨ (n = n2 ∧ sLt s s2 = true))) then -1
    else if k ≠ k2 ∨ n ≠ n2 ∨ s ≠ s2 then 1
    else compareL l l2
def compareL : List PV → List PV → Int
  | [], [] => 0
  | [], _ :: _ => -1
  | _ :: _, [] => 1
  | x :: l, y :: m => if compareC x y ≠ 0 then compareC x y else compareL l m
end
mutual
theorem compare_zero : ∀ (a b : PV), compareC a b = 0 → a = b
  | .mk k n s l, .mk k2 n2 s2 l2, h => by
    simp only [compareC] at h
    split at h
    · cases h
    · split at h
      · cases h
      · rename_i h1 h2
        have e1 : k = k2 := Decidable.byContradiction fun e => h2 (.inl e)
        have e2 : n = n2 := Decidable.byContradiction fun e => h2 (.inr (.inl e))
        have e3 : s = s2 := Decidable.byContradiction fun e => h2 (.inr (.inr e))
        rw [e1, e2, e3, compareL_zero l l2 h]
theorem compareL_zero : ∀ (l m : List PV), compareL l m = 0 → l = m
  | [], [], _ => rfl
  | [], _ :: _, h => by simp [compareL] at h
  | _ :: _, [], h => by simp [compareL] at h
  | x :: l, y :: m, h => by
    simp only [compareL] at h
    split at h
    · rename_i hn; exact absurd h hn
    · rename_i hn
      rw [compare_zero x y (by simpa using hn), compareL_zero l m h]
end
mutual
theorem compare_self : ∀ a : PV, compareC a a = 0
  | .mk k n s l => by
    simp only [compareC]
    rw [if_neg (by rintro (h | ⟨-, h | ⟨-, h⟩⟩); omega; omega; rw [sLt_ir] at h; cases h), if_neg (by simp)]
    exact compareL_self l
theorem compareL_self : ∀ l : List PV, compareL l l = 0
  | [] => rfl
  | x :: l => by
    simp only [compareL]
    rw [if_neg (by simp [compare_self x])]
    exact compareL_self l
end
theorem compare_iff (a b : PV) : compareC a b = 0 ↔ a = b := ⟨compare_zero a b, fun h => h ▸ compare_self a⟩
end Go.Proofs.YtnkodejgiabamaaDoor
/-
  A region that draws its order, whose operations only read and whose callees read or lay new memory: walked once, in the order of the text.
-/
namespace Go.Proofs.YtnkodejgiabamaaDoor
open Go.RowKit

/-- A world that leaves W's memory as it was. -/
structure BelowW (W : World) where
  w : World
  h : Below W.heap.size W w

instance BelowW.there (W : World) : Nonempty (BelowW W) := ⟨⟨W, Below.refl _ _⟩⟩

theorem wp_region_below {P : Program} {id : Nat} {Q : Exit → Act → World → Prop} {a : Act} {W : World} {l : List Oper} (hm : P.follows .mixedOrders = true) (hB : Region.lexB .any l.toArray = true)
    (h : wpQuiet P l.toArray (fun w' => ∃ p : BelowW W, w' = p.w) (fun a' => ∀ w', (∃ p : BelowW W, w' = p.w) → Q .normal a' w') l a) : (Code.region id l.toArray true).wp P Q a W :=
  wp_region_quiet (C := fun w' => ∃ p : BelowW W, w' = p.w) hm hB ⟨⟨W.drew, (Below.refl _ _).drew⟩, rfl⟩ (by simpa using h)

theorem Calls.below_of {P : Program} {f : FuncId} {args : Array Value} {W : World} {p : BelowW W} {v : Value}
    (h : Calls P f args p.w fun e w' => e = .returned v ∧ Below p.w.heap.size p.w w') : Calls P f args p.w fun e w'' => e = .returned v ∧ ∃ p' : BelowW W, w'' = p'.w :=
  h.mono fun _ w' ⟨he, hb⟩ => ⟨he, ⟨w', p.h.trans (hb.mono p.h.size)⟩, rfl⟩
theorem BelowW.cell {W : World} {b o : Nat} {v : Value} (hc : W.cell? ⟨b, o, none⟩ = some v) (p : BelowW W) : p.w.cell? ⟨b, o, none⟩ = some v := cell?_keep p.h hc
end Go.Proofs.YtnkodejgiabamaaDoor
