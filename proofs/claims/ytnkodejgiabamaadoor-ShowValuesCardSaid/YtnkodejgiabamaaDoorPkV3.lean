/-
  Our texts ParP to Val, in one.
-/
import Derived.Test.YtnkodejgiabamaaDoorPkV2
/-
  Plain half of layer 12: values, what is open, the value that stands from a place on; what more bytes change.
-/
namespace Go.Proofs.YtnkodejgiabamaaDoor

/-- A value: its kind, number, text, and the values in it. -/
inductive PV where
  | mk (kind n : Int) (s : List UInt8) (l : List PV)
def PV.kind : PV → Int | .mk k _ _ _ => k
def PV.n : PV → Int | .mk _ n _ _ => n
def PV.s : PV → List UInt8 | .mk _ _ s _ => s
def PV.l : PV → List PV | .mk _ _ _ l => l
def PV.none : PV := .mk 0 0 [] []
instance : Inhabited PV := ⟨PV.none⟩
/-- What is open: a dictionary or an array, and what came in it. -/
structure Lv where
  dict : Bool
  l : List PV
def wantsV (v : Lv) : Bool := v.dict && v.l.length % 2 == 0
def topW : List Lv → Bool
  | [] => false
  | v :: _ => wantsV v
def wholeV (t : Tk) : Bool := t.kind == 1 && t.vk == 2
def moreV (e : Int) : Int := if e = 6 then 6 else 0
/-- The value of a token. -/
def tkV (t : Tk) : PV := .mk t.vk t.vn t.vs []
/-- Behind a whole number: the value, where it ends, the error. -/
def refV (bs : List UInt8) (last : Bool) (at_ : Int) (v : PV) : PV × Int × Int :=
  let g := nextV bs at_ last
  if g.2.2.2 ≠ 0 ∨ wholeV g.1 = false then (v, at_, moreV g.2.2.2) else
  let r := nextV bs g.2.2.1 last
  if r.2.2.2 ≠ 0 ∨ r.1.kind ≠ 6 ∨ r.1.s ≠ [82] then (v, at_, moreV r.2.2.2) else
  if v.n < 1 ∨ 4096 < v.n ∨ g.1.vn ≠ 0 then (v, at_, 26) else (.mk 8 v.n [] [], r.2.2.1, 0)
def wordV (w : List UInt8) : Option PV :=
  if w = [116, 114, 117, 101] then some (.mk 1 1 [] []) else if w = [102, 97, 108, 115, 101] then some (.mk 1 0 [] []) else if w = [110, 117, 108, 108] then some PV.none else none
/-- The value of one token, or of a reference. -/
def singleV (bs : List UInt8) (last : Bool) (st : List Lv) (at_ : Int) (t : Tk) : PV × Int × Int :=
  if topW st = true ∧ (t.kind ≠ 1 ∨ t.vk ≠ 5) then (PV.none, at_, 11)
  else if t.kind = 6 then (match wordV t.s with | none => (PV.none, at_, 11) | some v => (v, at_, 0))
  else if wholeV t = true then refV bs last at_ (tkV t)
  else (tkV t, at_, 0)
def beginV (st : List Lv) (dict : Bool) : List Lv × Int := if topW st = true then (st, 11) else if 64 ≤ st.length then (st, 15) else ({ dict := dict, l := [] } :: st, 0)
/-- Names and values, two by two. -/
def twoV : List PV → List (PV × PV)
  | a :: b :: l => (a, b) :: twoV l
  | _ => []
def flatV : List (PV × PV) → List PV
  | [] => []
  | (a, b) :: l => a :: b :: flatV l
/-- Two texts, byte by byte: is the first less? -/
def sLt : List UInt8 → List UInt8 → Bool
  | [], [] => false
  | [], _ :: _ => true
  | _ :: _, [] => false
  | a :: l, b :: m => if a.toNat < b.toNat then true else if b.toNat < a.toNat then false else sLt l m
/-- In their order: one more. -/
def insV (x : PV × PV) : List (PV × PV) → List (PV × PV)
  | [] => [x]
  | y :: l => if sLt y.1.s x.1.s then y :: insV x l else x :: y :: l
def sortV : List (PV × PV) → List (PV × PV)
  | [] => []
  | x :: l => insV x (sortV l)
def twiceV : List (PV × PV) → Bool
  | x :: y :: l => x.1.s == y.1.s || twiceV (y :: l)
  | _ => false
def pairsV (l : List PV) : Option (List PV) := if twiceV (sortV (twoV l)) = true then none else some (flatV (sortV (twoV l)))
/-- What was opened last is closed. -/
def endV12 (st : List Lv) (dict : Bool) : PV × List Lv × Int :=
  match st with
  | [] => (PV.none, st, 11)
  | v :: rest =>
    if v.dict ≠ dict ∨ (dict = true ∧ wantsV v = false) then (PV.none, st, 11)
    else if dict = false then (.mk 6 0 [] v.l, rest, 0)
    else match pairsV v.l with
      | none => (PV.none, st, 16)
      | some l => (.mk 7 0 [] l, rest, 0)
/-- A token is taken: the value that is whole, if one is; what is open; where; the error. -/
def stepV (bs : List UInt8) (last : Bool) (st : List Lv) (at_ : Int) (t : Tk) : Option PV × List Lv × Int × Int :=
  if t.kind = 0 then (none, st, at_, 10)
  else if t.kind = 2 ∨ t.kind = 4 then (none, (beginV st (t.kind == 4)).1, at_, (beginV st (t.kind == 4)).2)
  else if t.kind = 3 ∨ t.kind = 5 then
    (let r := endV12 st (t.kind == 5)
     if r.2.2 = 0 then (some r.1, r.2.1, at_, 0) else (none, r.2.1, at_, r.2.2))
  else
    (let r := singleV bs last st at_ t
     if r.2.2 ≠ 0 then (none, st, r.2.1, r.2.2) else if 64 ≤ st.length then (none, st, r.2.1, 15) else (some r.1, st, r.2.1, 0))
/-- The value that stands from a place on, behind all that is open: the value, where it ends, the error. -/
def valO (bs : List UInt8) (last : Bool) : Nat → List Lv → Int → Option (PV × Int × Int)
  | 0, _, _ => none
  | g + 1, st, at_ =>
    let t := nextV bs at_ last
    if t.2.2.2 ≠ 0 then some (PV.none, 0, t.2.2.2) else
    match stepV bs last st t.2.2.1 t.1 with
    | (v, st2, at2, e) =>
      if e ≠ 0 then some (PV.none, 0, e) else
      match v with
      | none => valO bs last g st2 at2
      | some x => match st2 with
        | [] => some (x, at2, 0)
        | top :: rest => valO bs last g ({ top with l := top.l ++ [x] } :: rest) at2

/-- Where what is told lies. -/
theorem nextV_to {bs : List UInt8} {k : Int} (last : Bool) (h : 0 ≤ k) (h2 : k ≤ bs.length) : k ≤ (nextV bs k last).2.2.1 ∧ (nextV bs k last).2.2.1 ≤ bs.length := by
  rw [nextV_in last h h2]
  have hs := skipV_bd h h2
  cases hd : bs.drop (skipV bs k) with
  | nil => rw [nextF_nil last hd]; exact ⟨hs.1, by have := hs.2; show ((skipV bs k : Nat) : Int) ≤ _; omega⟩
  | cons c t =>
    rw [nextF_cons last hd]
    have hl : (bs.drop (skipV bs k)).length = t.length + 1 := by rw [hd]; rfl
    rw [List.length_drop] at hl
    split
    · rename_i h0
      have := (tokV_some last c t h0).2
      exact ⟨by show k ≤ (bs.length : Int) - _; omega, by show (bs.length : Int) - _ ≤ _; omega⟩
    · exact ⟨hs.1, by have := hs.2; show ((skipV bs k : Nat) : Int) ≤ _; omega⟩
theorem moreV_6 {e : Int} (h : moreV e ≠ 6) : moreV e = 0 ∧ e ≠ 6 := by
  unfold moreV at h ⊢
  split
  · rename_i h1; rw [if_pos h1] at h; exact absurd rfl h
  · rename_i h1; exact ⟨rfl, h1⟩
/-- All that is told of the first bytes. -/
structure Same3 (bs : List UInt8) (n : Nat) (last : Bool) (k : Int) : Prop where
  a : nextV bs k last = nextV (bs.take n) k false
  b : nextV (bs.take n) k true = nextV (bs.take n) k false
  lo : k ≤ (nextV (bs.take n) k false).2.2.1
  hi : (nextV (bs.take n) k false).2.2.1 ≤ n
theorem same3 {bs : List UInt8} {n : Nat} (last : Bool) {k : Int} (h : 0 ≤ k) (h2 : k ≤ n) (hn : n ≤ bs.length) (h6 : (nextV (bs.take n) k false).2.2.2 ≠ 6) : Same3 bs n last k := by
  obtain ⟨p, q⟩ := nextV_stays last h h2 hn h6
  have hl : (bs.take n).length = n := by rw [List.length_take]; omega
  obtain ⟨r, s⟩ := nextV_to (bs := bs.take n) (k := k) false h (by omega)
  exact ⟨p, q, r, by omega⟩
theorem refV_stays {bs : List UInt8} {n : Nat} (last : Bool) {k : Int} (h : 0 ≤ k) (h2 : k ≤ n) (hn : n ≤ bs.length) (v : PV) (h6 : (refV (bs.take n) false k v).2.2 ≠ 6) :
    refV bs last k v = refV (bs.take n) false k v ∧ refV (bs.take n) true k v = refV (bs.take n) false k v ∧ k ≤ (refV (bs.take n) false k v).2.1 ∧ (refV (bs.take n) false k v).2.1 ≤ n := by
  unfold refV at h6 ⊢
  simp only at h6 ⊢
  by_cases hg6 : (nextV (bs.take n) k false).2.2.2 = 6
  · rw [if_pos (.inl (by rw [hg6]; decide)), hg6] at h6
    exact absurd rfl h6
  · have g := same3 last h h2 hn hg6
    rw [g.a, g.b]
    by_cases hc : (nextV (bs.take n) k false).2.2.2 ≠ 0 ∨ wholeV (nextV (bs.take n) k false).1 = false
    · simp only [if_pos hc]
      exact ⟨by trivial, by trivial, Int.le_refl _, h2⟩
    · simp only [if_neg hc] at h6 ⊢
      by_cases hr6 : (nextV (bs.take n) (nextV (bs.take n) k false).2.2.1 false).2.2.2 = 6
      · rw [if_pos (.inl (by rw [hr6]; decide)), hr6] at h6
        exact absurd rfl h6
      · have r := same3 (n := n) last (k := (nextV (bs.take n) k false).2.2.1) (by have := g.lo; omega) g.hi hn hr6
        rw [r.a, r.b]
        refine ⟨rfl, rfl, ?_⟩
        split
        · exact ⟨Int.le_refl _, h2⟩
        · split
          · exact ⟨Int.le_refl _, h2⟩
          · have h3 := r.lo; have h4 := g.lo; exact ⟨Int.le_trans h4 h3, r.hi⟩
theorem singleV_stays {bs : List UInt8} {n : Nat} (last : Bool) (st : List Lv) {k : Int} (h : 0 ≤ k) (h2 : k ≤ n) (hn : n ≤ bs.length) (t : Tk) (h6 : (singleV (bs.take n) false st k t).2.2 ≠ 6) :
    singleV bs last st k t = singleV (bs.take n) false st k t ∧ singleV (bs.take n) true st k t = singleV (bs.take n) false st k t ∧ k ≤ (singleV (bs.take n) false st k t).2.1 ∧ (singleV (bs.take n) false st k t).2.1 ≤ n := by
  unfold singleV at h6 ⊢
  split
  · exact ⟨by trivial, by trivial, Int.le_refl _, h2⟩
  · rename_i q1
    rw [if_neg q1] at h6
    split
    · split
      · exact ⟨by trivial, by trivial, Int.le_refl _, h2⟩
      · exact ⟨by trivial, by trivial, Int.le_refl _, h2⟩
    · rename_i q2
      rw [if_neg q2] at h6
      split
      · rename_i q3
        rw [if_pos q3] at h6
        exact refV_stays last h h2 hn _ h6
      · exact ⟨by trivial, by trivial, Int.le_refl _, h2⟩
theorem stepV_stays {bs : List UInt8} {n : Nat} (last : Bool) (st : List Lv) {k : Int} (h : 0 ≤ k) (h2 : k ≤ n) (hn : n ≤ bs.length) (t : Tk) (h6 : (stepV (bs.take n) false st k t).2.2.2 ≠ 6) :
    stepV bs last st k t = stepV (bs.take n) false st k t ∧ stepV (bs.take n) true st k t = stepV (bs.take n) false st k t ∧ k ≤ (stepV (bs.take n) false st k t).2.2.1 ∧ (stepV (bs.take n) false st k t).2.2.1 ≤ n := by
  unfold stepV at h6 ⊢
  split
  · exact ⟨by trivial, by trivial, Int.le_refl _, h2⟩
  · rename_i q1
    rw [if_neg q1] at h6
    split
    · exact ⟨by trivial, by trivial, Int.le_refl _, h2⟩
    · rename_i q2
      rw [if_neg q2] at h6
      split
      · simp only
        split
        · exact ⟨by trivial, by trivial, Int.le_refl _, h2⟩
        · exact ⟨by trivial, by trivial, Int.le_refl _, h2⟩
      · rename_i q3
        rw [if_neg q3] at h6
        simp only at h6 ⊢
        have h7 : (singleV (bs.take n) false st k t).2.2 ≠ 6 := by
          intro e
          rw [if_pos (by rw [e]; decide)] at h6
          exact h6 e
        obtain ⟨r1, r2, r3, r4⟩ := singleV_stays last st h h2 hn t h7
        rw [r1, r2]
        refine ⟨rfl, rfl, ?_⟩
        split
        · exact ⟨r3, r4⟩
        · split
          · exact ⟨r3, r4⟩
          · exact ⟨r3, r4⟩
theorem valO_stays {bs : List UInt8} {n : Nat} (last : Bool) (hn : n ≤ bs.length) : ∀ (g : Nat) (st : List Lv) (k : Int) (V : PV × Int × Int), 0 ≤ k → k ≤ n → valO (bs.take n) false g st k = some V → V.2.2 ≠ 6 → valO bs last g st k = some V ∧ valO (bs.take n) true g st k = some V
  | 0, _, _, _, _, _, hV, _ => by cases hV
  | g + 1, st, k, V, h, h2, hV, h6 => by
    unfold valO at hV ⊢
    simp only at hV ⊢
    have ht6 : (nextV (bs.take n) k false).2.2.2 ≠ 6 := by
      intro e
      rw [if_pos (by rw [e]; decide), e] at hV
      cases hV
      exact h6 rfl
    have s := same3 last h h2 hn ht6
    rw [s.a, s.b]
    by_cases he : (nextV (bs.take n) k false).2.2.2 ≠ 0
    · simp only [if_pos he] at hV ⊢
      exact ⟨hV, hV⟩
    · simp only [if_neg he] at hV ⊢
      have hs6 : (stepV (bs.take n) false st (nextV (bs.take n) k false).2.2.1 (nextV (bs.take n) k false).1).2.2.2 ≠ 6 := by
        intro e
        rw [if_pos (by rw [e]; decide), e] at hV
        cases hV
        exact h6 rfl
      have hlo := s.lo
      obtain ⟨r1, r2, r3, r4⟩ := stepV_stays last st (k := (nextV (bs.take n) k false).2.2.1) (by omega) s.hi hn (nextV (bs.take n) k false).1 hs6
      rw [r1, r2]
      generalize stepV (bs.take n) false st (nextV (bs.take n) k false).2.2.1 (nextV (bs.take n) k false).1 = Z at *
      obtain ⟨v, st2, at2, e2⟩ := Z
      simp only at hV r3 r4 ⊢
      by_cases h0 : e2 ≠ 0
      · simp only [if_pos h0] at hV ⊢
        exact ⟨hV, hV⟩
      · simp only [if_neg h0] at hV ⊢
        cases v with
        | none => exact valO_stays last hn g st2 at2 V (by omega) r4 hV h6
        | some x =>
          cases st2 with
          | nil => exact ⟨hV, hV⟩
          | cons top rest => exact valO_stays last hn g _ at2 V (by omega) r4 hV h6
end Go.Proofs.YtnkodejgiabamaaDoor
/-
  Plain half of ParseMay: what is read may be, and lies in the bytes.
-/
namespace Go.Proofs.YtnkodejgiabamaaDoor

mutual
/-- How deep a value is. -/
def depthV : PV → Nat
  | .mk k _ _ l => if k = 6 ∨ k = 7 then 1 + depthL l else 1
def depthL : List PV → Nat
  | [] => 0
  | x :: l => max (depthV x) (depthL l)
end
def ascV : List (PV × PV) → Bool
  | x :: y :: l => sLt x.1.s y.1.s && ascV (y :: l)
  | _ => true
def evenN : List PV → Bool
  | [] => true
  | [a] => a.kind == 5
  | a :: _ :: l => a.kind == 5 && evenN l
/-- Whether a value may be, by itself: 0, or the error. -/
def ownC : PV → Int
  | .mk k n s l =>
    if k = 0 then (if n = 0 ∧ s = [] ∧ l = [] then 0 else 2)
    else if k = 1 then (if (n = 0 ∨ n = 1) ∧ s = [] ∧ l = [] then 0 else 2)
    else if k = 2 ∨ k = 3 then (if s = [] ∧ l = [] then checkV k n true else 2)
    else if k = 4 then (if n = 0 ∧ l = [] then 0 else 2)
    else if k = 5 then (if 127 < s.length ∨ (0 : UInt8) ∈ s then 17 else if n = 0 ∧ l = [] then 0 else 2)
    else if k = 6 then (if n = 0 ∧ s = [] then 0 else 2)
    else if k = 7 then (if n ≠ 0 ∨ s ≠ [] ∨ l.length % 2 ≠ 0 then 2 else if evenN l = false then 2 else if ascV (twoV l) = true then 0 else 16)
    else if k = 8 then (if 1 ≤ n ∧ n ≤ 4096 ∧ s = [] ∧ l = [] then 0 else 2)
    else 2
mutual
/-- The first error in a value. -/
def firstC : PV → Int
  | .mk k n s l => if ownC (.mk k n s l) ≠ 0 then ownC (.mk k n s l) else if k = 6 ∨ k = 7 then firstL l else 0
def firstL : List PV → Int
  | [] => 0
  | x :: l => if firstC x ≠ 0 then firstC x else firstL l
end
def checkC (v : PV) : Int := if 64 < depthV v then 15 else firstC v

theorem depthL_mem {n : Nat} : ∀ l : List PV, (∀ x ∈ l, depthV x ≤ n) → depthL l ≤ n
  | [], _ => by simp [depthL]
  | x :: l, h => by
    have h1 := h x (List.mem_cons_self)
    have h2 := depthL_mem l fun y hy => h y (List.mem_cons_of_mem _ hy)
    simp only [depthL]; omega
theorem firstL_mem : ∀ l : List PV, (∀ x ∈ l, firstC x = 0) → firstL l = 0
  | [], _ => rfl
  | x :: l, h => by
    simp only [firstL]
    rw [if_neg (by simp [h x (List.mem_cons_self)])]
    exact firstL_mem l fun y hy => h y (List.mem_cons_of_mem _ hy)
theorem sLt_tri : ∀ a b : List UInt8, sLt a b = false → a ≠ b → sLt b a = true
  | [], [], _, h => absurd rfl h
  | [], _ :: _, h, _ => by simp [sLt] at h
  | _ :: _, [], _, _ => by simp [sLt]
  | x :: a, y :: b, h, hn => by
    simp only [sLt] at h ⊢
    by_cases h1 : x.toNat < y.toNat
    · rw [if_pos h1] at h; cases h
    · rw [if_neg h1] at h
      by_cases h2 : y.toNat < x.toNat
      · rw [if_pos h2]
      · rw [if_neg h2] at h ⊢
        rw [if_neg h1]
        have hxy : x = y := UInt8.toNat_inj.1 (by omega)
        subst hxy
        exact sLt_tri a b h fun e => hn (by rw [e])
/-- In their order, not less than the one ahead. -/
def notGt : List (PV × PV) → Prop
  | x :: y :: l => sLt y.1.s x.1.s = false ∧ notGt (y :: l)
  | _ => True
theorem sLt_as : ∀ a b : List UInt8, sLt a b = true → sLt b a = false
  | [], [], h => by simp [sLt] at h
  | [], _ :: _, _ => by simp [sLt]
  | _ :: _, [], h => by simp [sLt] at h
  | x :: a, y :: b, h => by
    simp only [sLt] at h ⊢
    by_cases h1 : x.toNat < y.toNat
    · rw [if_neg (by omega), if_pos h1]
    · rw [if_neg h1] at h
      by_cases h2 : y.toNat < x.toNat
      · rw [if_pos h2] at h; cases h
      · rw [if_neg h2] at h
        rw [if_neg h2, if_neg h1]
        exact sLt_as a b h
theorem ins_head (x : PV × PV) : ∀ l, ∃ z t, insV x l = z :: t ∧ (z = x ∨ ∃ t', l = z :: t')
  | [] => ⟨x, [], rfl, .inl rfl⟩
  | y :: l => by
    simp only [insV]
    split
    · exact ⟨y, _, rfl, .inr ⟨l, rfl⟩⟩
    · exact ⟨x, _, rfl, .inl rfl⟩
theorem notGt_cons {x : PV × PV} {l : List (PV × PV)} (h : notGt l) (hh : ∀ z t, l = z :: t → sLt z.1.s x.1.s = false) : notGt (x :: l) := by
  cases l with
  | nil => trivial
  | cons y t => exact ⟨hh y t rfl, h⟩
theorem notGt_tail {x : PV × PV} {l : List (PV × PV)} (h : notGt (x :: l)) : notGt l := by
  cases l with
  | nil => trivial
  | cons y t => exact h.2
theorem ins_notGt (x : PV × PV) : ∀ l, notGt l → notGt (insV x l)
  | [], _ => trivial
  | y :: l, h => by
    simp only [insV]
    split
    · rename_i hy
      refine notGt_cons (ins_notGt x l (notGt_tail h)) fun z t hz => ?_
      obtain ⟨z', t', e1, e2⟩ := ins_head x l
      rw [e1] at hz
      have hzz : z' = z := (List.cons.inj hz).1
      rcases e2 with e2 | ⟨t2, e2⟩
      · rw [← hzz, e2]; exact sLt_as _ _ hy
      · rw [← hzz]; subst e2; exact h.1
    · rename_i hy
      exact notGt_cons h fun z t hz => by
        have : y = z := (List.cons.inj hz).1
        rw [← this]
        simpa using hy
theorem sort_notGt : ∀ l, notGt (sortV l)
  | [] => trivial
  | x :: l => ins_notGt x _ (sort_notGt l)
theorem asc_of : ∀ l, notGt l → twiceV l = false → ascV l = true
  | [], _, _ => rfl
  | [_], _, _ => rfl
  | x :: y :: l, h, ht => by
    simp only [twiceV, Bool.or_eq_false_iff, beq_eq_false_iff_ne] at ht
    simp only [ascV, Bool.and_eq_true]
    exact ⟨sLt_tri _ _ h.1 (fun e => ht.1 e.symm), asc_of (y :: l) h.2 ht.2⟩
theorem ins_perm (x : PV × PV) : ∀ l, (insV x l).Perm (x :: l)
  | [] => List.Perm.refl _
  | y :: l => by
    simp only [insV]
    split
    · exact ((ins_perm x l).cons y).trans (List.Perm.swap x y l)
    · exact List.Perm.refl _
theorem sort_perm : ∀ l, (sortV l).Perm l
  | [] => List.Perm.refl _
  | x :: l => (ins_perm x _).trans ((sort_perm l).cons x)
theorem flat_two : ∀ p, twoV (flatV p) = p
  | [] => rfl
  | (a, b) :: l => by simp only [flatV, twoV]; rw [flat_two l]
theorem two_flat : ∀ l : List PV, l.length % 2 = 0 → flatV (twoV l) = l
  | [], _ => rfl
  | [_], h => by simp at h
  | a :: b :: l, h => by simp only [twoV, flatV]; rw [two_flat l (by simp at h; omega)]
theorem flat_len : ∀ p, (flatV p).length % 2 = 0
  | [] => rfl
  | (a, b) :: l => by have := flat_len l; simp only [flatV, List.length_cons]; omega
theorem flat_mem {x : PV} : ∀ p, x ∈ flatV p ↔ ∃ q ∈ p, x = q.1 ∨ x = q.2
  | [] => by simp [flatV]
  | (a, b) :: l => by
    simp only [flatV, List.mem_cons, flat_mem l]
    constructor
    · rintro (h | h | ⟨q, hq, h⟩)
      · exact ⟨(a, b), .inl rfl, .inl h⟩
      · exact ⟨(a, b), .inl rfl, .inr h⟩
      · exact ⟨q, .inr hq, h⟩
    · rintro ⟨q, rfl | hq, h⟩
      · exact h.elim .inl (fun h => .inr (.inl h))
      · exact .inr (.inr ⟨q, hq, h⟩)
theorem evenN_flat : ∀ p : List (PV × PV), evenN (flatV p) = p.all fun q => q.1.kind == 5
  | [] => rfl
  | (a, b) :: l => by simp only [flatV, evenN, List.all_cons]; rw [evenN_flat l]
theorem evenN_snoc : ∀ (l : List PV) (x : PV), evenN l = true → (l.length % 2 = 0 → x.kind = 5) → evenN (l ++ [x]) = true
  | [], x, _, h => by simpa [evenN] using h rfl
  | [a], x, h, _ => by simpa [evenN] using h
  | a :: b :: l, x, h, hx => by
    simp only [evenN, Bool.and_eq_true] at h
    simp only [List.cons_append, evenN, Bool.and_eq_true]
    exact ⟨h.1, evenN_snoc l x h.2 fun h2 => hx (by simp; omega)⟩
theorem pairs_ok {l l2 : List PV} (he : l.length % 2 = 0) (hn : evenN l = true) (h : pairsV l = some l2) : l2.length % 2 = 0 ∧ evenN l2 = true ∧ ascV (twoV l2) = true ∧ ∀ x ∈ l2, x ∈ l := by
  unfold pairsV at h
  split at h
  · cases h
  · rename_i ht
    cases h
    have hp := sort_perm (twoV l)
    refine ⟨flat_len _, ?_, ?_, fun x hx => ?_⟩
    · rw [evenN_flat, List.all_eq_true]
      intro q hq
      have h1 := evenN_flat (twoV l)
      rw [two_flat l he, hn] at h1
      exact List.all_eq_true.1 h1.symm q (hp.mem_iff.1 hq)
    · rw [flat_two]
      exact asc_of _ (sort_notGt _) (by simpa using ht)
    · obtain ⟨q, hq, h1⟩ := (flat_mem _).1 hx
      rw [← two_flat l he]
      exact (flat_mem _).2 ⟨q, hp.mem_iff.1 hq, h1⟩
/-- All that is open may be. -/
def lvOk (d : Nat) (v : Lv) : Prop := (∀ x ∈ v.l, firstC x = 0 ∧ depthV x + d ≤ 64) ∧ (v.dict = true → evenN v.l = true)
def stOk : List Lv → Prop
  | [] => True
  | v :: rest => lvOk (rest.length + 1) v ∧ rest.length + 1 ≤ 64 ∧ topW rest = false ∧ stOk rest
theorem tk_depth {v : PV} (h : v.kind ≠ 6) (h2 : v.kind ≠ 7) : depthV v = 1 := by
  obtain ⟨k, n, s, l⟩ := v
  simp only [depthV]
  rw [if_neg (by rintro (e | e); exact h e; exact h2 e)]
theorem first_own {v : PV} (h : ownC v = 0) (h6 : v.kind ≠ 6) (h7 : v.kind ≠ 7) : firstC v = 0 := by
  obtain ⟨k, n, s, l⟩ := v
  simp only [firstC]
  rw [if_neg (by simp [h]), if_neg (by rintro (e | e); exact h6 e; exact h7 e)]
/-- A token's own value may be. -/
def tkOk (t : Tk) : Prop := 0 ≤ t.kind ∧ t.kind ≤ 6 ∧ (t.kind = 1 → ownC (tkV t) = 0 ∧ t.vk ≠ 6 ∧ t.vk ≠ 7)
theorem tkn {t : Tk} (n : Nat) (e : t.kind = n) (h : n ≤ 6) (h1 : n ≠ 1) : tkOk t := ⟨by omega, by omega, fun h2 => by omega⟩
theorem tk1 {t : Tk} (e : t.kind = 1) (ho : ownC (tkV t) = 0) (h6 : t.vk ≠ 6) (h7 : t.vk ≠ 7) : tkOk t := ⟨by omega, by omega, fun _ => ⟨ho, h6, h7⟩⟩
theorem own_num {k n : Int} (hk : k = 2 ∨ k = 3) (hc : checkV k n true = 0) : ownC (.mk k n [] []) = 0 := by
  simp only [ownC]
  rw [if_neg (by omega), if_neg (by omega), if_pos hk, if_pos ⟨by trivial, by trivial⟩]
  exact hc
theorem own_ref {n : Int} (h1 : 1 ≤ n) (h2 : n ≤ 4096) : ownC (.mk 8 n [] []) = 0 := by simp [ownC, h1, h2]
theorem word_ok {w : List UInt8} {v : PV} (h : wordV w = some v) : firstC v = 0 ∧ depthV v = 1 := by
  unfold wordV at h
  split at h
  · cases h; decide
  · split at h
    · cases h; decide
    · split at h
      · cases h; decide
      · cases h
theorem nameV_ok {w o : List UInt8} (h : nameV w = some o) : ¬ (127 < o.length ∨ (0 : UInt8) ∈ o) := by
  unfold nameV at h
  split at h
  · cases h
  · split at h
    · cases h
    · rename_i hn
      cases h
      exact hn
theorem tokV_ok (last : Bool) (c : UInt8) (t : List UInt8) (h : (tokV last c t).1 = 0) : tkOk (tokV last c t).2.1 := by
  unfold tokV at h ⊢
  split
  · rename_i q0
    rw [if_pos q0] at h
    try simp only at h ⊢
    split
    · rename_i q1; rw [if_pos q1] at h; cases h
    · rename_i q1
      rw [if_neg q1] at h
      split
      · rename_i q2
        rw [if_pos q2] at h
        have hc := parseV_check _ h
        try simp only at hc
        have hk : (parseV ((c :: t).takeWhile isRg)).1 = 2 ∨ (parseV ((c :: t).takeWhile isRg)).1 = 3 := by
          unfold checkV at hc
          split at hc
          · rename_i hq
            rcases hq.2 with hq | hq
            · exact .inl hq.1
            · exact .inr hq.1
          · cases hc
        refine tk1 rfl ?_ ?_ ?_
        · exact own_num hk hc
        · show (parseV _).1 ≠ 6; omega
        · show (parseV _).1 ≠ 7; omega
      · exact (by first | exact tkn 0 rfl (by decide) (by decide) | exact tkn 2 rfl (by decide) (by decide) | exact tkn 3 rfl (by decide) (by decide) | exact tkn 4 rfl (by decide) (by decide) | exact tkn 5 rfl (by decide) (by decide) | exact tkn 6 rfl (by decide) (by decide))
  · rename_i q0
    rw [if_neg q0] at h
    split
    · exact (by first | exact tkn 0 rfl (by decide) (by decide) | exact tkn 2 rfl (by decide) (by decide) | exact tkn 3 rfl (by decide) (by decide) | exact tkn 4 rfl (by decide) (by decide) | exact tkn 5 rfl (by decide) (by decide) | exact tkn 6 rfl (by decide) (by decide))
    · rename_i q1
      rw [if_neg q1] at h
      split
      · exact (by first | exact tkn 0 rfl (by decide) (by decide) | exact tkn 2 rfl (by decide) (by decide) | exact tkn 3 rfl (by decide) (by decide) | exact tkn 4 rfl (by decide) (by decide) | exact tkn 5 rfl (by decide) (by decide) | exact tkn 6 rfl (by decide) (by decide))
      · rename_i q2
        rw [if_neg q2] at h
        split
        · split
          · exact (by first | exact tkn 0 rfl (by decide) (by decide) | exact tkn 2 rfl (by decide) (by decide) | exact tkn 3 rfl (by decide) (by decide) | exact tkn 4 rfl (by decide) (by decide) | exact tkn 5 rfl (by decide) (by decide) | exact tkn 6 rfl (by decide) (by decide))
          · split
            · exact (by first | exact tkn 0 rfl (by decide) (by decide) | exact tkn 2 rfl (by decide) (by decide) | exact tkn 3 rfl (by decide) (by decide) | exact tkn 4 rfl (by decide) (by decide) | exact tkn 5 rfl (by decide) (by decide) | exact tkn 6 rfl (by decide) (by decide))
            · simp only
              split
              · exact tk1 rfl (by show ownC (.mk 4 0 _ []) = 0; simp [ownC]) (by show (4 : Int) ≠ 6; decide) (by show (4 : Int) ≠ 7; decide)
              · split
                · exact (by first | exact tkn 0 rfl (by decide) (by decide) | exact tkn 2 rfl (by decide) (by decide) | exact tkn 3 rfl (by decide) (by decide) | exact tkn 4 rfl (by decide) (by decide) | exact tkn 5 rfl (by decide) (by decide) | exact tkn 6 rfl (by decide) (by decide))
                · exact (by first | exact tkn 0 rfl (by decide) (by decide) | exact tkn 2 rfl (by decide) (by decide) | exact tkn 3 rfl (by decide) (by decide) | exact tkn 4 rfl (by decide) (by decide) | exact tkn 5 rfl (by decide) (by decide) | exact tkn 6 rfl (by decide) (by decide))
        · rename_i q3
          rw [if_neg q3] at h
          split
          · split
            · exact (by first | exact tkn 0 rfl (by decide) (by decide) | exact tkn 2 rfl (by decide) (by decide) | exact tkn 3 rfl (by decide) (by decide) | exact tkn 4 rfl (by decide) (by decide) | exact tkn 5 rfl (by decide) (by decide) | exact tkn 6 rfl (by decide) (by decide))
            · split
              · exact (by first | exact tkn 0 rfl (by decide) (by decide) | exact tkn 2 rfl (by decide) (by decide) | exact tkn 3 rfl (by decide) (by decide) | exact tkn 4 rfl (by decide) (by decide) | exact tkn 5 rfl (by decide) (by decide) | exact tkn 6 rfl (by decide) (by decide))
              · exact (by first | exact tkn 0 rfl (by decide) (by decide) | exact tkn 2 rfl (by decide) (by decide) | exact tkn 3 rfl (by decide) (by decide) | exact tkn 4 rfl (by decide) (by decide) | exact tkn 5 rfl (by decide) (by decide) | exact tkn 6 rfl (by decide) (by decide))
          · rename_i q4
            rw [if_neg q4] at h
            split
            · split
              · exact (by first | exact tkn 0 rfl (by decide) (by decide) | exact tkn 2 rfl (by decide) (by decide) | exact tkn 3 rfl (by decide) (by decide) | exact tkn 4 rfl (by decide) (by decide) | exact tkn 5 rfl (by decide) (by decide) | exact tkn 6 rfl (by decide) (by decide))
              · exact tk1 rfl (by show ownC (.mk 4 0 _ []) = 0; simp [ownC]) (by show (4 : Int) ≠ 6; decide) (by show (4 : Int) ≠ 7; decide)
            · rename_i q5
              rw [if_neg q5] at h
              split
              · simp only
                split
                · exact (by first | exact tkn 0 rfl (by decide) (by decide) | exact tkn 2 rfl (by decide) (by decide) | exact tkn 3 rfl (by decide) (by decide) | exact tkn 4 rfl (by decide) (by decide) | exact tkn 5 rfl (by decide) (by decide) | exact tkn 6 rfl (by decide) (by decide))
                · split
                  · exact (by first | exact tkn 0 rfl (by decide) (by decide) | exact tkn 2 rfl (by decide) (by decide) | exact tkn 3 rfl (by decide) (by decide) | exact tkn 4 rfl (by decide) (by decide) | exact tkn 5 rfl (by decide) (by decide) | exact tkn 6 rfl (by decide) (by decide))
                  · rename_i o ho
                    have hn := nameV_ok ho
                    exact tk1 rfl (by show ownC (.mk 5 0 o []) = 0; simp only [ownC]; simp [hn]) (by show (5 : Int) ≠ 6; decide) (by show (5 : Int) ≠ 7; decide)
              · exact (by first | exact tkn 0 rfl (by decide) (by decide) | exact tkn 2 rfl (by decide) (by decide) | exact tkn 3 rfl (by decide) (by decide) | exact tkn 4 rfl (by decide) (by decide) | exact tkn 5 rfl (by decide) (by decide) | exact tkn 6 rfl (by decide) (by decide))
theorem nextV_ok {bs : List UInt8} {k : Int} (last : Bool) (h : 0 ≤ k) (h2 : k ≤ bs.length) : tkOk (nextV bs k last).1 := by
  rw [nextV_in last h h2]
  cases hd : bs.drop (skipV bs k) with
  | nil => rw [nextF_nil last hd]; exact (by first | exact tkn 0 rfl (by decide) (by decide) | exact tkn 2 rfl (by decide) (by decide) | exact tkn 3 rfl (by decide) (by decide) | exact tkn 4 rfl (by decide) (by decide) | exact tkn 5 rfl (by decide) (by decide) | exact tkn 6 rfl (by decide) (by decide))
  | cons c t =>
    rw [nextF_cons last hd]
    split
    · rename_i h0; exact tokV_ok last c t h0
    · exact (by first | exact tkn 0 rfl (by decide) (by decide) | exact tkn 2 rfl (by decide) (by decide) | exact tkn 3 rfl (by decide) (by decide) | exact tkn 4 rfl (by decide) (by decide) | exact tkn 5 rfl (by decide) (by decide) | exact tkn 6 rfl (by decide) (by decide))
theorem nextV_far {bs : List UInt8} {k : Int} {last : Bool} (h : 0 ≤ k) (h2 : k ≤ bs.length) (he : (nextV bs k last).2.2.2 = 0) (hk : (nextV bs k last).1.kind ≠ 0) : k < (nextV bs k last).2.2.1 := by
  have := (nextV_places last h h2).2.2 he hk
  omega
theorem refV_ok {bs : List UInt8} {last : Bool} {k : Int} (h : 0 ≤ k) (h2 : k ≤ bs.length) {v : PV} (hv : ownC v = 0) (hk : v.kind ≠ 6 ∧ v.kind ≠ 7) (he : (refV bs last k v).2.2 = 0) :
    ownC (refV bs last k v).1 = 0 ∧ (refV bs last k v).1.kind ≠ 6 ∧ (refV bs last k v).1.kind ≠ 7 ∧ k ≤ (refV bs last k v).2.1 ∧ (refV bs last k v).2.1 ≤ bs.length := by
  obtain ⟨g1, g2⟩ := nextV_to last h h2
  unfold refV at he ⊢
  simp only at he ⊢
  split
  · exact ⟨hv, hk.1, hk.2, Int.le_refl _, h2⟩
  · rename_i q1
    simp only [if_neg q1] at he
    obtain ⟨r1, r2⟩ := nextV_to (bs := bs) (k := (nextV bs k last).2.2.1) last (by omega) g2
    split
    · exact ⟨hv, hk.1, hk.2, Int.le_refl _, h2⟩
    · rename_i q2
      simp only [if_neg q2] at he
      split
      · rename_i q3; rw [if_pos q3] at he; cases he
      · rename_i q3
        refine ⟨?_, by show (8 : Int) ≠ 6; decide, by show (8 : Int) ≠ 7; decide, Int.le_trans g1 r1, r2⟩
        exact own_ref (by omega) (by omega)
theorem singleV_ok {bs : List UInt8} {last : Bool} {st : List Lv} {k : Int} (h : 0 ≤ k) (h2 : k ≤ bs.length) {t : Tk} (ht : tkOk t) (hk : t.kind = 1 ∨ t.kind = 6) (he : (singleV bs last st k t).2.2 = 0) :
    firstC (singleV bs last st k t).1 = 0 ∧ depthV (singleV bs last st k t).1 = 1 ∧ (topW st = true → (singleV bs last st k t).1.kind = 5) ∧ k ≤ (singleV bs last st k t).2.1 ∧ (singleV bs last st k t).2.1 ≤ bs.length := by
  unfold singleV at he ⊢
  split
  · rename_i q; rw [if_pos q] at he; cases he
  · rename_i q
    rw [if_neg q] at he
    split
    · rename_i q6
      rw [if_pos q6] at he
      have hw : ¬ topW st = true := fun e => q ⟨e, .inl (by rw [q6]; decide)⟩
      cases hwd : wordV t.s with
      | none => rw [hwd] at he; cases he
      | some v =>
        obtain ⟨z1, z2⟩ := word_ok hwd
        exact ⟨z1, z2, fun e => absurd e hw, Int.le_refl _, h2⟩
    · rename_i q6
      rw [if_neg q6] at he
      have h1 : t.kind = 1 := hk.resolve_right q6
      obtain ⟨o1, o2, o3⟩ := ht.2.2 h1
      split
      · rename_i qw
        rw [if_pos qw] at he
        obtain ⟨r1, r2, r3, r4, r5⟩ := refV_ok (last := last) h h2 o1 ⟨o2, o3⟩ he
        have hw : ¬ topW st = true := fun e => q ⟨e, .inr (by
          unfold wholeV at qw
          simp only [Bool.and_eq_true, beq_iff_eq] at qw
          rw [qw.2]; decide)⟩
        exact ⟨first_own r1 r2 r3, tk_depth r2 r3, fun e => absurd e hw, r4, r5⟩
      · refine ⟨first_own o1 o2 o3, tk_depth o2 o3, fun e => ?_, Int.le_refl _, h2⟩
        exact Decidable.byContradiction fun hn => q ⟨e, .inr hn⟩
theorem lv_snoc {d : Nat} {v : Lv} {x : PV} (h : lvOk d v) (hx : firstC x = 0 ∧ depthV x + d ≤ 64) (hw : wantsV v = true → x.kind = 5) : lvOk d { v with l := v.l ++ [x] } := by
  refine ⟨fun y hy => ?_, fun hd => evenN_snoc _ _ (h.2 hd) fun h2 => hw (by unfold wantsV; rw [show v.dict = true from hd]; simp [h2])⟩
  rcases List.mem_append.1 hy with hy | hy
  · exact h.1 y hy
  · rw [List.mem_singleton.1 hy]; exact hx
theorem end_ok {st : List Lv} {dict : Bool} (h : stOk st) (he : (endV12 st dict).2.2 = 0) :
    ∃ v rest, st = v :: rest ∧ (endV12 st dict).2.1 = rest ∧ stOk rest ∧ firstC (endV12 st dict).1 = 0 ∧ depthV (endV12 st dict).1 + rest.length ≤ 64 ∧ topW rest = false := by
  cases st with
  | nil => cases he
  | cons v rest =>
    obtain ⟨h1, h2, hw0, h3⟩ := h
    have hd : ∀ l : List PV, (∀ x ∈ l, x ∈ v.l) → 1 + depthL l + rest.length ≤ 64 := fun l hl => by
      have := depthL_mem (n := 63 - rest.length) l fun x hx => by have := (h1.1 x (hl x hx)).2; omega
      omega
    refine ⟨v, rest, rfl, ?_⟩
    unfold endV12 at he ⊢
    simp only at he ⊢
    by_cases q1 : v.dict ≠ dict ∨ (dict = true ∧ wantsV v = false)
    · rw [if_pos q1] at he; cases he
    · rw [if_neg q1] at he ⊢
      by_cases q2 : dict = false
      · rw [if_pos q2]
        refine ⟨rfl, h3, ?_, ?_, hw0⟩
        · simp only [firstC]
          rw [if_neg (by simp [ownC]), if_pos (by simp)]
          exact firstL_mem _ fun x hx => (h1.1 x hx).1
        · simp only [depthV]
          rw [if_pos (by simp)]
          exact hd v.l fun _ h => h
      · rw [if_neg q2] at he ⊢
        have hdt : dict = true := by cases dict; exact absurd rfl q2; rfl
        have hvd : v.dict = true := Decidable.byContradiction fun hn => q1 (.inl (by rw [hdt]; exact hn))
        have hw : wantsV v = true := Decidable.byContradiction fun hn => q1 (.inr ⟨hdt, by simpa using hn⟩)
        have hev : v.l.length % 2 = 0 := by
          unfold wantsV at hw
          simp only [Bool.and_eq_true, beq_iff_eq] at hw
          exact hw.2
        cases hp : pairsV v.l with
        | none => rw [hp] at he; cases he
        | some l2 =>
          obtain ⟨p1, p2, p3, p4⟩ := pairs_ok hev (h1.2 hvd) hp
          refine ⟨rfl, h3, ?_, ?_, hw0⟩
          · simp only [firstC]
            rw [if_neg (by simp [ownC, p1, p2, p3]), if_pos (by simp)]
            exact firstL_mem _ fun x hx => (h1.1 x (p4 x hx)).1
          · simp only [depthV]
            rw [if_pos (by simp)]
            exact hd l2 p4
theorem valO_may {bs : List UInt8} {last : Bool} : ∀ (g : Nat) (st : List Lv) (k : Int) (V : PV × Int × Int), 0 ≤ k → k ≤ bs.length → stOk st → valO bs last g st k = some V →
    (V.2.2 = 0 → firstC V.1 = 0 ∧ depthV V.1 ≤ 64 ∧ k < V.2.1 ∧ V.2.1 ≤ bs.length) ∧ (V.2.2 ≠ 0 → V.1 = PV.none ∧ V.2.1 = 0)
  | 0, _, _, _, _, _, _, hV => by cases hV
  | g + 1, st, k, V, h, h2, hs, hV => by
    unfold valO at hV
    simp only at hV
    by_cases he : (nextV bs k last).2.2.2 ≠ 0
    · rw [if_pos he] at hV
      cases hV
      exact ⟨fun e => absurd e he, fun _ => ⟨rfl, rfl⟩⟩
    · rw [if_neg he] at hV
      have he0 : (nextV bs k last).2.2.2 = 0 := by simpa using he
      obtain ⟨g1, g2⟩ := nextV_to last h h2
      have hok := nextV_ok last h h2
      have hfar := nextV_far h h2 he0
      generalize (nextV bs k last).2.2.1 = to at *
      generalize (nextV bs k last).1 = t at *
      have key : ∀ v st2 at2 e2, stepV bs last st to t = (v, st2, at2, e2) → e2 = 0 → t.kind ≠ 0 ∧ to ≤ at2 ∧ at2 ≤ bs.length ∧ stOk st2 ∧ (∀ x, v = some x → firstC x = 0 ∧ depthV x + st2.length ≤ 64 ∧ (topW st2 = true → x.kind = 5)) := by
        intro v st2 at2 e2 hq e20
        subst e20
        unfold stepV at hq
        by_cases k0 : t.kind = 0
        · rw [if_pos k0] at hq; cases hq
        · rw [if_neg k0] at hq
          refine ⟨k0, ?_⟩
          by_cases k24 : t.kind = 2 ∨ t.kind = 4
          · rw [if_pos k24] at hq
            simp only [Prod.mk.injEq] at hq
            obtain ⟨rfl, q2, rfl, q4⟩ := hq
            refine ⟨Int.le_refl _, g2, ?_, fun x hx => by cases hx⟩
            unfold beginV at q2 q4
            by_cases b1 : topW st = true
            · rw [if_pos b1] at q4; cases q4
            · rw [if_neg b1] at q2 q4
              by_cases b2 : 64 ≤ st.length
              · rw [if_pos b2] at q4; cases q4
              · rw [if_neg b2] at q2
                rw [← q2]
                exact ⟨⟨fun x hx => (by cases hx), fun _ => rfl⟩, by omega, by simpa using b1, hs⟩
          · rw [if_neg k24] at hq
            by_cases k35 : t.kind = 3 ∨ t.kind = 5
            · rw [if_pos k35] at hq
              simp only at hq
              by_cases b1 : (endV12 st (t.kind == 5)).2.2 = 0
              · rw [if_pos b1] at hq
                simp only [Prod.mk.injEq] at hq
                obtain ⟨rfl, rfl, rfl, -⟩ := hq
                obtain ⟨v0, rest, e1, e2, e3, e4, e5, e6⟩ := end_ok hs b1
                refine ⟨Int.le_refl _, g2, by rw [e2]; exact e3, fun x hx => ?_⟩
                cases hx
                rw [e2]
                exact ⟨e4, e5, fun hw => by rw [e6] at hw; cases hw⟩
              · rw [if_neg b1] at hq
                simp only [Prod.mk.injEq] at hq
                exact absurd hq.2.2.2 b1
            · rw [if_neg k35] at hq
              simp only at hq
              have hk16 : t.kind = 1 ∨ t.kind = 6 := by have := hok.1; have := hok.2.1; omega
              by_cases b1 : (singleV bs last st to t).2.2 ≠ 0
              · rw [if_pos b1] at hq
                simp only [Prod.mk.injEq] at hq
                exact absurd hq.2.2.2 b1
              · rw [if_neg b1] at hq
                by_cases b2 : 64 ≤ st.length
                · rw [if_pos b2] at hq
                  simp only [Prod.mk.injEq] at hq
                  exact absurd hq.2.2.2 (by decide)
                · rw [if_neg b2] at hq
                  simp only [Prod.mk.injEq] at hq
                  obtain ⟨rfl, rfl, rfl, -⟩ := hq
                  obtain ⟨s1, s2, s3, s4, s5⟩ := singleV_ok (last := last) (st := st) (by omega) g2 hok hk16 (by simpa using b1)
                  exact ⟨s4, s5, hs, fun x hx => by cases hx; exact ⟨s1, by omega, s3⟩⟩
      generalize hZ : stepV bs last st to t = Z at hV key
      obtain ⟨v, st2, at2, e2⟩ := Z
      simp only at hV
      by_cases h0 : e2 ≠ 0
      · rw [if_pos h0] at hV
        cases hV
        exact ⟨fun e => absurd e h0, fun _ => ⟨rfl, rfl⟩⟩
      · rw [if_neg h0] at hV
        obtain ⟨k1, k2, k3, k4, k5⟩ := key v st2 at2 e2 rfl (by simpa using h0)
        have hkt := hfar k1
        have hrec : ∀ st3, stOk st3 → valO bs last g st3 at2 = some V → (V.2.2 = 0 → firstC V.1 = 0 ∧ depthV V.1 ≤ 64 ∧ k < V.2.1 ∧ V.2.1 ≤ bs.length) ∧ (V.2.2 ≠ 0 → V.1 = PV.none ∧ V.2.1 = 0) := fun st3 hs3 hv3 => by
          obtain ⟨p1, p2⟩ := valO_may g st3 at2 V (by omega) k3 hs3 hv3
          exact ⟨fun e => by obtain ⟨z1, z2, z3, z4⟩ := p1 e; exact ⟨z1, z2, by omega, z4⟩, p2⟩
        cases v with
        | none => exact hrec st2 k4 hV
        | some x =>
          obtain ⟨x1, x2, x3⟩ := k5 x rfl
          cases st2 with
          | nil =>
            cases hV
            exact ⟨fun _ => ⟨x1, by simpa using x2, by show k < at2; omega, k3⟩, fun e => absurd rfl e⟩
          | cons top rest =>
            obtain ⟨z1, z2, zw, z3⟩ := k4
            exact hrec ({ top with l := top.l ++ [x] } :: rest) (show lvOk _ _ ∧ _ ∧ _ ∧ _ from ⟨lv_snoc z1 ⟨x1, by simp only [List.length_cons] at x2; omega⟩ (fun hw => x3 hw), z2, zw, z3⟩) hV
theorem refV_at {bs : List UInt8} {last : Bool} {k : Int} (h : 0 ≤ k) (h2 : k ≤ bs.length) (v : PV) : k ≤ (refV bs last k v).2.1 ∧ (refV bs last k v).2.1 ≤ bs.length := by
  obtain ⟨g1, g2⟩ := nextV_to last h h2
  unfold refV
  simp only
  split
  · exact ⟨Int.le_refl _, h2⟩
  · obtain ⟨r1, r2⟩ := nextV_to (bs := bs) (k := (nextV bs k last).2.2.1) last (by omega) g2
    split
    · exact ⟨Int.le_refl _, h2⟩
    · split
      · exact ⟨Int.le_refl _, h2⟩
      · exact ⟨Int.le_trans g1 r1, r2⟩
theorem singleV_at {bs : List UInt8} {last : Bool} {k : Int} (h : 0 ≤ k) (h2 : k ≤ bs.length) (st : List Lv) (t : Tk) : k ≤ (singleV bs last st k t).2.1 ∧ (singleV bs last st k t).2.1 ≤ bs.length := by
  unfold singleV
  split
  · exact ⟨Int.le_refl _, h2⟩
  · split
    · split
      · exact ⟨Int.le_refl _, h2⟩
      · exact ⟨Int.le_refl _, h2⟩
    · split
      · exact refV_at h h2 _
      · exact ⟨Int.le_refl _, h2⟩
theorem stepV_at {bs : List UInt8} {last : Bool} {k : Int} (h : 0 ≤ k) (h2 : k ≤ bs.length) (st : List Lv) (t : Tk) : k ≤ (stepV bs last st k t).2.2.1 ∧ (stepV bs last st k t).2.2.1 ≤ bs.length := by
  unfold stepV
  split
  · exact ⟨Int.le_refl _, h2⟩
  · split
    · exact ⟨Int.le_refl _, h2⟩
    · split
      · simp only
        split
        · exact ⟨Int.le_refl _, h2⟩
        · exact ⟨Int.le_refl _, h2⟩
      · simp only
        have := singleV_at (last := last) h h2 st t
        split
        · exact this
        · split
          · exact this
          · exact this
theorem stepV_kind {bs : List UInt8} {last : Bool} {k : Int} {st : List Lv} {t : Tk} (h : (stepV bs last st k t).2.2.2 = 0) : t.kind ≠ 0 := by
  intro e
  unfold stepV at h
  rw [if_pos e] at h
  cases h
/-- Rounds enough there are. -/
theorem valO_some (bs : List UInt8) (last : Bool) : ∀ (g : Nat) (st : List Lv) (k : Int), 0 ≤ k → k ≤ bs.length → ((bs.length : Int) - k).toNat < g → ∃ V, valO bs last g st k = some V
  | 0, _, _, _, _, h => by omega
  | g + 1, st, k, h, h2, hg => by
    unfold valO
    simp only
    by_cases he : (nextV bs k last).2.2.2 ≠ 0
    · rw [if_pos he]; exact ⟨_, rfl⟩
    · rw [if_neg he]
      have he0 : (nextV bs k last).2.2.2 = 0 := by simpa using he
      obtain ⟨g1, g2⟩ := nextV_to last h h2
      have hfar := nextV_far h h2 he0
      generalize (nextV bs k last).2.2.1 = to at *
      generalize (nextV bs k last).1 = t at *
      obtain ⟨s1, s2⟩ := stepV_at (bs := bs) (last := last) (k := to) (by omega) g2 st t
      have sk := stepV_kind (bs := bs) (last := last) (k := to) (st := st) (t := t)
      generalize stepV bs last st to t = Z at *
      obtain ⟨v, st2, at2, e2⟩ := Z
      simp only at s1 s2 sk ⊢
      by_cases h0 : e2 ≠ 0
      · rw [if_pos h0]; exact ⟨_, rfl⟩
      · rw [if_neg h0]
        have hk := hfar (sk (by simpa using h0))
        cases v with
        | none => exact valO_some bs last g st2 at2 (by omega) s2 (by omega)
        | some x =>
          cases st2 with
          | nil => exact ⟨_, rfl⟩
          | cons top rest => exact valO_some bs last g _ at2 (by omega) s2 (by omega)
/-- A place that is none. -/
theorem valO_out {bs : List UInt8} {last : Bool} {g : Nat} {st : List Lv} {k : Int} (h : k < 0 ∨ (bs.length : Int) < k) : valO bs last (g + 1) st k = some (PV.none, 0, 2) := by
  unfold valO
  have hn : nextV bs k last = ({ kind := 0 }, 0, 0, 2) := by unfold nextV; rw [if_pos h]
  simp only [hn]
  rw [if_pos (by decide)]
end Go.Proofs.YtnkodejgiabamaaDoor
/-
  Values (trees of four cells) in memory: words that name no function.
-/
namespace Go.Proofs.YtnkodejgiabamaaDoor
open Go.RowKit

/-- The four cells of a value whose last field is sl. -/
def pvC (v : PV) (sl : Value) : List Value := [.int .i64 v.kind, .int .i64 v.n, .string (mkB v.s), sl]
def pvA (v : PV) (sl : Value) : Value := .agg #[.int .i64 v.kind, .int .i64 v.n, .string (mkB v.s), sl]
mutual
/-- sl is the slice of the values in v, in memory that F knows. -/
def IsV (w : World) (F : Nat → Prop) : PV → Value → Prop
  | .mk _ _ _ l, sl => ∃ a cap cs, sl = .slice a l.length cap ∧ Row w 4 a l.length cap cs ∧ (0 < l.length → ∀ x, a = some x → F x.block) ∧ IsVs w F l cs
def IsVs (w : World) (F : Nat → Prop) : List PV → List Value → Prop
  | [], cs => cs = []
  | v :: l, cs => ∃ sl t, cs = pvC v sl ++ t ∧ IsV w F v sl ∧ IsVs w F l t
end

theorem pv_eta (v : PV) : PV.mk v.kind v.n v.s v.l = v := by cases v; rfl
theorem IsV.mk {w : World} {F : Nat → Prop} {v : PV} {a : Option Addr} {cap : Nat} {cs : List Value} (hr : Row w 4 a v.l.length cap cs) (hF : 0 < v.l.length → ∀ x, a = some x → F x.block) (h : IsVs w F v.l cs) : IsV w F v (.slice a v.l.length cap) := by
  cases v; exact ⟨a, cap, cs, rfl, hr, hF, h⟩
theorem IsV.out {w : World} {F : Nat → Prop} {v : PV} {sl : Value} (h : IsV w F v sl) : ∃ a cap cs, sl = .slice a v.l.length cap ∧ Row w 4 a v.l.length cap cs ∧ (0 < v.l.length → ∀ x, a = some x → F x.block) ∧ IsVs w F v.l cs := by
  cases v; exact h
theorem IsV.leaf (w : World) (F : Nat → Prop) (v : PV) (h : v.l = []) : IsV w F v (.slice none 0 0) := by
  have := IsV.mk (w := w) (F := F) (v := v) (a := none) (cap := 0) (cs := []) (by rw [h]; exact Row.nil w 4) (by rw [h]; intro h; cases h) (by rw [h]; rfl)
  rw [h] at this; exact this
theorem IsVs.length {w : World} {F : Nat → Prop} : ∀ {l : List PV} {cs : List Value}, IsVs w F l cs → cs.length = l.length * 4
  | [], _, h => by cases h; rfl
  | v :: l, _, ⟨sl, t, h, _, ht⟩ => by subst h; have := IsVs.length ht; simp [pvC]; omega

/-- What was there stays, in the blocks that F knows. -/
def Stays (F : Nat → Prop) (w w' : World) : Prop := w.heap.size ≤ w'.heap.size ∧ ∀ b, b < w.heap.size → F b → w'.heap[b]? = w.heap[b]?
theorem Row.stays {F : Nat → Prop} {w w' : World} {sz : Nat} {a : Option Addr} {n cap : Nat} {xs : List Value} (h : Row w sz a n cap xs) (hk : Stays F w w') (hne : 0 < n → ∀ x, a = some x → F x.block) : Row w' sz a n cap xs := by
  obtain ⟨h1, h2, h3, h4, h5⟩ := h
  refine ⟨h1, h2, h3, h4, fun hn => ?_⟩
  obtain ⟨b, off, ha, hlt, hc⟩ := h5 hn
  refine ⟨b, off, ha, Nat.lt_of_lt_of_le hlt hk.1, fun j u hj => ?_⟩
  rw [World.cell?_of_block (w := w) (a := ⟨b, off + j, none⟩) (hk.2 b hlt (hne hn _ ha))]
  exact hc j u hj
mutual
theorem IsV.keep {w w' : World} {F G : Nat → Prop} (hk : Stays F w w') (hG : ∀ b, F b → G b) : ∀ (v : PV) {sl : Value}, IsV w F v sl → IsV w' G v sl
  | .mk _ _ _ l, _, ⟨a, cap, cs, h, hr, hF, hs⟩ => ⟨a, cap, cs, h, hr.stays hk hF, fun h0 x hx => hG _ (hF h0 x hx), IsVs.keep hk hG l hs⟩
theorem IsVs.keep {w w' : World} {F G : Nat → Prop} (hk : Stays F w w') (hG : ∀ b, F b → G b) : ∀ (l : List PV) {cs : List Value}, IsVs w F l cs → IsVs w' G l cs
  | [], _, h => h
  | v :: l, _, ⟨sl, t, h, hv, ht⟩ => ⟨sl, t, h, IsV.keep hk hG v hv, IsVs.keep hk hG l ht⟩
end
theorem Stays.refl (F : Nat → Prop) (w : World) : Stays F w w := ⟨Nat.le_refl _, fun _ _ _ => rfl⟩
theorem Stays.of_below {F : Nat → Prop} {w w' : World} (h : Below w.heap.size w w') : Stays F w w' := ⟨h.size, fun b hb _ => h.block b hb⟩
theorem Stays.of_keeps {F S : Nat → Prop} {w w' : World} (h : Keeps S w w') (hn : ∀ b, F b → ¬ S b) : Stays F w w' := ⟨h.size, fun b hb hF => h.block b hb (hn b hF)⟩
theorem Stays.trans {F : Nat → Prop} {a b c : World} (h : Stays F a b) (k : Stays F b c) : Stays F a c := ⟨Nat.le_trans h.1 k.1, fun x hx hF => (k.2 x (Nat.lt_of_lt_of_le hx h.1) hF).trans (h.2 x hx hF)⟩
theorem IsV.below {w w' : World} {F : Nat → Prop} {v : PV} {sl : Value} (h : IsV w F v sl) (hb : Below w.heap.size w w') : IsV w' F v sl := IsV.keep (Stays.of_below hb) (fun _ h => h) v h
theorem IsVs.below {w w' : World} {F : Nat → Prop} {l : List PV} {cs : List Value} (h : IsVs w F l cs) (hb : Below w.heap.size w w') : IsVs w' F l cs := IsVs.keep (Stays.of_below hb) (fun _ h => h) l h
theorem IsV.weaken {w : World} {F G : Nat → Prop} {v : PV} {sl : Value} (h : IsV w F v sl) (hG : ∀ b, F b → G b) : IsV w G v sl := IsV.keep (Stays.refl F w) hG v h
theorem IsVs.weaken {w : World} {F G : Nat → Prop} {l : List PV} {cs : List Value} (h : IsVs w F l cs) (hG : ∀ b, F b → G b) : IsVs w G l cs := IsVs.keep (Stays.refl F w) hG l h
theorem IsVs.append {w : World} {F : Nat → Prop} : ∀ {l m : List PV} {cs ds : List Value}, IsVs w F l cs → IsVs w F m ds → IsVs w F (l ++ m) (cs ++ ds)
  | [], _, _, _, h, hm => by cases h; exact hm
  | v :: l, _, _, _, ⟨sl, t, h, hv, ht⟩, hm => ⟨sl, t ++ _, by subst h; simp, hv, IsVs.append ht hm⟩
theorem IsVs.one {w : World} {F : Nat → Prop} {v : PV} {sl : Value} (h : IsV w F v sl) : IsVs w F [v] (pvC v sl) := ⟨sl, [], by simp, h, rfl⟩
theorem IsVs.snoc {w : World} {F : Nat → Prop} {l : List PV} {cs : List Value} {v : PV} {sl : Value} (h : IsVs w F l cs) (hv : IsV w F v sl) : IsVs w F (l ++ [v]) (cs ++ pvC v sl) := h.append (IsVs.one hv)
/-- One of them. -/
theorem IsVs.get {w : World} {F : Nat → Prop} : ∀ {l : List PV} {cs : List Value}, IsVs w F l cs → ∀ (k : Nat) (v : PV), l[k]? = some v → ∃ sl, IsV w F v sl ∧ cs[k * 4]? = some (.int .i64 v.kind) ∧ cs[k * 4 + 1]? = some (.int .i64 v.n) ∧ cs[k * 4 + 2]? = some (.string (mkB v.s)) ∧ cs[k * 4 + 3]? = some sl
  | [], _, _, _, _, hk => by simp at hk
  | x :: l, _, ⟨sl, t, h, hv, ht⟩, 0, v, hk => by
    simp at hk; subst hk h
    exact ⟨sl, hv, rfl, rfl, rfl, rfl⟩
  | x :: l, _, ⟨sl, t, h, hv, ht⟩, k + 1, v, hk => by
    subst h
    obtain ⟨s2, h1, h2, h3, h4, h5⟩ := ht.get k v (by simpa using hk)
    refine ⟨s2, h1, ?_, ?_, ?_, ?_⟩
    · rw [show (k + 1) * 4 = 4 + k * 4 by omega, List.getElem?_append_right (by simp [pvC])]; simpa [pvC] using h2
    · rw [show (k + 1) * 4 + 1 = 4 + (k * 4 + 1) by omega, List.getElem?_append_right (by simp [pvC])]; simpa [pvC] using h3
    · rw [show (k + 1) * 4 + 2 = 4 + (k * 4 + 2) by omega, List.getElem?_append_right (by simp [pvC])]; simpa [pvC] using h4
    · rw [show (k + 1) * 4 + 3 = 4 + (k * 4 + 3) by omega, List.getElem?_append_right (by simp [pvC])]; simpa [pvC] using h5
/-- The cells of one of them, in memory. -/
theorem IsV.at {w : World} {F : Nat → Prop} {v : PV} {a : Option Addr} {n cap : Nat} (h : IsV w F v (.slice a n cap)) (hn : 0 < n) :
    n = v.l.length ∧ n ≤ cap ∧ cap ≤ maxLen ∧ ∃ b off, a = some ⟨b, off, none⟩ ∧ b < w.heap.size ∧ F b ∧ ∀ k x, v.l[k]? = some x → ∃ sl, IsV w F x sl ∧ w.cell? ⟨b, off + k * 4, none⟩ = some (.int .i64 x.kind) ∧
      w.cell? ⟨b, off + k * 4 + 1, none⟩ = some (.int .i64 x.n) ∧ w.cell? ⟨b, off + k * 4 + 2, none⟩ = some (.string (mkB x.s)) ∧ w.cell? ⟨b, off + k * 4 + 3, none⟩ = some sl := by
  obtain ⟨a', cap', cs, e, hr, hF, hs⟩ := h.out
  simp only [Value.slice.injEq] at e
  obtain ⟨rfl, rfl, rfl⟩ := e
  obtain ⟨b, off, rfl, hb, hc⟩ := hr.2.2.2.2 hn
  refine ⟨rfl, hr.2.1, hr.2.2.1, b, off, rfl, hb, hF hn _ rfl, fun k x hx => ?_⟩
  obtain ⟨sl, h1, h2, h3, h4, h5⟩ := hs.get k x hx
  exact ⟨sl, h1, hc _ _ h2, (Nat.add_assoc off (k * 4) 1).symm ▸ hc _ _ h3, (Nat.add_assoc off (k * 4) 2).symm ▸ hc _ _ h4, (Nat.add_assoc off (k * 4) 3).symm ▸ hc _ _ h5⟩
theorem IsV.len {w : World} {F : Nat → Prop} {v : PV} {sl : Value} (h : IsV w F v sl) : ∃ a cap, sl = .slice a v.l.length cap ∧ v.l.length ≤ cap ∧ cap ≤ maxLen ∧ (a = none → cap = 0) := by
  obtain ⟨a, cap, cs, e, hr, _⟩ := h.out
  exact ⟨a, cap, e, hr.2.1, hr.2.2.1, hr.2.2.2.1⟩
end Go.Proofs.YtnkodejgiabamaaDoor
