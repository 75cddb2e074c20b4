/-
  Plain half of layer 10: space, delimiters, texts, names, tokens.
-/
import Derived.Test.YtkolfecjlbnfkaaNumP
namespace Go.Proofs.Ytkolfecjlbnfkaa

def isSp (c : UInt8) : Bool := c == 0 || c == 9 || c == 10 || c == 12 || c == 13 || c == 32
def isDl (c : UInt8) : Bool := c == 40 || c == 41 || c == 60 || c == 62 || c == 91 || c == 93 || c == 123 || c == 125 || c == 47 || c == 37
def isRg (c : UInt8) : Bool := !isSp c && !isDl c
def isOc (c : UInt8) : Bool := decide (48 ≤ c.toNat) && decide (c.toNat ≤ 55)
/-- A digit to the base 16; below 0: none. -/
def hexD (c : UInt8) : Int :=
  if 48 ≤ c.toNat ∧ c.toNat ≤ 57 then (c.toNat : Int) - 48 else if 97 ≤ c.toNat ∧ c.toNat ≤ 102 then (c.toNat : Int) - 87 else if 65 ≤ c.toNat ∧ c.toNat ≤ 70 then (c.toNat : Int) - 55 else -1
theorem hexD_bd (c : UInt8) : -1 ≤ hexD c ∧ hexD c ≤ 15 := by
  unfold hexD
  repeat' split
  all_goals omega

/-- How many bytes are space and comments. -/
def skipN : Bool → List UInt8 → Nat
  | _, [] => 0
  | true, c :: l => 1 + skipN (c != 10 && c != 13) l
  | false, c :: l => if c = 37 then 1 + skipN true l else if isSp c = true then 1 + skipN false l else 0
theorem skipN_le : ∀ (b : Bool) (l : List UInt8), skipN b l ≤ l.length
  | _, [] => by simp [skipN]
  | true, c :: l => by have := skipN_le (c != 10 && c != 13) l; simp only [skipN, List.length_cons]; omega
  | false, c :: l => by
    have h1 := skipN_le true l
    have h2 := skipN_le false l
    simp only [skipN, List.length_cons]
    split
    · omega
    · split <;> omega
def skipV (bs : List UInt8) (k : Int) : Nat := if k < 0 then 0 else if (bs.length : Int) ≤ k then bs.length else k.toNat + skipN false (bs.drop k.toNat)
/-- A comment's end is space. -/
theorem skipN_nl {c : UInt8} (l : List UInt8) (h : c = 10 ∨ c = 13) : skipN true (c :: l) = skipN false (c :: l) := by
  rcases h with rfl | rfl <;> simp [skipN, isSp]
theorem skipN_pc (l : List UInt8) : skipN false (37 :: l) = skipN true (37 :: l) := by simp [skipN]

/-- What stands behind a 13 in a text: how many bytes of it go; none: nobody knows. -/
def lineV (last : Bool) : List UInt8 → Option Nat
  | [] => if last then some 0 else none
  | d :: _ => some (if d = 10 then 1 else 0)
/-- One to three digits: a byte, and how many there are. -/
def octV (last : Bool) (c : UInt8) : List UInt8 → Option (Nat × Nat)
  | [] => if last then some (c.toNat - 48, 1) else none
  | d :: t => if isOc d = true then
      (match t with
        | [] => if last then some (8 * (c.toNat - 48) + (d.toNat - 48), 2) else none
        | e :: _ => if isOc e = true then some (8 * (8 * (c.toNat - 48) + (d.toNat - 48)) + (e.toNat - 48), 3) else some (8 * (c.toNat - 48) + (d.toNat - 48), 2))
    else some (c.toNat - 48, 1)
/-- What stands behind a backslash: bytes, and how many go. -/
def escV (last : Bool) : List UInt8 → Option (List UInt8 × Nat)
  | [] => none
  | c :: t =>
    if c = 110 then some ([10], 1) else if c = 114 then some ([13], 1) else if c = 116 then some ([9], 1) else if c = 98 then some ([8], 1) else if c = 102 then some ([12], 1)
    else if isOc c = true then (octV last c t).map fun x => ([UInt8.ofNat x.1], x.2)
    else if c = 10 then some ([], 1)
    else if c = 13 then (lineV last t).map fun k => ([], k + 1)
    else some ([c], 1)
/-- A text in brackets, behind the first: its bytes, and what stands behind it. -/
def textV (last : Bool) (deep : Nat) (out : List UInt8) (l : List UInt8) : Option (List UInt8 × List UInt8) :=
  match l with
  | [] => none
  | c :: t =>
    if c = 92 then (match escV last t with | none => none | some (x, k) => textV last deep (out ++ x) (t.drop k))
    else if c = 13 then (match lineV last t with | none => none | some k => textV last deep (out ++ [10]) (t.drop k))
    else if c = 40 then textV last (deep + 1) (out ++ [c]) t
    else if c = 41 then (if deep = 1 then some (out, t) else textV last (deep - 1) (out ++ [c]) t)
    else textV last deep (out ++ [c]) t
termination_by l.length
decreasing_by all_goals (simp only [List.length_cons, List.length_drop]; omega)
/-- A text in hex, behind the first: 0, its bytes, what stands behind it; 1: it is open; 11: of another form. -/
def hexV (out : List UInt8) (half : Int) : List UInt8 → Int × List UInt8 × List UInt8
  | [] => (1, [], [])
  | c :: t =>
    if c = 62 then (0, if 0 ≤ half then out ++ [UInt8.ofNat (16 * half).toNat] else out, t)
    else if isSp c = true then hexV out half t
    else if hexD c < 0 then (11, [], [])
    else if half < 0 then hexV out (hexD c) t
    else hexV (out ++ [UInt8.ofNat (16 * half + hexD c).toNat]) (-1) t
/-- A name's bytes. -/
def nameGo (out : List UInt8) : List UInt8 → Option (List UInt8)
  | [] => some out
  | c :: t => if c = 35 then
      (match t with
        | x :: y :: u => if hexD x < 0 ∨ hexD y < 0 then none else nameGo (out ++ [UInt8.ofNat (16 * hexD x + hexD y).toNat]) u
        | _ => none)
    else nameGo (out ++ [c]) t
def nameV (w : List UInt8) : Option (List UInt8) := match nameGo [] w with | none => none | some o => if 127 < o.length ∨ (0 : UInt8) ∈ o then none else some o

/-- A token: its kind, its value's kind, number, text, its own text. -/
structure Tk where
  kind : Int
  vk : Int := 0
  vn : Int := 0
  vs : List UInt8 := []
  s : List UInt8 := []
deriving DecidableEq
def openE (last : Bool) : Int := if last then 10 else 6
/-- What begins with a byte: an error, or a token and what stands behind it. -/
def tokV (last : Bool) (c : UInt8) (t : List UInt8) : Int × Tk × List UInt8 :=
  if isRg c = true then
    (let w := (c :: t).takeWhile isRg; let r := (c :: t).dropWhile isRg
     if r = [] ∧ last = false then (6, { kind := 0 }, [])
     else if isDg c = true ∨ c = 43 ∨ c = 45 ∨ c = 46 then ((parseV w).2.2, { kind := 1, vk := (parseV w).1, vn := (parseV w).2.1 }, r)
     else (0, { kind := 6, s := w }, r))
  else if c = 91 then (0, { kind := 2 }, t)
  else if c = 93 then (0, { kind := 3 }, t)
  else if c = 60 then
    (match t with
      | [] => (openE last, { kind := 0 }, [])
      | d :: u => if d = 60 then (0, { kind := 4 }, u) else
        (match hexV [] (-1) (d :: u) with
          | (e, x, r) => if e = 0 then (0, { kind := 1, vk := 4, vs := x }, r) else if e = 1 then (openE last, { kind := 0 }, []) else (11, { kind := 0 }, [])))
  else if c = 62 then
    (match t with
      | [] => (if last then 11 else 6, { kind := 0 }, [])
      | d :: u => if d = 62 then (0, { kind := 5 }, u) else (11, { kind := 0 }, []))
  else if c = 40 then
    (match textV last 1 [] t with
      | none => (openE last, { kind := 0 }, [])
      | some (x, r) => (0, { kind := 1, vk := 4, vs := x }, r))
  else if c = 47 then
    (let w := t.takeWhile isRg; let r := t.dropWhile isRg
     if r = [] ∧ last = false then (6, { kind := 0 }, [])
     else match nameV w with
      | none => (17, { kind := 0 }, [])
      | some o => (0, { kind := 1, vk := 5, vs := o }, r))
  else (11, { kind := 0 }, [])
/-- The token that stands from a place on: the token, from, to, error. -/
def nextV (bs : List UInt8) (k : Int) (last : Bool) : Tk × Int × Int × Int :=
  if k < 0 ∨ (bs.length : Int) < k then ({ kind := 0 }, 0, 0, 2)
  else
    (let f := skipV bs k
     match bs.drop f with
      | [] => ({ kind := 0 }, (f : Int), (f : Int), if last then 0 else 6)
      | c :: t =>
        (match tokV last c t with
          | (e, x, r) => if e = 0 then (x, (f : Int), (bs.length : Int) - (r.length : Int), 0) else ({ kind := 0 }, (f : Int), (f : Int), e)))
end Go.Proofs.Ytkolfecjlbnfkaa
