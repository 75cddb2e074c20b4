/-
  Layer 5 in plain words: what is read, step by step.
-/
import Derived.Test.YtlmdgaajkjbpgaaRead
import Derived.Test.YtlmdgaajkjbpgaaApp
namespace Go.Proofs.Ytlmdgaajkjbpgaa
open Go.RowKit

def u8C (b : UInt8) : Value := .int .u8 b.toNat
/-- What a state holds: the bits that were taken, the first error, the bytes that came. -/
structure IS where
  at_ : Nat
  e : Int
  out : List UInt8
def bitF (bs : List UInt8) (at_ : Nat) : Nat → Bool := fun k => bitAt bs false (at_ + k)
def failV (e : Int) (s : IS) : IS := if s.e = 0 then { s with e := e } else s
def numV (bs : List UInt8) (n : Nat) (s : IS) : Nat × IS :=
  if s.e ≠ 0 then (0, s) else if 8 * bs.length < s.at_ + n then (0, { s with e := 10 }) else (getV (bitF bs s.at_) false n n, { s with at_ := s.at_ + n })
def symV5 (bs : List UInt8) (l : List Int) (s : IS) : Nat × IS :=
  if s.e ≠ 0 then (0, s) else ((takeV l (bitF bs s.at_) (8 * bs.length - s.at_)).1, { s with at_ := s.at_ + (takeV l (bitF bs s.at_) (8 * bs.length - s.at_)).2.1, e := (takeV l (bitF bs s.at_) (8 * bs.length - s.at_)).2.2 })
def putV5 (most : Nat) (c : UInt8) (s : IS) : IS := if most ≤ s.out.length then failV 3 s else { s with out := s.out ++ [c] }
/-- Bytes that stand ahead, again. -/
def repL (far : Nat) : Nat → List UInt8 → List UInt8
  | 0, o => o
  | n + 1, o => repL far n (o ++ [o.getD (o.length - far) 0])
def repV (most len far : Nat) (s : IS) : IS :=
  if s.e ≠ 0 then s else if s.out.length < far then failV 14 s else if (most : Int) - s.out.length < len then failV 3 s else { s with out := repL far len s.out }
def lenV5 (x : Int) : Int × Int × Bool := if x < 257 ∨ 285 < x then (0, 0, false) else if x = 285 then (258, 0, true) else if x < 265 then (x - 254, 0, true) else (3 + (4 + (x - 261) % 4) * 2 ^ ((x - 261) / 4).toNat, (x - 261) / 4, true)
def disV (x : Int) : Int × Int × Bool := if x < 0 ∨ 29 < x then (0, 0, false) else if x < 4 then (x + 1, 0, true) else (1 + (2 + x % 2) * 2 ^ ((x - 2) / 2).toNat, (x - 2) / 2, true)
/-- One symbol of a block by codes: 'true': the block goes on. -/
def codeV (bs : List UInt8) (most : Nat) (l d : List Int) (s : IS) : Bool × IS :=
  let q := symV5 bs l s
  if q.2.e ≠ 0 ∨ q.1 = 256 then (false, q.2) else
  if q.1 < 256 then (true, putV5 most (UInt8.ofNat q.1) q.2) else
  let a := lenV5 q.1
  let s1 := if a.2.2 then q.2 else failV 11 q.2
  let n1 := numV bs a.2.1.toNat s1
  let q2 := symV5 bs d n1.2
  let b := disV q2.1
  let s2 := if b.2.2 then q2.2 else failV 11 q2.2
  let n2 := numV bs b.2.1.toNat s2
  (true, repV most (a.1.toNat + n1.1) (b.1.toNat + n2.1) n2.2)
def codedV (bs : List UInt8) (most : Nat) (l d : List Int) : Nat → IS → IS
  | 0, s => s
  | n + 1, s => if (codeV bs most l d s).1 then codedV bs most l d n (codeV bs most l d s).2 else (codeV bs most l d s).2
def fixL : List Int := (List.range 288).map fun k => if k < 144 ∨ 279 < k then 8 else if k < 256 then 9 else 7
def fixD : List Int := (List.range 30).map fun _ => 5
end Go.Proofs.Ytlmdgaajkjbpgaa
