/-
  Go's stable merge in place, at elements of one cell ([]int): the contract.
-/
import Derived.Test.YtlmdgaajkjbpgaaSym4
import Derived.Test.YtlmdgaajkjbpgaaSym5
namespace Go.Proofs.Ytlmdgaajkjbpgaa
open Go.RowKit Go.Sort

theorem merge_all {α : Type} [Inhabited α] (enc : α → Value) (hE : ∀ x, ∃ n, enc x = .int .i64 n) (cf : α → α → Int) (lt : α → α → Bool) (hL : SWO lt) (D : α → Prop) (f : FuncId) (cb : Array Value) (g cap : Nat) (rest : List Value) (n : Nat) (w0 : World)
    (hC : CmpQ Try.prog f cb enc cf D w0 g) (hsz : n < 4611686018427387904) : ∀ N, MergeSaid enc cf lt D f cb g cap rest n w0 N
  | 0 => fun a m b d w h1 h2 h3 h4 h5 h6 => by omega
  | N + 1 => by
    have ih := merge_all enc hE cf lt hL D f cb g cap rest n w0 hC hsz N
    intro a m b d w hN hdn hS hD ham hmb hb h1 h2 hA
    by_cases c1 : m = a + 1
    · subst hdn
      exact sym_left enc hE cf lt hL D f cb g cap a m b rest d w0 w hC hS hD c1 hmb hb hsz h2 hA
    by_cases c2 : b = m + 1
    · subst hdn
      exact sym_right enc hE cf lt hL D f cb g cap a m b rest d w0 w hC hS hD (by omega) c2 hb hsz h1 hA
    obtain ⟨mid, hmid⟩ : ∃ mid, mid = (a + b) / 2 := ⟨_, rfl⟩
    by_cases c3 : mid < m
    · exact sym_hi enc hE cf lt D f cb g cap rest n w0 hC hsz a m b mid (mid + m - b) mid d w hdn hS hD (by omega) (by omega) hb hA hmid c3 rfl rfl
        (sym_fin enc hE cf lt hL D f cb g cap rest n w0 N hsz ih a m b mid (mid + m - b) mid d hN hdn hD hb h1 h2 hA (by omega) (by omega) (by omega) (by omega) (by omega) (by omega) (by omega) (by omega))
    · exact sym_lo enc hE cf lt D f cb g cap rest n w0 hC hsz a m b mid a m d w hdn hS hD (by omega) (by omega) hb hA hmid (by omega) rfl rfl
        (sym_fin enc hE cf lt hL D f cb g cap rest n w0 N hsz ih a m b mid a m d hN hdn hD hb h1 h2 hA (by omega) (by omega) (by omega) (by omega) (by omega) (by omega) (by omega) (by omega))
end Go.Proofs.Ytlmdgaajkjbpgaa
