/-
  Go's stable sort by a comparing function, at fewer than 20 elements of one cell ([]int): one block, by insertion.
-/
import Derived.Test.YtlmdgaajkjbpgaaIns
import Derived.Test.YtlmdgaajkjbpgaaSortP
namespace Go.Proofs.Ytlmdgaajkjbpgaa
open Go.RowKit Go.Sort

theorem stable_small {α : Type} [Inhabited α] (enc : α → Value) (hE : ∀ x, ∃ n, enc x = .int .i64 n) (cf : α → α → Int) (lt2 : α → α → Bool) (hO : SWO lt2) (D : α → Prop) (f : FuncId) (cb : Array Value) (g cap : Nat) (rest : List Value) (d : Array α) (w0 w : World)
    (hC : CmpQ Try.prog f cb enc cf D w0 g) (hS : SB enc w0 g 3 rest d w) (hD : ∀ i, i < d.size → D d[i]!) (hag : ∀ p q, p < q → q < d.size → ltOf cf d[q]! d[p]! = lt2 d[q]! d[p]!) (hsz : d.size < 20) :
    Calls Try.prog 59 #[.slice (some ⟨g, 0, none⟩) d.size cap, .func (.func f) #[] cb] w fun e w' => e = .returned (.tuple #[]) ∧ ∃ R, SB enc w0 g 3 rest R w' ∧ PermIn 0 d.size d R ∧ SortedIn lt2 0 d.size R := by
  have hins := ins_any enc hE cf D f cb g cap 0 d.size rest d w0 w hC hS hD (Nat.zero_le _) (Nat.le_refl _) (by omega)
  have hst := ins_stable (ltOf cf) lt2 hO 0 d.size d (Nat.zero_le _) (Nat.le_refl _) (fun p q _ h1 h2 => hag p q h1 h2)
  have HI := Lib.hid hins
  clear hins hC hS hD hag hO
  have hz : (d.size : Int) < 20 := by omega
  have hi := HI.out
  generalize d.size = n at *
  clear hi
  go_enter Try.func59, Try.ntmps59
  go_wp2_with (first | (go_at_call 69; refine HI.out.mono ?_; rintro e w' ⟨rfl, hS'⟩; have HS := Lib.hid hS'; clear hS') | go_in)
  refine wp_loop_once ?_
  go_wp2_with (first | (go_at_call 69; refine HI.out.mono ?_; rintro e w' ⟨rfl, hS'⟩; have HS := Lib.hid hS'; clear hS') | go_in)
  refine wp_loop_once ?_
  go_wp2
  go_end0
  go_wp2
  go_end0
  exact ⟨rfl, _, HS.out, hst⟩
theorem stable_nil (fv : Value) (w : World) : Calls Try.prog 59 #[.slice none 0 0, fv] w fun e w' => e = .returned (.tuple #[]) ∧ w = w' := by
  go_enter Try.func59, Try.ntmps59
  go_wp2
  refine wp_loop_once ?_
  go_wp2
  refine wp_loop_once ?_
  go_wp2
  go_end0
  go_wp2
  refine wp_loop_once ?_
  go_wp2
  go_end0
  go_wp2
  go_end0
  exact ⟨rfl, rfl⟩
end Go.Proofs.Ytlmdgaajkjbpgaa
