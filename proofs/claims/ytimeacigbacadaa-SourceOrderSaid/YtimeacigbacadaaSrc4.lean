/-
  Walks of layer 16: the first place that is not known; the places that are.
-/
import Derived.Test.YtimeacigbacadaaSrc3
import Derived.Deep.RegionHeld3
namespace Go.Proofs.Ytimeacigbacadaa
open Go.RowKit Go.Maps

set_option maxRecDepth 8000 in
set_option maxHeartbeats 4000000 in
theorem first_any {w : World} {U : Nat → Prop} {p tot N : Nat} {T : List (Int × Int)} {C : Nat → UInt8} (h : SrcQ w U p tot N T C) (hT : T.length ≤ 100000) (at_ : Int) :
    Calls Try.prog 22 #[.pointer (some ⟨p, 0, none⟩), .int .i64 at_] w fun e w' => e = .returned (.int .i64 (min (tot : Int) (uptoS T (max 0 at_)))) ∧ Below w.heap.size w w' := by
  have HI := Lib.hid (is_any h)
  obtain ⟨S, v0, mb, nn, f, hs, -⟩ := h
  obtain ⟨-, c1, -, -⟩ := hs.cells
  have HUP := Lib.hid (fun (W : World) (h : Below w.heap.size w W) => upto_any (some ⟨p, 2, none⟩) T (max 0 at_) W (hs.set.toV.mono h) (by omega))
  have hp := hs.set.lt p hs.set.own
  obtain ⟨V, hV⟩ : ∃ V, uptoS T (max 0 at_) = V := ⟨_, rfl⟩
  obtain ⟨m, hm⟩ : ∃ m, max 0 at_ = m := ⟨_, rfl⟩
  rw [hV] at HUP ⊢
  rw [hm] at HUP
  clear hs hV
  go_enter Try.func22, Try.ntmps22
  go_wp2_with (go_at_call 34; refine HI.out.mono ?_; rintro e w' ⟨rfl, rfl⟩)
  go_region_held3 (fun w' => w'.cell? ⟨p, 1, none⟩ = some (.int .i64 tot)) (first | assumption | exact c1 | exact cell?_keep (by assumption) (by assumption))
    ((go_at_call 12; refine (HUP.out _ ?_).mono ?_; exact ((Below.refl _ _).drew); rintro e w3 ⟨rfl, hb3⟩))
  all_goals go_wp2
  all_goals go_ret
  all_goals exact ⟨rfl, (Below.refl _ _).drew.trans hb3⟩

theorem known_any {w : World} {U : Nat → Prop} {p tot N : Nat} {T : List (Int × Int)} {C : Nat → UInt8} (h : SrcQ w U p tot N T C) (hT : T.length ≤ 100000) :
    Calls Try.prog 25 #[.pointer (some ⟨p, 0, none⟩)] w (AllEnd T w) := by
  have HI := Lib.hid (is_any h)
  obtain ⟨S, v0, mb, nn, f, hs, -⟩ := h
  have HA := Lib.hid (all_any (some ⟨p, 2, none⟩) T w hs.set.toV (by omega))
  clear hs
  go_enter Try.func25, Try.ntmps25
  go_wp2_with (go_at_call 34; refine HI.out.mono ?_; rintro e w' ⟨rfl, rfl⟩)
  refine HA.out.mono ?_
  rintro e w1 ⟨v, rfl, hO, hb⟩
  go_wp2
  go_ret
  exact ⟨v, rfl, hO, hb⟩
end Go.Proofs.Ytimeacigbacadaa
