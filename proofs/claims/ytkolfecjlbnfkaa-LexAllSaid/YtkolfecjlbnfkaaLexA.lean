/-
  The walk of layer 10: a name, of its bytes.
-/
import Derived.Test.YtkolfecjlbnfkaaLex4
import Derived.Test.YtkolfecjlbnfkaaNum4
import Derived.Lib.BytesEntry
import Derived.PlainAid
import Derived.Laws.IdiomStrings
namespace Go.Proofs.Ytkolfecjlbnfkaa
open Go.RowKit

theorem bytesOf_map (o : List UInt8) : Lib.bytesOf (o.map fun b => (b.toNat : Int)) = o := by
  unfold Lib.bytesOf
  rw [List.map_map]
  have : ((fun n : Int => UInt8.ofNat n.toNat) ∘ fun b : UInt8 => (b.toNat : Int)) = id := by funext b; simp
  rw [this, List.map_id]

set_option maxHeartbeats 1000000 in
theorem bidx_any {w : World} {base : Nat} {v : Value} {o : List UInt8} (hr : w.ownsRow base 5 1 v o.length (o.map u8C)) (cv : Int) :
    Calls Try.prog 47 #[v, .int .u8 cv] w fun e w' => e = .returned (.int .i64 (Lib.indexByte o cv.toNat.toUInt8)) ∧ w = w' := by
  have hX : (Extern.BytealgIndexByte.indexByte #[v, .int .u8 cv]).run Try.prog w = .ok (.int .i64 (Lib.indexByte o cv.toNat.toUInt8)) w := by
    rcases hr.2 with ⟨rfl, h0⟩ | ⟨g, cap, cur, rfl, _⟩
    · have ho : o = [] := List.eq_nil_of_length_eq_zero h0
      subst ho
      exact Lib.run_indexByteNil _ _ _ cv
    · have := Lib.run_indexByteSlice (P := Try.prog) (w := w) g 0 o.length cap (o.map fun b => (b.toNat : Int)) (by simp) (fun i hi => by
        have := hr.cells (g := g) rfl i (u8C (o.getD i 0)) (by simp [List.getD, hi])
        rw [Addr.add_lit] at this
        rw [this]; unfold u8C
        simp [List.getD, hi]) cv
      rw [bytesOf_map] at this
      exact this
  obtain ⟨a, cap, hv, -⟩ := Row.of_owns hr
  subst hv
  clear hr
  go_enter Try.func47, Try.ntmps47
  go_wp2
  rw [run_callFunc_extern Try.func57 (by kernel_rfl) (by kernel_rfl) (by kernel_rfl) (e := Extern.BytealgIndexByte.indexByte) (by kernel_rfl), hX]
  simp only [Result.andThen]
  rw [Oper.upon_value]
  go_wp2
  go_ret
  exact ⟨rfl, rfl⟩

def finN : Option (List UInt8) → Option (List UInt8)
  | none => none
  | some o => if 127 < o.length ∨ (0 : UInt8) ∈ o then none else some o
theorem nameV_fin (l : List UInt8) : nameV l = finN (nameGo [] l) := by unfold nameV finN; cases nameGo [] l <;> rfl
theorem nameGo_byte (o : List UInt8) (c : UInt8) (t : List UInt8) (h : c ≠ 35) : nameGo o (c :: t) = nameGo (o ++ [c]) t := by rw [nameGo.eq_def]; simp only; rw [if_neg h]
theorem nameGo_short (o : List UInt8) (t : List UInt8) (h : t.length < 2) : nameGo o (35 :: t) = none := by
  rw [nameGo.eq_def]
  simp only
  rw [if_pos trivial]
  match t, h with
  | [], _ => rfl
  | [_], _ => rfl
theorem nameGo_hex (o : List UInt8) (x y : UInt8) (u : List UInt8) : nameGo o (35 :: x :: y :: u) = if hexD x < 0 ∨ hexD y < 0 then none else nameGo (o ++ [UInt8.ofNat (16 * hexD x + hexD y).toNat]) u := by rw [nameGo.eq_def]; simp only; rw [if_pos trivial]

theorem hexI_bd (x : Int) : -1 ≤ hexI x ∧ hexI x ≤ 15 := by
  unfold hexI
  repeat' split
  all_goals omega
theorem byte_of9 (x : Int) (h0 : 0 ≤ x) (h1 : x ≤ 255) : x = ((UInt8.ofNat x.toNat).toNat : Int) := by rw [UInt8.toNat_ofNat']; omega
theorem idx_mem (o : List UInt8) (c : UInt8) : decide (0 ≤ Lib.indexByte o c) = decide (c ∈ o) := by
  have hg := Lib.indexByte_ge o c
  by_cases h : Lib.indexByte o c = -1
  · rw [h, decide_eq_false (idx_none _ _ h)]; rfl
  · obtain ⟨i, hi⟩ := Int.eq_ofNat_of_zero_le (show 0 ≤ Lib.indexByte o c by omega)
    obtain ⟨a, t, e, -, -⟩ := idx_some _ _ _ hi
    rw [hi, decide_eq_true (by omega), decide_eq_true (by rw [e]; simp)]
/-- What a name leaves. -/
def NameEnd (w : World) (V : Option (List UInt8)) (e : Ending) (w' : World) : Prop :=
  Below w.heap.size w w' ∧ match V with
  | none => e = .returned (.tuple #[.agg (valC 0 0 noStr), .int .i64 17])
  | some o => e = .returned (.tuple #[.agg (valC 5 0 (mkB o)), .int .i64 0])
theorem name_none {w w' : World} {V : Option (List UInt8)} (hV : V = none) (hb : Below w.heap.size w w') : NameEnd w V (.returned (.tuple #[.agg (valC 0 0 noStr), .int .i64 17])) w' := by subst hV; exact ⟨hb, rfl⟩
theorem name_some {w w' : World} {V : Option (List UInt8)} {o : List UInt8} (hV : V = some o) (hb : Below w.heap.size w w') : NameEnd w V (.returned (.tuple #[.agg (valC 5 0 (mkB o)), .int .i64 0])) w' := by subst hV; exact ⟨hb, rfl⟩
theorem conv_own {w : World} {base : Nat} {v : Value} {o : List UInt8} (hr : w.ownsRow base 5 1 v o.length (o.map u8C)) : (convert 22 9 v).run Try.prog w = .ok (.string (mkB o)) w := by
  rcases hr.2 with ⟨rfl, h0⟩ | ⟨g, cap, cur, rfl, _⟩
  · have ho : o = [] := List.eq_nil_of_length_eq_zero h0
    subst ho
    rw [run_convert_bytes_string w 22 9 5 none 0 0 Try.underlying22 Try.underlying5 Try.underlying9]
    rfl
  · refine run_convert_bytes_back (P := Try.prog) w 22 9 5 ⟨g, 0, none⟩ cap o Try.underlying22 Try.underlying5 Try.underlying9 (fun j hj => ?_)
    exact hr.cells (g := g) rfl j (u8C o[j]) (by simp [hj])

set_option maxRecDepth 8000 in
set_option maxHeartbeats 8000000 in
theorem name_any (s : ByteArray) (w : World) (hs : s.size ≤ 100000) :
    Calls Try.prog 33 #[.string s] w (NameEnd w (nameV (bl s))) := by
  obtain ⟨V, hV⟩ : ∃ V, V = nameV (bl s) := ⟨_, rfl⟩
  rw [← hV]
  rw [nameV_fin] at hV
  have HV := Lib.hid hV
  obtain ⟨r, hr⟩ : ∃ r, r = w.heap.size := ⟨_, rfl⟩
  have HBX := Lib.hid (show (w.alloc (.cells #[.int .i64 0, .int .i64 0, .string ⟨#[]⟩, .slice none 0 0] 26)).heap[r]? = some (.cells #[.int .i64 0, .int .i64 0, .string ⟨#[]⟩, .slice none 0 0] 26 (0, 0)) from heapA_new _ hr)
  have HB0 := Lib.hid (belowA w (.cells #[.int .i64 0, .int .i64 0, .string ⟨#[]⟩, .slice none 0 0] 26))
  have HRR := Lib.hid hr
  have hgb := PlainAid.get_bt s
  have HOK := Lib.hid (show ∀ i (h : i < s.size), (bl s).drop i = s[i] :: (bl s).drop (i + 1) from fun i h => bl_drop s i h)
  clear hV hr
  go_enter Try.func33, Try.ntmps33
  go_wp2
  rw [← HRR.out]
  generalize w.alloc (.cells #[.int .i64 0, .int .i64 0, .string ⟨#[]⟩, .slice none 0 0] 26) = W0 at *
  have hr0 := (Array.getElem?_eq_some_iff.1 HBX.out).1
  go_loopw [4, 5] (fun v i wr => ∃ (k : Nat) (o : List UInt8), k ≤ s.size ∧ i = .int .i64 k ∧ o.length ≤ k ∧ Hid (wr.ownsRow W0.heap.size 5 1 v o.length (o.map u8C)) ∧ Hid (Below W0.heap.size W0 wr) ∧ Hid (V = finN (nameGo o ((bl s).drop k)))) (fun _ i _ => s.size - (intOf i).toNat)
  case atStart => exact ⟨0, [], by omega, rfl, by simp, Lib.hid (World.ownsRow_nil _ _ _ _), Lib.hid (Below.refl _ _), HV⟩
  case round =>
    obtain ⟨k, o, hk, rfl, hok, HO, HB, HG⟩ := hrel
    have HBR := Lib.hid (block_keep HB.out HBX.out)
    have HBW := Lib.hid (HB0.out.trans (HB.out.mono HB0.out.size))
    have hsz := HB.out.size
    by_cases hlt : k < s.size
    · have hx : (s[k].toNat : Int) = PlainAid.bt s k := hgb k hlt
      have hg := HG.out
      rw [HOK.out k hlt] at hg
      have HX := Lib.hid hx
      clear hx
      by_cases h35 : PlainAid.bt s k = 35
      · have h35d : (PlainAid.bt s k == 35) = true := by rw [beq_iff_eq]; exact h35
        rw [show s[k] = 35 from UInt8.toNat_inj.1 (Int.ofNat_inj.1 (HX.out.trans h35))] at hg
        clear h35
        by_cases h2 : s.size ≤ k + 2
        · have HNONE := Lib.hid (show V = none by rw [hg, nameGo_short _ _ (by rw [List.length_drop, bl_len]; omega)]; rfl)
          have h2d : decide ((s.size : Int) ≤ (k : Int) + 2) = true := by simp; omega
          clear hg
          obtain ⟨⟨k0, k1, k2, k3⟩, f0, f1, f2, f3⟩ := cells4 HBR.out
          go_wp2
          refine bodyPost_ret (results_val rfl _ _ r 26 _ (0, 0) _ rfl (set4 HBR.out _ _ _ _) Try.underlying26 rfl infoVal _ rfl) rfl ?_
          exact name_none HNONE.out (below_set4 HBW.out (by have := HRR.out; omega) _ _ _ _)
        · have h2d : decide ((s.size : Int) ≤ (k : Int) + 2) = false := by simp; omega
          have h1' : k + 1 < s.size := by omega
          have h2' : k + 2 < s.size := by omega
          rw [HOK.out (k + 1) h1', HOK.out (k + 1 + 1) h2', nameGo_hex, hexI_eq, hexI_eq, hgb (k + 1) h1', show ((s[k + 1 + 1].toNat : Nat) : Int) = PlainAid.bt s (k + 2) from hgb (k + 2) h2'] at hg
          have hA := hexI_bd (PlainAid.bt s (k + 1))
          have hB := hexI_bd (PlainAid.bt s (k + 2))
          have HCA := Lib.hid (fun W => hx_46 (PlainAid.bt s (k + 1)) W (PlainAid.bt_nonneg _ _) (PlainAid.bt_le _ _))
          have HCB := Lib.hid (fun W => hx_46 (PlainAid.bt s (k + 2)) W (PlainAid.bt_nonneg _ _) (PlainAid.bt_le _ _))
          generalize hexI (PlainAid.bt s (k + 1)) = A at *
          generalize hexI (PlainAid.bt s (k + 2)) = B at *
          by_cases hAn : A < 0
          · have HNONE := Lib.hid (show V = none by rw [hg, if_pos (.inl hAn)]; rfl)
            clear hg
            obtain ⟨⟨k0, k1, k2, k3⟩, f0, f1, f2, f3⟩ := cells4 HBR.out
            go_wp2_with fail
            refine (HCA.out _).mono ?_
            rintro e w9 ⟨rfl, rfl⟩
            go_wp2
            refine bodyPost_ret (results_val rfl _ _ r 26 _ (0, 0) _ rfl (set4 HBR.out _ _ _ _) Try.underlying26 rfl infoVal _ rfl) rfl ?_
            exact name_none HNONE.out (below_set4 HBW.out (by have := HRR.out; omega) _ _ _ _)
          · have hAd : decide (A < 0) = false := by simpa using hAn
            by_cases hBn : B < 0
            · have HNONE := Lib.hid (show V = none by rw [hg, if_pos (.inr hBn)]; rfl)
              clear hg hAn
              obtain ⟨⟨k0, k1, k2, k3⟩, f0, f1, f2, f3⟩ := cells4 HBR.out
              go_wp2_with fail
              refine (HCA.out _).mono ?_
              rintro e w9 ⟨rfl, rfl⟩
              go_wp2_with fail
              refine (HCB.out _).mono ?_
              rintro e w9 ⟨rfl, rfl⟩
              go_wp2
              refine bodyPost_ret (results_val rfl _ _ r 26 _ (0, 0) _ rfl (set4 HBR.out _ _ _ _) Try.underlying26 rfl infoVal _ rfl) rfl ?_
              exact name_none HNONE.out (below_set4 HBW.out (by have := HRR.out; omega) _ _ _ _)
            · have hBd : decide (B < 0) = false := by simpa using hBn
              rw [if_neg (by rintro (h | h) <;> contradiction)] at hg
              have HG2 := Lib.hid hg
              have HBY := Lib.hid (byte_of9 (16 * A + B) (by omega) (by omega))
              have hA0 : 0 ≤ A := by omega
              have hB0 : 0 ≤ B := by omega
              obtain ⟨hA1, hA2⟩ := hA
              obtain ⟨hB1, hB2⟩ := hB
              clear hg hAn hBn
              go_wp2_with fail
              refine (HCA.out _).mono ?_
              rintro e w9 ⟨rfl, rfl⟩
              go_wp2_with fail
              refine (HCB.out _).mono ?_
              rintro e w9 ⟨rfl, rfl⟩
              go_wp2
              go_quiet ((first | (go_at_call 46; with_reducible exact (HCA.out _).mono fun _ _ ⟨he, hm⟩ => ⟨he, _, hm.symm⟩) | (go_at_call 46; with_reducible exact (HCB.out _).mono fun _ _ ⟨he, hm⟩ => ⟨he, _, hm.symm⟩)))
              have HO9 := Lib.hid (ownsRow_keep HO.out (below_drewN (Below.refl _ _) nq))
              have HB9 := Lib.hid (below_drewN HB.out nq)
              have hsz9 := HB9.out.size
              generalize wr.drewN nq = w3 at *
              go_wp2_with (at_builtin; refine append_row EByte rfl (.tmp 55) (.tmp 57) rfl W0.heap.size _ o.length _ rfl (HO9.out.alloc _) _ 1 _ _ rfl (row_new1 _ _ _) (one_mem rfl) (by unfold maxLen; omega) (by omega) (by rw [sizeA]; omega) ?_; intro v' w5 hO5 hg5 hnil5; have HO5 := Lib.hid hO5; have HG5 := Lib.hid hg5; clear hO5 hg5 hnil5)
              go_roundw
              case rel =>
                refine ⟨k + 3, o ++ [UInt8.ofNat (16 * A + B).toNat], by omega, by go_num, by simp; omega, Lib.hid ?_, Lib.hid ?_, Lib.hid HG2.out⟩
                · have := HO5.out
                  rw [HBY.out] at this
                  simpa [u8C] using this
                · exact (HB9.out.alloc hsz9 _).grown HG5.out (by rw [sizeA]; omega) (fun q hq => (HO9.out.lt q hq).1)
              case measure => simp [intOf]; omega
      · have h35d : (PlainAid.bt s k == 35) = false := by rw [beq_eq_false_iff_ne]; exact h35
        rw [nameGo_byte _ _ _ (fun e => h35 (by rw [← HX.out, e]; rfl))] at hg
        have HG2 := Lib.hid hg
        clear hg h35
        go_wp2_with (at_builtin; refine append_row EByte rfl (.tmp 55) (.tmp 57) rfl W0.heap.size _ o.length _ rfl (HO.out.alloc _) _ 1 _ _ rfl (row_new1 _ _ _) (one_mem rfl) (by unfold maxLen; omega) (by omega) (by rw [sizeA]; omega) ?_; intro v' w5 hO5 hg5 hnil5; have HO5 := Lib.hid hO5; have HG5 := Lib.hid hg5; clear hO5 hg5 hnil5)
        go_roundw
        case rel =>
          refine ⟨k + 1, o ++ [s[k]], by omega, by go_num, by simp; omega, Lib.hid ?_, Lib.hid ?_, HG2⟩
          · have := HO5.out
            rw [← HX.out] at this
            simpa [u8C] using this
          · exact (HB.out.alloc (by omega) _).grown HG5.out (by rw [sizeA]; omega) (fun q hq => (HO.out.lt q hq).1)
        case measure => simp [intOf]; omega
    · obtain rfl : k = s.size := by omega
      have hg := HG.out
      rw [show (bl s).drop s.size = [] from by rw [← bl_len]; exact List.drop_length] at hg
      have hg2 : V = if 127 < o.length ∨ (0 : UInt8) ∈ o then none else some o := hg
      have HCV := Lib.hid (conv_own HO.out)
      have HIX := Lib.hid (bidx_any HO.out 0)
      have hix : decide (0 ≤ Lib.indexByte o 0) = decide ((0 : UInt8) ∈ o) := idx_mem o 0
      obtain ⟨a1, cap1, hv1, hrow, -⟩ := Row.of_owns HO.out
      have hlen := hrow.len1
      subst hv1
      rw [show (0 : Int).toNat.toUInt8 = 0 from rfl] at HIX
      clear hg hrow
      by_cases h127 : 127 < o.length
      · have HNONE := Lib.hid (show V = none by rw [hg2, if_pos (.inl h127)])
        have h127d : decide ((127 : Int) < o.length) = true := by simp; omega
        clear hg2 hix
        obtain ⟨⟨k0, k1, k2, k3⟩, f0, f1, f2, f3⟩ := cells4 HBR.out
        go_wp2
        refine bodyPost_ret (results_val rfl _ _ r 26 _ (0, 0) _ rfl (set4 HBR.out _ _ _ _) Try.underlying26 rfl infoVal _ rfl) rfl ?_
        exact name_none HNONE.out (below_set4 HBW.out (by have := HRR.out; omega) _ _ _ _)
      · have h127d : decide ((127 : Int) < o.length) = false := by simp; omega
        have h127e : decide (127 < o.length) = false := decide_eq_false h127
        obtain ⟨b, hb⟩ : ∃ b, decide ((0 : UInt8) ∈ o) = b := ⟨_, rfl⟩
        rw [hb] at hix
        have HBB := Lib.hid hb
        generalize Lib.indexByte o 0 = ix at *
        clear hb
        cases b
        · have hn0 : ¬ (0 : UInt8) ∈ o := of_decide_eq_false HBB.out
          have HS := Lib.hid (show V = some o by rw [hg2, if_neg (by rintro (h | h) <;> contradiction)])
          clear hg2 h127 hn0
          go_wp2_with fail
          refine HIX.out.mono ?_
          rintro e w9 ⟨rfl, rfl⟩
          have hcv := HCV.out
          obtain ⟨⟨k0, k1, k2, k3⟩, f0, f1, f2, f3⟩ := cells4 HBR.out
          go_wp2
          refine bodyPost_ret (results_val rfl _ _ r 26 _ (0, 0) _ rfl (set4 HBR.out _ _ _ _) Try.underlying26 rfl infoVal _ rfl) rfl ?_
          exact name_some HS.out (below_set4 HBW.out (by have := HRR.out; omega) _ _ _ _)
        · have HNONE := Lib.hid (show V = none by rw [hg2, if_pos (.inr (of_decide_eq_true HBB.out))])
          clear hg2 h127
          obtain ⟨⟨k0, k1, k2, k3⟩, f0, f1, f2, f3⟩ := cells4 HBR.out
          go_wp2_with fail
          refine HIX.out.mono ?_
          rintro e w9 ⟨rfl, rfl⟩
          go_wp2
          refine bodyPost_ret (results_val rfl _ _ r 26 _ (0, 0) _ rfl (set4 HBR.out _ _ _ _) Try.underlying26 rfl infoVal _ rfl) rfl ?_
          exact name_none HNONE.out (below_set4 HBW.out (by have := HRR.out; omega) _ _ _ _)
end Go.Proofs.Ytkolfecjlbnfkaa
