/-
  Our texts LexA to LexD, in one.
-/
import Derived.Test.YtmejhjgdofncfaaPkP10
import Derived.Lib.BytesEntry
import Derived.PlainAid
import Derived.Laws.IdiomStrings
/-
  The walk of layer 10: a name, of its bytes.
-/
namespace Go.Proofs.Ytmejhjgdofncfaa
open Go.RowKit

theorem bytesOf_map (o : List UInt8) : Lib.bytesOf (o.map fun b => (b.toNat : Int)) = o := by
  unfold Lib.bytesOf
  rw [List.map_map]
  have : ((fun n : Int => UInt8.ofNat n.toNat) ∘ fun b : UInt8 => (b.toNat : Int)) = id := by funext b; simp
  rw [this, List.map_id]

set_option maxHeartbeats 1000000 in
theorem bidx_any {w : World} {base : Nat} {v : Value} {o : List UInt8} (hr : w.ownsRow base 5 1 v o.length (o.map u8C)) (cv : Int) :
    Calls Try.prog 55 #[v, .int .u8 cv] w fun e w' => e = .returned (.int .i64 (Lib.indexByte o cv.toNat.toUInt8)) ∧ w = w' := by
  have hX : (Extern.BytealgIndexByte.indexByte #[v, .int .u8 cv]).run Try.prog w = .ok (.int .i64 (Lib.indexByte o cv.toNat.toUInt8)) w := by
    rcases hr.2 with ⟨rfl, h0⟩ | ⟨g, cap, cur, rfl, _⟩
    · have ho : o = [] := List.eq_nil_of_length_eq_zero h0
      subst ho
      exact Lib.run_indexByteNil _ _ _ cv
    · have := Lib.run_indexByteSlice (P := Try.prog) (w := w) g 0 o.length cap (o.map fun b => (b.toNat : Int)) (by simp) (fun i hi => by
        have := hr.cells (g := g) rfl i (u8C (o.getD i 0)) (by simp [List.getD, hi])
        rw [Addr.add_lit] at this
        rw [this]; unfold u8C
        simp [List.getD, hi]) cv
      rw [bytesOf_map] at this
      exact this
  obtain ⟨a, cap, hv, -⟩ := Row.of_owns hr
  subst hv
  clear hr
  go_enter Try.func55, Try.ntmps55
  go_wp2
  rw [run_callFunc_extern Try.func69 (by kernel_rfl) (by kernel_rfl) (by kernel_rfl) (e := Extern.BytealgIndexByte.indexByte) (by kernel_rfl), hX]
  simp only [Result.andThen]
  rw [Oper.upon_value]
  go_wp2
  go_ret
  exact ⟨rfl, rfl⟩

def finN : Option (List UInt8) → Option (List UInt8)
  | none => none
  | some o => if 127 < o.length ∨ (0 : UInt8) ∈ o then none else some o
theorem nameV_fin (l : List UInt8) : nameV l = finN (nameGo [] l) := by unfold nameV finN; cases nameGo [] l <;> rfl
theorem nameGo_byte (o : List UInt8) (c : UInt8) (t : List UInt8) (h : c ≠ 35) : nameGo o (c :: t) = nameGo (o ++ [c]) t := by rw [nameGo.eq_def]; simp only; rw [if_neg h]
theorem nameGo_short (o : List UInt8) (t : List UInt8) (h : t.length < 2) : nameGo o (35 :: t) = none := by
  rw [nameGo.eq_def]
  simp only
  rw [if_pos trivial]
  match t, h with
  | [], _ => rfl
  | [_], _ => rfl
theorem nameGo_hex (o : List UInt8) (x y : UInt8) (u : List UInt8) : nameGo o (35 :: x :: y :: u) = if hexD x < 0 ∨ hexD y < 0 then none else nameGo (o ++ [UInt8.ofNat (16 * hexD x + hexD y).toNat]) u := by rw [nameGo.eq_def]; simp only; rw [if_pos trivial]

theorem hexI_bd (x : Int) : -1 ≤ hexI x ∧ hexI x ≤ 15 := by
  unfold hexI
  repeat' split
  all_goals omega
theorem byte_of9 (x : Int) (h0 : 0 ≤ x) (h1 : x ≤ 255) : x = ((UInt8.ofNat x.toNat).toNat : Int) := by rw [UInt8.toNat_ofNat']; omega
theorem idx_mem (o : List UInt8) (c : UInt8) : decide (0 ≤ Lib.indexByte o c) = decide (c ∈ o) := by
  have hg := Lib.indexByte_ge o c
  by_cases h : Lib.indexByte o c = -1
  · rw [h, decide_eq_false (idx_none _ _ h)]; rfl
  · obtain ⟨i, hi⟩ := Int.eq_ofNat_of_zero_le (show 0 ≤ Lib.indexByte o c by omega)
    obtain ⟨a, t, e, -, -⟩ := idx_some _ _ _ hi
    rw [hi, decide_eq_true (by omega), decide_eq_true (by rw [e]; simp)]
/-- What a name leaves. -/
def NameEnd (w : World) (V : Option (List UInt8)) (e : Ending) (w' : World) : Prop :=
  Below w.heap.size w w' ∧ match V with
  | none => e = .returned (.tuple #[.agg (valC 0 0 noStr), .int .i64 17])
  | some o => e = .returned (.tuple #[.agg (valC 5 0 (mkB o)), .int .i64 0])
theorem name_none {w w' : World} {V : Option (List UInt8)} (hV : V = none) (hb : Below w.heap.size w w') : NameEnd w V (.returned (.tuple #[.agg (valC 0 0 noStr), .int .i64 17])) w' := by subst hV; exact ⟨hb, rfl⟩
theorem name_some {w w' : World} {V : Option (List UInt8)} {o : List UInt8} (hV : V = some o) (hb : Below w.heap.size w w') : NameEnd w V (.returned (.tuple #[.agg (valC 5 0 (mkB o)), .int .i64 0])) w' := by subst hV; exact ⟨hb, rfl⟩
theorem conv_own {w : World} {base : Nat} {v : Value} {o : List UInt8} (hr : w.ownsRow base 5 1 v o.length (o.map u8C)) : (convert 22 9 v).run Try.prog w = .ok (.string (mkB o)) w := by
  rcases hr.2 with ⟨rfl, h0⟩ | ⟨g, cap, cur, rfl, _⟩
  · have ho : o = [] := List.eq_nil_of_length_eq_zero h0
    subst ho
    rw [run_convert_bytes_string w 22 9 5 none 0 0 Try.underlying22 Try.underlying5 Try.underlying9]
    rfl
  · refine run_convert_bytes_back (P := Try.prog) w 22 9 5 ⟨g, 0, none⟩ cap o Try.underlying22 Try.underlying5 Try.underlying9 (fun j hj => ?_)
    exact hr.cells (g := g) rfl j (u8C o[j]) (by simp [hj])

set_option maxRecDepth 8000 in
set_option maxHeartbeats 8000000 in
theorem name_any (s : ByteArray) (w : World) (hs : s.size ≤ 100000) :
    Calls Try.prog 38 #[.string s] w (NameEnd w (nameV (bl s))) := by
  obtain ⟨V, hV⟩ : ∃ V, V = nameV (bl s) := ⟨_, rfl⟩
  rw [← hV]
  rw [nameV_fin] at hV
  have HV := Lib.hid hV
  obtain ⟨r, hr⟩ : ∃ r, r = w.heap.size := ⟨_, rfl⟩
  have HBX := Lib.hid (show (w.alloc (.cells #[.int .i64 0, .int .i64 0, .string ⟨#[]⟩, .slice none 0 0] 27)).heap[r]? = some (.cells #[.int .i64 0, .int .i64 0, .string ⟨#[]⟩, .slice none 0 0] 27 (0, 0)) from heapA_new _ hr)
  have HB0 := Lib.hid (belowA w (.cells #[.int .i64 0, .int .i64 0, .string ⟨#[]⟩, .slice none 0 0] 27))
  have HRR := Lib.hid hr
  have hgb := PlainAid.get_bt s
  have HOK := Lib.hid (show ∀ i (h : i < s.size), (bl s).drop i = s[i] :: (bl s).drop (i + 1) from fun i h => bl_drop s i h)
  clear hV hr
  go_enter Try.func38, Try.ntmps38
  go_wp2
  rw [← HRR.out]
  generalize w.alloc (.cells #[.int .i64 0, .int .i64 0, .string ⟨#[]⟩, .slice none 0 0] 27) = W0 at *
  have hr0 := (Array.getElem?_eq_some_iff.1 HBX.out).1
  go_loopw [4, 5] (fun v i wr => ∃ (k : Nat) (o : List UInt8), k ≤ s.size ∧ i = .int .i64 k ∧ o.length ≤ k ∧ Hid (wr.ownsRow W0.heap.size 5 1 v o.length (o.map u8C)) ∧ Hid (Below W0.heap.size W0 wr) ∧ Hid (V = finN (nameGo o ((bl s).drop k)))) (fun _ i _ => s.size - (intOf i).toNat)
  case atStart => exact ⟨0, [], by omega, rfl, by simp, Lib.hid (World.ownsRow_nil _ _ _ _), Lib.hid (Below.refl _ _), HV⟩
  case round =>
    obtain ⟨k, o, hk, rfl, hok, HO, HB, HG⟩ := hrel
    have HBR := Lib.hid (block_keep HB.out HBX.out)
    have HBW := Lib.hid (HB0.out.trans (HB.out.mono HB0.out.size))
    have hsz := HB.out.size
    by_cases hlt : k < s.size
    · have hx : (s[k].toNat : Int) = PlainAid.bt s k := hgb k hlt
      have hg := HG.out
      rw [HOK.out k hlt] at hg
      have HX := Lib.hid hx
      clear hx
      by_cases h35 : PlainAid.bt s k = 35
      · have h35d : (PlainAid.bt s k == 35) = true := by rw [beq_iff_eq]; exact h35
        rw [show s[k] = 35 from UInt8.toNat_inj.1 (Int.ofNat_inj.1 (HX.out.trans h35))] at hg
        clear h35
        by_cases h2 : s.size ≤ k + 2
        · have HNONE := Lib.hid (show V = none by rw [hg, nameGo_short _ _ (by rw [List.length_drop, bl_len]; omega)]; rfl)
          have h2d : decide ((s.size : Int) ≤ (k : Int) + 2) = true := by simp; omega
          clear hg
          obtain ⟨⟨k0, k1, k2, k3⟩, f0, f1, f2, f3⟩ := cells4 HBR.out
          go_wp2
          refine bodyPost_ret (results_val rfl _ _ r 27 _ (0, 0) _ rfl (set4 HBR.out _ _ _ _) Try.underlying27 rfl infoVal _ rfl) rfl ?_
          exact name_none HNONE.out (below_set4 HBW.out (by have := HRR.out; omega) _ _ _ _)
        · have h2d : decide ((s.size : Int) ≤ (k : Int) + 2) = false := by simp; omega
          have h1' : k + 1 < s.size := by omega
          have h2' : k + 2 < s.size := by omega
          rw [HOK.out (k + 1) h1', HOK.out (k + 1 + 1) h2', nameGo_hex, hexI_eq, hexI_eq, hgb (k + 1) h1', show ((s[k + 1 + 1].toNat : Nat) : Int) = PlainAid.bt s (k + 2) from hgb (k + 2) h2'] at hg
          have hA := hexI_bd (PlainAid.bt s (k + 1))
          have hB := hexI_bd (PlainAid.bt s (k + 2))
          have HCA := Lib.hid (fun W => hx_54 (PlainAid.bt s (k + 1)) W (PlainAid.bt_nonneg _ _) (PlainAid.bt_le _ _))
          have HCB := Lib.hid (fun W => hx_54 (PlainAid.bt s (k + 2)) W (PlainAid.bt_nonneg _ _) (PlainAid.bt_le _ _))
          generalize hexI (PlainAid.bt s (k + 1)) = A at *
          generalize hexI (PlainAid.bt s (k + 2)) = B at *
          by_cases hAn : A < 0
          · have HNONE := Lib.hid (show V = none by rw [hg, if_pos (.inl hAn)]; rfl)
            clear hg
            obtain ⟨⟨k0, k1, k2, k3⟩, f0, f1, f2, f3⟩ := cells4 HBR.out
            go_wp2_with fail
            refine (HCA.out _).mono ?_
            rintro e w9 ⟨rfl, rfl⟩
            go_wp2
            refine bodyPost_ret (results_val rfl _ _ r 27 _ (0, 0) _ rfl (set4 HBR.out _ _ _ _) Try.underlying27 rfl infoVal _ rfl) rfl ?_
            exact name_none HNONE.out (below_set4 HBW.out (by have := HRR.out; omega) _ _ _ _)
          · have hAd : decide (A < 0) = false := by simpa using hAn
            by_cases hBn : B < 0
            · have HNONE := Lib.hid (show V = none by rw [hg, if_pos (.inr hBn)]; rfl)
              clear hg hAn
              obtain ⟨⟨k0, k1, k2, k3⟩, f0, f1, f2, f3⟩ := cells4 HBR.out
              go_wp2_with fail
              refine (HCA.out _).mono ?_
              rintro e w9 ⟨rfl, rfl⟩
              go_wp2_with fail
              refine (HCB.out _).mono ?_
              rintro e w9 ⟨rfl, rfl⟩
              go_wp2
              refine bodyPost_ret (results_val rfl _ _ r 27 _ (0, 0) _ rfl (set4 HBR.out _ _ _ _) Try.underlying27 rfl infoVal _ rfl) rfl ?_
              exact name_none HNONE.out (below_set4 HBW.out (by have := HRR.out; omega) _ _ _ _)
            · have hBd : decide (B < 0) = false := by simpa using hBn
              rw [if_neg (by rintro (h | h) <;> contradiction)] at hg
              have HG2 := Lib.hid hg
              have HBY := Lib.hid (byte_of9 (16 * A + B) (by omega) (by omega))
              have hA0 : 0 ≤ A := by omega
              have hB0 : 0 ≤ B := by omega
              obtain ⟨hA1, hA2⟩ := hA
              obtain ⟨hB1, hB2⟩ := hB
              clear hg hAn hBn
              go_wp2_with fail
              refine (HCA.out _).mono ?_
              rintro e w9 ⟨rfl, rfl⟩
              go_wp2_with fail
              refine (HCB.out _).mono ?_
              rintro e w9 ⟨rfl, rfl⟩
              go_wp2
              go_quiet ((first | (go_at_call 54; with_reducible exact (HCA.out _).mono fun _ _ ⟨he, hm⟩ => ⟨he, _, hm.symm⟩) | (go_at_call 54; with_reducible exact (HCB.out _).mono fun _ _ ⟨he, hm⟩ => ⟨he, _, hm.symm⟩)))
              have HO9 := Lib.hid (ownsRow_keep HO.out (below_drewN (Below.refl _ _) nq))
              have HB9 := Lib.hid (below_drewN HB.out nq)
              have hsz9 := HB9.out.size
              generalize wr.drewN nq = w3 at *
              go_wp2_with (at_builtin; refine append_row EByte rfl (.tmp 55) (.tmp 57) rfl W0.heap.size _ o.length _ rfl (HO9.out.alloc _) _ 1 _ _ rfl (row_new1 _ _ _) (one_mem rfl) (by unfold maxLen; omega) (by omega) (by rw [sizeA]; omega) ?_; intro v' w5 hO5 hg5 hnil5; have HO5 := Lib.hid hO5; have HG5 := Lib.hid hg5; clear hO5 hg5 hnil5)
              go_roundw
              case rel =>
                refine ⟨k + 3, o ++ [UInt8.ofNat (16 * A + B).toNat], by omega, by go_num, by simp; omega, Lib.hid ?_, Lib.hid ?_, Lib.hid HG2.out⟩
                · have := HO5.out
                  rw [HBY.out] at this
                  simpa [u8C] using this
                · exact (HB9.out.alloc hsz9 _).grown HG5.out (by rw [sizeA]; omega) (fun q hq => (HO9.out.lt q hq).1)
              case measure => simp [intOf]; omega
      · have h35d : (PlainAid.bt s k == 35) = false := by rw [beq_eq_false_iff_ne]; exact h35
        rw [nameGo_byte _ _ _ (fun e => h35 (by rw [← HX.out, e]; rfl))] at hg
        have HG2 := Lib.hid hg
        clear hg h35
        go_wp2_with (at_builtin; refine append_row EByte rfl (.tmp 55) (.tmp 57) rfl W0.heap.size _ o.length _ rfl (HO.out.alloc _) _ 1 _ _ rfl (row_new1 _ _ _) (one_mem rfl) (by unfold maxLen; omega) (by omega) (by rw [sizeA]; omega) ?_; intro v' w5 hO5 hg5 hnil5; have HO5 := Lib.hid hO5; have HG5 := Lib.hid hg5; clear hO5 hg5 hnil5)
        go_roundw
        case rel =>
          refine ⟨k + 1, o ++ [s[k]], by omega, by go_num, by simp; omega, Lib.hid ?_, Lib.hid ?_, HG2⟩
          · have := HO5.out
            rw [← HX.out] at this
            simpa [u8C] using this
          · exact (HB.out.alloc (by omega) _).grown HG5.out (by rw [sizeA]; omega) (fun q hq => (HO.out.lt q hq).1)
        case measure => simp [intOf]; omega
    · obtain rfl : k = s.size := by omega
      have hg := HG.out
      rw [show (bl s).drop s.size = [] from by rw [← bl_len]; exact List.drop_length] at hg
      have hg2 : V = if 127 < o.length ∨ (0 : UInt8) ∈ o then none else some o := hg
      have HCV := Lib.hid (conv_own HO.out)
      have HIX := Lib.hid (bidx_any HO.out 0)
      have hix : decide (0 ≤ Lib.indexByte o 0) = decide ((0 : UInt8) ∈ o) := idx_mem o 0
      obtain ⟨a1, cap1, hv1, hrow, -⟩ := Row.of_owns HO.out
      have hlen := hrow.len1
      subst hv1
      rw [show (0 : Int).toNat.toUInt8 = 0 from rfl] at HIX
      clear hg hrow
      by_cases h127 : 127 < o.length
      · have HNONE := Lib.hid (show V = none by rw [hg2, if_pos (.inl h127)])
        have h127d : decide ((127 : Int) < o.length) = true := by simp; omega
        clear hg2 hix
        obtain ⟨⟨k0, k1, k2, k3⟩, f0, f1, f2, f3⟩ := cells4 HBR.out
        go_wp2
        refine bodyPost_ret (results_val rfl _ _ r 27 _ (0, 0) _ rfl (set4 HBR.out _ _ _ _) Try.underlying27 rfl infoVal _ rfl) rfl ?_
        exact name_none HNONE.out (below_set4 HBW.out (by have := HRR.out; omega) _ _ _ _)
      · have h127d : decide ((127 : Int) < o.length) = false := by simp; omega
        have h127e : decide (127 < o.length) = false := decide_eq_false h127
        obtain ⟨b, hb⟩ : ∃ b, decide ((0 : UInt8) ∈ o) = b := ⟨_, rfl⟩
        rw [hb] at hix
        have HBB := Lib.hid hb
        generalize Lib.indexByte o 0 = ix at *
        clear hb
        cases b
        · have hn0 : ¬ (0 : UInt8) ∈ o := of_decide_eq_false HBB.out
          have HS := Lib.hid (show V = some o by rw [hg2, if_neg (by rintro (h | h) <;> contradiction)])
          clear hg2 h127 hn0
          go_wp2_with fail
          refine HIX.out.mono ?_
          rintro e w9 ⟨rfl, rfl⟩
          have hcv := HCV.out
          obtain ⟨⟨k0, k1, k2, k3⟩, f0, f1, f2, f3⟩ := cells4 HBR.out
          go_wp2
          refine bodyPost_ret (results_val rfl _ _ r 27 _ (0, 0) _ rfl (set4 HBR.out _ _ _ _) Try.underlying27 rfl infoVal _ rfl) rfl ?_
          exact name_some HS.out (below_set4 HBW.out (by have := HRR.out; omega) _ _ _ _)
        · have HNONE := Lib.hid (show V = none by rw [hg2, if_pos (.inr (of_decide_eq_true HBB.out))])
          clear hg2 h127
          obtain ⟨⟨k0, k1, k2, k3⟩, f0, f1, f2, f3⟩ := cells4 HBR.out
          go_wp2_with fail
          refine HIX.out.mono ?_
          rintro e w9 ⟨rfl, rfl⟩
          go_wp2
          refine bodyPost_ret (results_val rfl _ _ r 27 _ (0, 0) _ rfl (set4 HBR.out _ _ _ _) Try.underlying27 rfl infoVal _ rfl) rfl ?_
          exact name_none HNONE.out (below_set4 HBW.out (by have := HRR.out; omega) _ _ _ _)
end Go.Proofs.Ytmejhjgdofncfaa
/-
  Walks of layer 10: tokens of one sign, or two; of regular bytes.
-/
namespace Go.Proofs.Ytmejhjgdofncfaa
open Go.RowKit

def tokC (kind f t vk vn : Int) (vs s : ByteArray) : Array Value := #[.int .i64 kind, .int .i64 f, .int .i64 t, .int .i64 vk, .int .i64 vn, .string vs, .slice none 0 0, .string s]
theorem infoTok : (Try.prog.info? 40).map (·.size) = some 8 := by kernel_rfl
/-- What a token leaves. -/
def TokEnd (w : World) (S : Nat → Prop) (p : Nat) (X : Src) (V : Int × Tk × List UInt8) (e : Ending) (w' : World) : Prop :=
  Keeps S w w' ∧ ∃ (k vk vn : Int) (vs s : ByteArray), e = .returned (.tuple #[.agg (tokC k 0 0 vk vn vs s), .int .i64 V.1]) ∧
    (V.1 = 0 → k = V.2.1.kind ∧ vk = V.2.1.vk ∧ vn = V.2.1.vn ∧ vs = mkB V.2.1.vs ∧ s = mkB V.2.1.s ∧ V.2.2.length ≤ X.bs.length ∧ w'.cell? ⟨p, 3, none⟩ = some (.int .i64 ((X.bs.length - V.2.2.length : Nat) : Int)))

theorem set8 {w : World} {b : Nat} {x0 x1 x2 x3 x4 x5 x6 x7 : Value} {t : TypeId} (h : w.heap[b]? = some (.cells #[x0, x1, x2, x3, x4, x5, x6, x7] t (0, 0))) (y0 y1 y2 y3 y4 y5 y6 y7 : Value) :
    ((((((((w.setCell ⟨b, 0, none⟩ y0).setCell ⟨b, 1, none⟩ y1).setCell ⟨b, 2, none⟩ y2).setCell ⟨b, 3, none⟩ y3).setCell ⟨b, 4, none⟩ y4).setCell ⟨b, 5, none⟩ y5).setCell ⟨b, 6, none⟩ y6).setCell ⟨b, 7, none⟩ y7).heap[b]? = some (.cells #[y0, y1, y2, y3, y4, y5, y6, y7] t (0, 0)) := by
  have h0 : (w.setCell ⟨b, 0, none⟩ y0).heap[b]? = some (.cells #[y0, x1, x2, x3, x4, x5, x6, x7] t (0, 0)) := heap_setCell_same w _ 0 _ _ _ h
  generalize w.setCell ⟨b, 0, none⟩ y0 = w0 at *
  have h1 : (w0.setCell ⟨b, 1, none⟩ y1).heap[b]? = some (.cells #[y0, y1, x2, x3, x4, x5, x6, x7] t (0, 0)) := heap_setCell_same w0 _ 1 _ _ _ h0
  generalize w0.setCell ⟨b, 1, none⟩ y1 = w1 at *
  have h2 : (w1.setCell ⟨b, 2, none⟩ y2).heap[b]? = some (.cells #[y0, y1, y2, x3, x4, x5, x6, x7] t (0, 0)) := heap_setCell_same w1 _ 2 _ _ _ h1
  generalize w1.setCell ⟨b, 2, none⟩ y2 = w2 at *
  have h3 : (w2.setCell ⟨b, 3, none⟩ y3).heap[b]? = some (.cells #[y0, y1, y2, y3, x4, x5, x6, x7] t (0, 0)) := heap_setCell_same w2 _ 3 _ _ _ h2
  generalize w2.setCell ⟨b, 3, none⟩ y3 = w3 at *
  have h4 : (w3.setCell ⟨b, 4, none⟩ y4).heap[b]? = some (.cells #[y0, y1, y2, y3, y4, x5, x6, x7] t (0, 0)) := heap_setCell_same w3 _ 4 _ _ _ h3
  generalize w3.setCell ⟨b, 4, none⟩ y4 = w4 at *
  have h5 : (w4.setCell ⟨b, 5, none⟩ y5).heap[b]? = some (.cells #[y0, y1, y2, y3, y4, y5, x6, x7] t (0, 0)) := heap_setCell_same w4 _ 5 _ _ _ h4
  generalize w4.setCell ⟨b, 5, none⟩ y5 = w5 at *
  have h6 : (w5.setCell ⟨b, 6, none⟩ y6).heap[b]? = some (.cells #[y0, y1, y2, y3, y4, y5, y6, x7] t (0, 0)) := heap_setCell_same w5 _ 6 _ _ _ h5
  generalize w5.setCell ⟨b, 6, none⟩ y6 = w6 at *
  exact heap_setCell_same w6 _ 7 _ _ _ h6
theorem keeps_set8 {S : Nat → Prop} {w W : World} (h : Keeps S w W) {r : Nat} (hr : w.heap.size ≤ r) (y0 y1 y2 y3 y4 y5 y6 y7 : Value) :
    Keeps S w ((((((((W.setCell ⟨r, 0, none⟩ y0).setCell ⟨r, 1, none⟩ y1).setCell ⟨r, 2, none⟩ y2).setCell ⟨r, 3, none⟩ y3).setCell ⟨r, 4, none⟩ y4).setCell ⟨r, 5, none⟩ y5).setCell ⟨r, 6, none⟩ y6).setCell ⟨r, 7, none⟩ y7) :=
  (((((((h.setCell (.inr hr) _).setCell (.inr hr) _).setCell (.inr hr) _).setCell (.inr hr) _).setCell (.inr hr) _).setCell (.inr hr) _).setCell (.inr hr) _).setCell (.inr hr) _
theorem set8_other {W : World} {b r : Nat} (hb : b ≠ r) (y0 y1 y2 y3 y4 y5 y6 y7 : Value) :
    ((((((((W.setCell ⟨r, 0, none⟩ y0).setCell ⟨r, 1, none⟩ y1).setCell ⟨r, 2, none⟩ y2).setCell ⟨r, 3, none⟩ y3).setCell ⟨r, 4, none⟩ y4).setCell ⟨r, 5, none⟩ y5).setCell ⟨r, 6, none⟩ y6).setCell ⟨r, 7, none⟩ y7).heap[b]? = W.heap[b]? := by
  rw [heap_setCell_other _ _ _ _ hb, heap_setCell_other _ _ _ _ hb, heap_setCell_other _ _ _ _ hb, heap_setCell_other _ _ _ _ hb, heap_setCell_other _ _ _ _ hb, heap_setCell_other _ _ _ _ hb, heap_setCell_other _ _ _ _ hb, heap_setCell_other _ _ _ _ hb]
theorem set8_cell {W : World} {b r : Nat} (hb : b ≠ r) (i : Nat) (y0 y1 y2 y3 y4 y5 y6 y7 : Value) :
    ((((((((W.setCell ⟨r, 0, none⟩ y0).setCell ⟨r, 1, none⟩ y1).setCell ⟨r, 2, none⟩ y2).setCell ⟨r, 3, none⟩ y3).setCell ⟨r, 4, none⟩ y4).setCell ⟨r, 5, none⟩ y5).setCell ⟨r, 6, none⟩ y6).setCell ⟨r, 7, none⟩ y7).cell? ⟨b, i, none⟩ = W.cell? ⟨b, i, none⟩ := by
  simp only [World.cell?]
  rw [set8_other hb]
def zT : Array Value := #[.int .i64 0, .int .i64 0, .int .i64 0, .int .i64 0, .int .i64 0, .string ⟨#[]⟩, .slice none 0 0, .string ⟨#[]⟩]
theorem cells8 {w : World} {b : Nat} {x0 x1 x2 x3 x4 x5 x6 x7 : Value} {t : TypeId} (h : w.heap[b]? = some (.cells #[x0, x1, x2, x3, x4, x5, x6, x7] t (0, 0))) :
    (w.cell? ⟨b, 0, none⟩ = some x0 ∧ w.cell? ⟨b, 1, none⟩ = some x1 ∧ w.cell? ⟨b, 2, none⟩ = some x2 ∧ w.cell? ⟨b, 3, none⟩ = some x3 ∧ w.cell? ⟨b, 4, none⟩ = some x4 ∧ w.cell? ⟨b, 5, none⟩ = some x5 ∧ w.cell? ⟨b, 6, none⟩ = some x6 ∧ w.cell? ⟨b, 7, none⟩ = some x7) ∧
    (w.frozen? ⟨b, 0, none⟩ = false ∧ w.frozen? ⟨b, 1, none⟩ = false ∧ w.frozen? ⟨b, 2, none⟩ = false ∧ w.frozen? ⟨b, 3, none⟩ = false ∧ w.frozen? ⟨b, 4, none⟩ = false ∧ w.frozen? ⟨b, 5, none⟩ = false ∧ w.frozen? ⟨b, 6, none⟩ = false ∧ w.frozen? ⟨b, 7, none⟩ = false) := by
  refine ⟨⟨?_, ?_, ?_, ?_, ?_, ?_, ?_, ?_⟩, frozen_of_row w b 0 _ _ h, frozen_of_row w b 1 _ _ h, frozen_of_row w b 2 _ _ h, frozen_of_row w b 3 _ _ h, frozen_of_row w b 4 _ _ h, frozen_of_row w b 5 _ _ h, frozen_of_row w b 6 _ _ h, frozen_of_row w b 7 _ _ h⟩
  · rw [cell_of_row w b 0 _ _ _ h]; rfl
  · rw [cell_of_row w b 1 _ _ _ h]; rfl
  · rw [cell_of_row w b 2 _ _ _ h]; rfl
  · rw [cell_of_row w b 3 _ _ _ h]; rfl
  · rw [cell_of_row w b 4 _ _ _ h]; rfl
  · rw [cell_of_row w b 5 _ _ _ h]; rfl
  · rw [cell_of_row w b 6 _ _ _ h]; rfl
  · rw [cell_of_row w b 7 _ _ _ h]; rfl
theorem tok_err {w w' : World} {S : Nat → Prop} {p : Nat} {X : Src} {V : Int × Tk × List UInt8} {er : Int} (hV : V.1 = er) (hn : er ≠ 0) (hk : Keeps S w w') (k vk vn : Int) (vs s : ByteArray) :
    TokEnd w S p X V (.returned (.tuple #[.agg (tokC k 0 0 vk vn vs s), .int .i64 er])) w' :=
  ⟨hk, k, vk, vn, vs, s, by rw [hV], fun h => absurd (hV.symm.trans h) hn⟩
theorem tok_ok {w w' : World} {S : Nat → Prop} {p : Nat} {X : Src} {V : Int × Tk × List UInt8} {x : Tk} {t : List UInt8} (hV : V = (0, x, t)) (hk : Keeps S w w') (ht : t.length ≤ X.bs.length) (hc : w'.cell? ⟨p, 3, none⟩ = some (.int .i64 ((X.bs.length - t.length : Nat) : Int))) :
    TokEnd w S p X V (.returned (.tuple #[.agg (tokC x.kind 0 0 x.vk x.vn (mkB x.vs) (mkB x.s)), .int .i64 0])) w' := by
  subst hV; exact ⟨hk, _, _, _, _, _, rfl, fun _ => ⟨rfl, rfl, rfl, rfl, rfl, ht, hc⟩⟩

def clV (X : Src) (k : Nat) : Int × Tk × List UInt8 := match X.bs.drop k with
  | [] => (if X.last then 11 else 6, { kind := 0 }, [])
  | d :: u => if d = 62 then (0, { kind := 5 }, u) else (11, { kind := 0 }, [])

theorem clV_in {X : Src} {k : Nat} (hk : k < X.bs.length) : clV X k = if X.bs.getD k 0 = 62 then (0, { kind := 5 }, X.bs.drop (k + 1)) else (11, { kind := 0 }, []) := by
  unfold clV; rw [drop_cons hk]
theorem clV_out {X : Src} {k : Nat} (hk : ¬ k < X.bs.length) : clV X k = (if X.last then 11 else 6, { kind := 0 }, []) := by
  unfold clV; rw [drop_nil (by omega)]

theorem ScQ.facts {w : World} {S : Nat → Prop} {p : Nat} {X : Src} {out : List UInt8} {k : Nat} (h : ScQ w S p X out k) : (∀ b, S b → b < w.heap.size) ∧ S p ∧ k ≤ X.bs.length ∧ X.bs.length ≤ 100000 ∧ w.cell? ⟨p, 3, none⟩ = some (.int .i64 k) ∧ w.cell? ⟨p, 4, none⟩ = some (.bool X.last) ∧ (∀ j, w.frozen? ⟨p, j, none⟩ = false) := by
  obtain ⟨_, _, h⟩ := h
  exact ⟨fun b hb => (h.lt b hb).2, h.own, h.le, h.small, h.cells.2.2.2.1, h.cells.2.2.2.2, h.free⟩
/-- The place goes on by one. -/
theorem ScQ.step {w : World} {S : Nat → Prop} {p : Nat} {X : Src} {out : List UInt8} {k : Nat} (h : ScQ w S p X out k) (hk : k < X.bs.length) : ScNext w S p X out (k + 1) (w.setCell ⟨p, 3, none⟩ (.int .i64 ((k : Int) + 1))) := by
  obtain ⟨_, _, h⟩ := h
  exact h.move (k + 1) hk (by omega)


/-- Amid a token: the scanner, and the block of the result. -/
structure Tm (w : World) (S : Nat → Prop) (p r : Nat) (X : Src) (k : Nat) (W : World) : Prop where
  sc : ScQ W S p X [] k
  blk : W.heap[r]? = some (.cells #[.int .i64 0, .int .i64 0, .int .i64 0, .int .i64 0, .int .i64 0, .string ⟨#[]⟩, .slice none 0 0, .string ⟨#[]⟩] 40 (0, 0))
  keeps : Keeps S w W
  pr : p ≠ r
  wr : w.heap.size ≤ r
  sr : ¬ S r
theorem Tm.start {w : World} {S : Nat → Prop} {p : Nat} {X : Src} {k : Nat} (h : ScQ w S p X [] k) : Tm w S p w.heap.size X k (w.alloc (.cells #[.int .i64 0, .int .i64 0, .int .i64 0, .int .i64 0, .int .i64 0, .string ⟨#[]⟩, .slice none 0 0, .string ⟨#[]⟩] 40)) :=
  ⟨h.keep (belowA w _), heapA_new _ rfl, (Keeps.refl S w).alloc _, by have := h.facts.1 p h.facts.2.1; omega, Nat.le_refl _, fun hS => by have := h.facts.1 _ hS; omega⟩
theorem Tm.drewN {w W : World} {S : Nat → Prop} {p r : Nat} {X : Src} {k : Nat} (h : Tm w S p r X k W) (q : Nat) : Tm w S p r X k (W.drewN q) :=
  ⟨h.sc.drewN q, h.blk, h.keeps.drewN q, h.pr, h.wr, h.sr⟩
theorem ScQ.next {w : World} {S : Nat → Prop} {p : Nat} {X : Src} {k : Nat} (h : ScQ w S p X [] k) (hk : k < X.bs.length) : ScQ (w.setCell ⟨p, 3, none⟩ (.int .i64 ((k : Int) + 1))) S p X [] (k + 1) := by
  obtain ⟨ad, v, h⟩ := h
  have hb := h.blk
  refine ⟨ad, v, ⟨?_, h.ad_, ?_, h.at_, h.own, fun b hS => by have := h.lt b hS; simpa using this, ?_, h.srcb, hk, h.small, by simp, h.nil_⟩⟩
  · rw [heap_setCell_same _ _ 3 _ _ _ hb]; rfl
  · exact ownsRow_setCell_other h.row (a := ⟨p, 3, none⟩) (fun e => by have := (h.row.lt p e).1; omega) _
  · exact h.src.keeps (S := fun b => b = p) ((Keeps.refl (fun b => b = p) w).setCell (a := ⟨p, 3, none⟩) (.inl rfl) _) (fun x hx e => by have := h.srcb x hx; omega)
theorem Tm.next {w W : World} {S : Nat → Prop} {p r : Nat} {X : Src} {k : Nat} (h : Tm w S p r X k W) (hk : k < X.bs.length) : Tm w S p r X (k + 1) (W.setCell ⟨p, 3, none⟩ (.int .i64 ((k : Int) + 1))) :=
  ⟨h.sc.next hk, by rw [heap_setCell_other _ _ _ _ (Ne.symm h.pr)]; exact h.blk, h.keeps.setCell (.inl h.sc.facts.2.1) _, h.pr, h.wr, h.sr⟩
/-- The end of a token. -/
theorem Tm.ok {w W : World} {S : Nat → Prop} {p r : Nat} {X : Src} {k : Nat} {V : Int × Tk × List UInt8} {x : Tk} (h : Tm w S p r X k W) (hV : V = (0, x, X.bs.drop k)) (y0 y1 y2 y3 y4 y5 y6 y7 : Value) :
    TokEnd w S p X V (.returned (.tuple #[.agg (tokC x.kind 0 0 x.vk x.vn (mkB x.vs) (mkB x.s)), .int .i64 0]))
      ((((((((W.setCell ⟨r, 0, none⟩ y0).setCell ⟨r, 1, none⟩ y1).setCell ⟨r, 2, none⟩ y2).setCell ⟨r, 3, none⟩ y3).setCell ⟨r, 4, none⟩ y4).setCell ⟨r, 5, none⟩ y5).setCell ⟨r, 6, none⟩ y6).setCell ⟨r, 7, none⟩ y7) :=
  tok_ok hV (keeps_set8 h.keeps h.wr _ _ _ _ _ _ _ _) (by simp) (by
    rw [set8_cell h.pr, h.sc.facts.2.2.2.2.1, List.length_drop]
    have := h.sc.facts.2.2.1
    congr 2; omega)
theorem Tm.err {w W : World} {S : Nat → Prop} {p r : Nat} {X : Src} {k : Nat} {V : Int × Tk × List UInt8} {er : Int} (h : Tm w S p r X k W) (hV : V.1 = er) (hn : er ≠ 0) (y0 y1 y2 y3 y4 y5 y6 y7 : Value) (a b c : Int) (vs s : ByteArray) :
    TokEnd w S p X V (.returned (.tuple #[.agg (tokC a 0 0 b c vs s), .int .i64 er]))
      ((((((((W.setCell ⟨r, 0, none⟩ y0).setCell ⟨r, 1, none⟩ y1).setCell ⟨r, 2, none⟩ y2).setCell ⟨r, 3, none⟩ y3).setCell ⟨r, 4, none⟩ y4).setCell ⟨r, 5, none⟩ y5).setCell ⟨r, 6, none⟩ y6).setCell ⟨r, 7, none⟩ y7) :=
  tok_err hV hn (keeps_set8 h.keeps h.wr _ _ _ _ _ _ _ _) a b c vs s

/-- Amid a token, when the scanner is no more needed. -/
structure Tn (w : World) (S : Nat → Prop) (p r : Nat) (W : World) : Prop where
  blk : W.heap[r]? = some (.cells #[.int .i64 0, .int .i64 0, .int .i64 0, .int .i64 0, .int .i64 0, .string ⟨#[]⟩, .slice none 0 0, .string ⟨#[]⟩] 40 (0, 0))
  keeps : Keeps S w W
  pr : p ≠ r
  wr : w.heap.size ≤ r
  sp : S p
theorem Tn.of {w W W' : World} {S : Nat → Prop} {p r : Nat} {X : Src} {k : Nat} (h : Tm w S p r X k W) (hk : Keeps S W W') : Tn w S p r W' :=
  ⟨hk.obj h.blk h.sr, h.keeps.trans hk (fun _ hS => .inl hS), h.pr, h.wr, h.sc.facts.2.1⟩
theorem Tn.on {w W W' : World} {S : Nat → Prop} {p r : Nat} (h : Tn w S p r W) (hb : Below W.heap.size W W') : Tn w S p r W' :=
  ⟨block_keep hb h.blk, h.keeps.trans (Keeps.of_below (S := fun b => W.heap.size ≤ b) hb (fun _ h => h)) (fun _ hS => .inr (Nat.le_trans h.keeps.size hS)), h.pr, h.wr, h.sp⟩
theorem Tn.alloc {w W : World} {S : Nat → Prop} {p r : Nat} (h : Tn w S p r W) (o : Obj) : Tn w S p r (W.alloc o) := h.on (belowA W o)
theorem Tn.ok {w W : World} {S : Nat → Prop} {p r : Nat} {X : Src} {V : Int × Tk × List UInt8} {x : Tk} {t : List UInt8} (h : Tn w S p r W) (hV : V = (0, x, t)) (ht : t.length ≤ X.bs.length) (hc : W.cell? ⟨p, 3, none⟩ = some (.int .i64 ((X.bs.length - t.length : Nat) : Int))) (y0 y1 y2 y3 y4 y5 y6 y7 : Value) :
    TokEnd w S p X V (.returned (.tuple #[.agg (tokC x.kind 0 0 x.vk x.vn (mkB x.vs) (mkB x.s)), .int .i64 0]))
      ((((((((W.setCell ⟨r, 0, none⟩ y0).setCell ⟨r, 1, none⟩ y1).setCell ⟨r, 2, none⟩ y2).setCell ⟨r, 3, none⟩ y3).setCell ⟨r, 4, none⟩ y4).setCell ⟨r, 5, none⟩ y5).setCell ⟨r, 6, none⟩ y6).setCell ⟨r, 7, none⟩ y7) :=
  tok_ok hV (keeps_set8 h.keeps h.wr _ _ _ _ _ _ _ _) ht (by rw [set8_cell h.pr]; exact hc)
theorem Tn.err {w W : World} {S : Nat → Prop} {p r : Nat} {X : Src} {V : Int × Tk × List UInt8} {er : Int} (h : Tn w S p r W) (hV : V.1 = er) (hn : er ≠ 0) (y0 y1 y2 y3 y4 y5 y6 y7 : Value) (a b c : Int) (vs s : ByteArray) :
    TokEnd w S p X V (.returned (.tuple #[.agg (tokC a 0 0 b c vs s), .int .i64 er]))
      ((((((((W.setCell ⟨r, 0, none⟩ y0).setCell ⟨r, 1, none⟩ y1).setCell ⟨r, 2, none⟩ y2).setCell ⟨r, 3, none⟩ y3).setCell ⟨r, 4, none⟩ y4).setCell ⟨r, 5, none⟩ y5).setCell ⟨r, 6, none⟩ y6).setCell ⟨r, 7, none⟩ y7) :=
  tok_err hV hn (keeps_set8 h.keeps h.wr _ _ _ _ _ _ _ _) a b c vs s
theorem Tn.any {w W : World} {S : Nat → Prop} {p r : Nat} {X : Src} {V : Int × Tk × List UInt8} {x : Tk} {t : List UInt8} {er : Int} (h : Tn w S p r W) (hV : V = (er, x, t)) (ht : t.length ≤ X.bs.length) (hc : W.cell? ⟨p, 3, none⟩ = some (.int .i64 ((X.bs.length - t.length : Nat) : Int))) (y0 y1 y2 y3 y4 y5 y6 y7 : Value) :
    TokEnd w S p X V (.returned (.tuple #[.agg (tokC x.kind 0 0 x.vk x.vn (mkB x.vs) (mkB x.s)), .int .i64 er]))
      ((((((((W.setCell ⟨r, 0, none⟩ y0).setCell ⟨r, 1, none⟩ y1).setCell ⟨r, 2, none⟩ y2).setCell ⟨r, 3, none⟩ y3).setCell ⟨r, 4, none⟩ y4).setCell ⟨r, 5, none⟩ y5).setCell ⟨r, 6, none⟩ y6).setCell ⟨r, 7, none⟩ y7) := by
  by_cases he : er = 0
  · subst he; exact h.ok hV ht hc _ _ _ _ _ _ _ _
  · exact h.err (by rw [hV]) he _ _ _ _ _ _ _ _ _ _ _ _ _
theorem cell_alloc {w : World} {b o : Nat} {v : Value} (x : Obj) (h : w.cell? ⟨b, o, none⟩ = some v) : (w.alloc x).cell? ⟨b, o, none⟩ = some v := cell?_keep (belowA w x) h

end Go.Proofs.Ytmejhjgdofncfaa
/-
  Walks of layer 10: >>.
-/
namespace Go.Proofs.Ytmejhjgdofncfaa
open Go.RowKit

set_option maxRecDepth 8000 in
set_option maxHeartbeats 4000000 in
theorem closing_any {w : World} {S : Nat → Prop} {p : Nat} {X : Src} {k : Nat} (h : ScQ w S p X [] k) :
    Calls Try.prog 35 #[.pointer (some ⟨p, 0, none⟩)] w (TokEnd w S p X (clV X k)) := by
  obtain ⟨V, hV⟩ : ∃ V, V = clV X k := ⟨_, rfl⟩
  rw [← hV]
  have hT := Tm.start h
  obtain ⟨r, hr⟩ : ∃ r, r = w.heap.size := ⟨_, rfl⟩
  rw [← hr] at hT
  have HT0 := Lib.hid hT
  have HR := Lib.hid hr
  have hP := peek_any hT.sc
  have hsm := h.facts.2.2.2.1
  clear hT hr h
  by_cases hk : k < X.bs.length
  · have hv := hV.trans (clV_in hk)
    unfold peekV u8C at hP
    rw [if_pos hk] at hP
    have HK := Lib.hid hk
    have hkb : k ≤ 99999 := by omega
    clear hsm
    generalize X.bs.getD k 0 = c at *
    have HP := Lib.hid hP
    clear hP hV hk
    by_cases hc : c = 62
    · rw [if_pos hc] at hv
      have HV := Lib.hid hv
      have hc2 : c.toNat = 62 := by rw [hc]; rfl
      rw [hc2] at HP
      clear hv hc hc2
      go_enter Try.func35, Try.ntmps35
      go_wp2_with fail
      refine HP.out.mono ?_
      rintro e w1 ⟨rfl, q, rfl⟩
      have HT1 := Lib.hid (HT0.out.drewN q)
      have HT2 := Lib.hid (HT1.out.next HK.out)
      obtain ⟨-, -, -, -, c3, c4, fr⟩ := HT1.out.sc.facts
      have f3 := fr 3
      rw [← HR.out]
      clear fr HT0
      generalize (w.alloc _).drewN q = W1 at *
      obtain ⟨⟨k0, k1, k2, k3, k4, k5, k6, k7⟩, f0, f1, f2, f3', f4, f5, f6, f7⟩ := cells8 HT2.out.blk
      go_wp2
      refine bodyPost_ret (results_val rfl _ _ _ 40 _ (0, 0) _ rfl (set8 HT2.out.blk _ _ _ _ _ _ _ _) Try.underlying40 rfl infoTok _ rfl) rfl ?_
      exact HT2.out.ok HV.out _ _ _ _ _ _ _ _
    · rw [if_neg hc] at hv
      have HV := Lib.hid hv
      have hc2 : ¬ c.toNat = 62 := fun h => hc (UInt8.toNat_inj.1 h)
      have hc3 : ((c.toNat : Int) == 62) = false := by rw [beq_eq_false_iff_ne]; omega
      generalize c.toNat = x at *
      clear hv hc
      go_enter Try.func35, Try.ntmps35
      go_wp2_with fail
      refine HP.out.mono ?_
      rintro e w1 ⟨rfl, q, rfl⟩
      have HT1 := Lib.hid (HT0.out.drewN q)
      rw [← HR.out]
      clear HT0
      generalize (w.alloc _).drewN q = W1 at *
      obtain ⟨⟨k0, k1, k2, k3, k4, k5, k6, k7⟩, f0, f1, f2, f3, f4, f5, f6, f7⟩ := cells8 HT1.out.blk
      go_wp2
      refine bodyPost_ret (results_val rfl _ _ _ 40 _ (0, 0) _ rfl (set8 HT1.out.blk _ _ _ _ _ _ _ _) Try.underlying40 rfl infoTok _ rfl) rfl ?_
      exact HT1.out.err (by rw [HV.out]) (by decide) _ _ _ _ _ _ _ _ _ _ _ _ _
  · have hv := hV.trans (clV_out hk)
    unfold peekV at hP
    rw [if_neg hk] at hP
    have HP := Lib.hid hP
    obtain ⟨l, hl⟩ : ∃ l, X.last = l := ⟨_, rfl⟩
    rw [hl] at hv
    have HV := Lib.hid hv
    have HL := Lib.hid hl
    clear hv hV hk hP hsm hl
    cases l
    all_goals
      go_enter Try.func35, Try.ntmps35
      go_wp2_with fail
      refine HP.out.mono ?_
      rintro e w1 ⟨rfl, q, rfl⟩
      have HT1 := Lib.hid (HT0.out.drewN q)
      obtain ⟨-, -, -, -, -, c4, -⟩ := HT1.out.sc.facts
      rw [HL.out] at c4
      rw [← HR.out]
      clear HT0
      generalize (w.alloc _).drewN q = W1 at *
      obtain ⟨⟨k0, k1, k2, k3, k4, k5, k6, k7⟩, f0, f1, f2, f3, f4, f5, f6, f7⟩ := cells8 HT1.out.blk
      go_wp2
      refine bodyPost_ret (results_val rfl _ _ _ 40 _ (0, 0) _ rfl (set8 HT1.out.blk _ _ _ _ _ _ _ _) Try.underlying40 rfl infoTok _ rfl) rfl ?_
      exact HT1.out.err (by rw [HV.out]; rfl) (by decide) _ _ _ _ _ _ _ _ _ _ _ _ _
end Go.Proofs.Ytmejhjgdofncfaa
/-
  Walks of layer 10: <<, and texts in hex.
-/
namespace Go.Proofs.Ytmejhjgdofncfaa
open Go.RowKit

theorem openE_ne (l : Bool) : openE l ≠ 0 := by cases l <;> decide
/-- What a text in hex is as a token. -/
def hexK (last : Bool) (H : Int × List UInt8 × List UInt8) : Int × Tk × List UInt8 := if H.1 = 0 then (0, { kind := 1, vk := 4, vs := H.2.1 }, H.2.2) else if H.1 = 1 then (openE last, { kind := 0 }, []) else (11, { kind := 0 }, [])
def opV (X : Src) (k : Nat) : Int × Tk × List UInt8 := match X.bs.drop k with
  | [] => (openE X.last, { kind := 0 }, [])
  | d :: u => if d = 60 then (0, { kind := 4 }, u) else hexK X.last (hexV [] (-1) (d :: u))
theorem opV_in {X : Src} {k : Nat} (hk : k < X.bs.length) : opV X k = if X.bs.getD k 0 = 60 then (0, { kind := 4 }, X.bs.drop (k + 1)) else hexK X.last (hexV [] (-1) (X.bs.drop k)) := by
  unfold opV; rw [drop_cons hk]
theorem opV_out {X : Src} {k : Nat} (hk : ¬ k < X.bs.length) : opV X k = (openE X.last, { kind := 0 }, []) := by
  unfold opV; rw [drop_nil (by omega)]

set_option maxRecDepth 8000 in
set_option maxHeartbeats 4000000 in
theorem opening_any {w : World} {S : Nat → Prop} {p : Nat} {X : Src} {k : Nat} (h : ScQ w S p X [] k) (h1k : 1 ≤ k) :
    Calls Try.prog 34 #[.pointer (some ⟨p, 0, none⟩)] w (TokEnd w S p X (opV X k)) := by
  obtain ⟨V, hV⟩ : ∃ V, V = opV X k := ⟨_, rfl⟩
  rw [← hV]
  have hT := Tm.start h
  obtain ⟨r, hr⟩ : ∃ r, r = w.heap.size := ⟨_, rfl⟩
  rw [← hr] at hT
  have HT0 := Lib.hid hT
  have HR := Lib.hid hr
  have hP := peek_any hT.sc
  have hsm := h.facts.2.2.2.1
  clear hT hr h
  by_cases hk : k < X.bs.length
  · have hv := hV.trans (opV_in hk)
    unfold peekV u8C at hP
    rw [if_pos hk] at hP
    have HK := Lib.hid hk
    have H1K := Lib.hid h1k
    have hkb : k ≤ 99999 := by omega
    clear hsm
    generalize X.bs.getD k 0 = c at *
    have HP := Lib.hid hP
    clear hP hV hk
    by_cases hc : c = 60
    · rw [if_pos hc] at hv
      have HV := Lib.hid hv
      have hc2 : c.toNat = 60 := by rw [hc]; rfl
      rw [hc2] at HP
      clear hv hc hc2
      go_enter Try.func34, Try.ntmps34
      go_wp2_with fail
      refine HP.out.mono ?_
      rintro e w1 ⟨rfl, q, rfl⟩
      have HT1 := Lib.hid (HT0.out.drewN q)
      have HT2 := Lib.hid (HT1.out.next HK.out)
      obtain ⟨-, -, -, -, c3, c4, fr⟩ := HT1.out.sc.facts
      have f3 := fr 3
      rw [← HR.out]
      clear fr HT0
      generalize (w.alloc _).drewN q = W1 at *
      obtain ⟨⟨k0, k1, k2, k3, k4, k5, k6, k7⟩, f0, f1, f2, f3', f4, f5, f6, f7⟩ := cells8 HT2.out.blk
      go_wp2
      refine bodyPost_ret (results_val rfl _ _ _ 40 _ (0, 0) _ rfl (set8 HT2.out.blk _ _ _ _ _ _ _ _) Try.underlying40 rfl infoTok _ rfl) rfl ?_
      exact HT2.out.ok HV.out _ _ _ _ _ _ _ _
    · rw [if_neg hc] at hv
      have HV := Lib.hid hv
      have hc2 : ¬ c.toNat = 60 := fun h => hc (UInt8.toNat_inj.1 h)
      have hc3 : ((c.toNat : Int) == 60) = false := by rw [beq_eq_false_iff_ne]; omega
      generalize c.toNat = x at *
      clear hv hc
      go_enter Try.func34, Try.ntmps34
      go_wp2_with fail
      refine HP.out.mono ?_
      rintro e w1 ⟨rfl, q, rfl⟩
      have HT1 := Lib.hid (HT0.out.drewN q)
      rw [← HR.out]
      clear HT0
      generalize (w.alloc _).drewN q = W1 at *
      go_wp2_with fail
      refine (hexes_any HT1.out.sc H1K.out).mono ?_
      rintro e w2 ⟨hk2, hh⟩
      have HT2 := Lib.hid (Tn.of HT1.out hk2)
      generalize hexV [] (-1) (X.bs.drop k) = H at *
      rcases hh with ⟨h1, rfl⟩ | ⟨h1, rfl⟩ | ⟨h1, rfl, h2, h3⟩
      · have HL := Lib.hid (show V.1 = openE X.last by rw [HV.out, hexK, h1]; rfl)
        have HN := Lib.hid (openE_ne X.last)
        generalize openE X.last = er at *
        clear h1
        have HT3 := Lib.hid (HT2.out.alloc (.cells (valC 0 0 noStr) 27))
        obtain ⟨⟨k0, k1, k2, k3, k4, k5, k6, k7⟩, f0, f1, f2, f3, f4, f5, f6, f7⟩ := cells8 HT3.out.blk
        unfold valC noStr at *
        go_wp2
        refine bodyPost_ret (results_val rfl _ _ _ 40 _ (0, 0) _ rfl (set8 HT3.out.blk _ _ _ _ _ _ _ _) Try.underlying40 rfl infoTok _ rfl) rfl ?_
        exact HT3.out.err HL.out HN.out _ _ _ _ _ _ _ _ _ _ _ _ _
      · have HL := Lib.hid (show V.1 = 11 by rw [HV.out, hexK, h1]; rfl)
        clear h1
        have HT3 := Lib.hid (HT2.out.alloc (.cells (valC 0 0 noStr) 27))
        obtain ⟨⟨k0, k1, k2, k3, k4, k5, k6, k7⟩, f0, f1, f2, f3, f4, f5, f6, f7⟩ := cells8 HT3.out.blk
        unfold valC noStr at *
        go_wp2
        refine bodyPost_ret (results_val rfl _ _ _ 40 _ (0, 0) _ rfl (set8 HT3.out.blk _ _ _ _ _ _ _ _) Try.underlying40 rfl infoTok _ rfl) rfl ?_
        exact HT3.out.err HL.out (by decide) _ _ _ _ _ _ _ _ _ _ _ _ _
      · have HL := Lib.hid (show V = (0, { kind := 1, vk := 4, vs := H.2.1 }, H.2.2) by rw [HV.out, hexK, if_pos h1])
        have HA := Lib.hid (fun x => cell_alloc x h3)
        have HB := Lib.hid h2
        obtain ⟨B, hB⟩ : ∃ B, mkB H.2.1 = B := ⟨_, rfl⟩
        rw [hB]
        have HBB := Lib.hid hB
        have HT3 := Lib.hid (HT2.out.alloc (.cells (valC 4 0 B) 27))
        obtain ⟨⟨k0, k1, k2, k3, k4, k5, k6, k7⟩, f0, f1, f2, f3, f4, f5, f6, f7⟩ := cells8 HT3.out.blk
        unfold valC at *
        clear h1 h2 h3 hB
        go_wp2
        refine bodyPost_ret (results_val rfl _ _ _ 40 _ (0, 0) _ rfl (set8 HT3.out.blk _ _ _ _ _ _ _ _) Try.underlying40 rfl infoTok _ rfl) rfl ?_
        have hbb := HBB.out
        subst hbb
        exact HT3.out.ok (x := { kind := 1, vk := 4, vs := H.2.1 }) HL.out HB.out (HA.out _) _ _ _ _ _ _ _ _
  · have HV := Lib.hid (hV.trans (opV_out hk))
    unfold peekV at hP
    rw [if_neg hk] at hP
    have HP := Lib.hid hP
    clear hV hk hP hsm
    go_enter Try.func34, Try.ntmps34
    go_wp2_with fail
    refine HP.out.mono ?_
    rintro e w1 ⟨rfl, q, rfl⟩
    have HT1 := Lib.hid (HT0.out.drewN q)
    rw [← HR.out]
    clear HT0
    generalize (w.alloc _).drewN q = W1 at *
    obtain ⟨⟨k0, k1, k2, k3, k4, k5, k6, k7⟩, f0, f1, f2, f3, f4, f5, f6, f7⟩ := cells8 HT1.out.blk
    go_wp2_with fail
    refine (open_any HT1.out.sc).mono ?_
    rintro e w2 ⟨rfl, rfl⟩
    have HN := Lib.hid (openE_ne X.last)
    go_wp2
    refine bodyPost_ret (results_val rfl _ _ _ 40 _ (0, 0) _ rfl (set8 HT1.out.blk _ _ _ _ _ _ _ _) Try.underlying40 rfl infoTok _ rfl) rfl ?_
    exact HT1.out.err (by rw [HV.out]) HN.out _ _ _ _ _ _ _ _ _ _ _ _ _
end Go.Proofs.Ytmejhjgdofncfaa
