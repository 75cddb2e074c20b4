/-
  Walks of layer 10's reference: a text in brackets.
-/
import Derived.Test.YtkolfecjlbnfkaaLexL
namespace Go.Proofs.Ytkolfecjlbnfkaa
open Go.RowKit

theorem octV_bd {last : Bool} {c : UInt8} {t : List UInt8} {x : Nat × Nat} (h : octV last c t = some x) : 1 ≤ x.2 ∧ x.2 ≤ t.length + 1 := by
  rcases t with _ | ⟨d, _ | ⟨e, t⟩⟩
  · cases last <;> simp [octV] at h
    subst h; simp
  · by_cases hd : isOc d = true
    · cases last <;> simp [octV, hd] at h
      subst h; simp
    · simp [octV, hd] at h
      subst h; simp
  · by_cases hd : isOc d = true
    · by_cases he : isOc e = true
      · simp [octV, hd, he] at h
        subst h; simp
      · simp [octV, hd, he] at h
        subst h; simp
    · simp [octV, hd] at h
      subst h; simp
theorem escV_bd {last : Bool} {t : List UInt8} {x : List UInt8} {m : Nat} (h : escV last t = some (x, m)) : x.length ≤ 1 ∧ 1 ≤ m ∧ m ≤ t.length := by
  cases t with
  | nil => simp [escV] at h
  | cons c t =>
    unfold escV at h
    simp only [List.length_cons] at h ⊢
    by_cases h1 : c = 110
    · rw [if_pos h1] at h; cases h; simp
    rw [if_neg h1] at h
    by_cases h2 : c = 114
    · rw [if_pos h2] at h; cases h; simp
    rw [if_neg h2] at h
    by_cases h3 : c = 116
    · rw [if_pos h3] at h; cases h; simp
    rw [if_neg h3] at h
    by_cases h4 : c = 98
    · rw [if_pos h4] at h; cases h; simp
    rw [if_neg h4] at h
    by_cases h5 : c = 102
    · rw [if_pos h5] at h; cases h; simp
    rw [if_neg h5] at h
    by_cases h6 : isOc c = true
    · rw [if_pos h6] at h
      obtain ⟨y, hy, hx⟩ := Option.map_eq_some_iff.1 h
      cases hx
      obtain ⟨g1, g2⟩ := octV_bd hy
      exact ⟨by simp, g1, g2⟩
    rw [if_neg h6] at h
    by_cases h7 : c = 10
    · rw [if_pos h7] at h; cases h; simp
    rw [if_neg h7] at h
    by_cases h8 : c = 13
    · rw [if_pos h8] at h
      obtain ⟨y, hy, hx⟩ := Option.map_eq_some_iff.1 h
      cases hx
      refine ⟨by simp, by omega, ?_⟩
      cases t with
      | nil => cases last <;> simp [lineV] at hy; subst hy; simp
      | cons d t => simp only [lineV, Option.some.injEq] at hy; subst hy; simp only [List.length_cons]; split <;> omega
    rw [if_neg h8] at h
    cases h; simp

/-- What the document's text returns. -/
def TxtREnd (bs : List UInt8) (last : Bool) (V : Option (List UInt8 × List UInt8)) (w : World) (e : Ending) (w' : World) : Prop :=
  Below w.heap.size w w' ∧ match V with
  | none => e = .returned (.tuple #[.slice none 0 0, .int .i64 0, .int .i64 (openE last)])
  | some (x, r) => ∃ v, e = .returned (.tuple #[v, .int .i64 ((bs.length - r.length : Nat) : Int), .int .i64 0]) ∧ w'.ownsRow w.heap.size 5 1 v x.length (x.map u8C) ∧ r.length ≤ bs.length
theorem txtR_none {bs : List UInt8} {last : Bool} {V : Option (List UInt8 × List UInt8)} {w w' : World} {er : Int} (hV : V = none) (he : openE last = er) (hb : Below w.heap.size w w') : TxtREnd bs last V w (.returned (.tuple #[.slice none 0 0, .int .i64 0, .int .i64 er])) w' := by
  subst hV; subst he; exact ⟨hb, rfl⟩
theorem txtR_some {bs : List UInt8} {last : Bool} {V : Option (List UInt8 × List UInt8)} {w w' : World} {v : Value} {o : List UInt8} {j : Nat} {n : Int} (hV : V = some (o, bs.drop j)) (hj : j ≤ bs.length) (hn : n = (j : Int)) (hO : w'.ownsRow w.heap.size 5 1 v o.length (o.map u8C)) (hb : Below w.heap.size w w') :
    TxtREnd bs last V w (.returned (.tuple #[v, .int .i64 n, .int .i64 0])) w' := by
  subst hV; subst hn
  refine ⟨hb, v, ?_, hO, by simp⟩
  rw [List.length_drop, show bs.length - (bs.length - j) = j from by omega]
theorem put_one {B : Nat} {w wr w5 : World} {v v' : Value} {o : List UInt8} (c : UInt8) (O : Obj) (hB : Below B w wr) (hBw : B ≤ wr.heap.size) (hO : wr.ownsRow B 5 1 v o.length (o.map u8C)) {x : Value} (hx : x = u8C c) (hO5 : w5.ownsRow B 5 1 v' (o.length + 1) (o.map u8C ++ [x])) (hg5 : (wr.alloc O).grownBy w5 v.ownBlock) :
    w5.ownsRow B 5 1 v' (o ++ [c]).length ((o ++ [c]).map u8C) ∧ Below B w w5 := by
  subst hx
  exact ⟨by simpa using hO5, (hB.alloc hBw _).grown hg5 (by rw [sizeA]; omega) (fun q hq => (hO.lt q hq).1)⟩

set_option maxRecDepth 8000 in
set_option maxHeartbeats 8000000 in
theorem rtext_any {w : World} {a : Option Addr} {cap : Nat} {bs : List UInt8} (hr : Row w 1 a bs.length cap (bs.map u8C)) (hn : bs.length ≤ 100000) (k : Nat) (hk : k ≤ bs.length) (last : Bool) :
    Calls Try.prog 23 #[.slice a bs.length cap, .int .i64 k, .bool last] w (TxtREnd bs last (textV last 1 [] (bs.drop k)) w) := by
  obtain ⟨V, hV⟩ : ∃ V, V = textV last 1 [] (bs.drop k) := ⟨_, rfl⟩
  rw [← hV]
  have HV := Lib.hid hV
  have HC := Lib.hid (fun (W : World) (h : Below w.heap.size w W) j (hj : j < bs.length) => (hr.mono h).at 0 j hj)
  have HE := Lib.hid (fun (W : World) (h : Below w.heap.size w W) j => rescape_any (hr.mono h) hn j last)
  have HK := Lib.hid hk
  clear hV hr hk
  go_enter Try.func23, Try.ntmps23
  go_wp2
  go_loopw [1, 9, 10] (fun i v d wr => ∃ (j D : Nat) (o : List UInt8), j ≤ bs.length ∧ i = .int .i64 j ∧ d = .int .i64 D ∧ 1 ≤ D ∧ D ≤ j + 1 ∧ o.length ≤ j ∧ Hid (wr.ownsRow w.heap.size 5 1 v o.length (o.map u8C)) ∧ Hid (Below w.heap.size w wr) ∧ Hid (V = textV last D o (bs.drop j))) (fun i _ _ _ => bs.length - (intOf i).toNat)
  case atStart => exact ⟨k, 1, [], HK.out, rfl, by go_num, by omega, by omega, by simp, Lib.hid (World.ownsRow_nil _ _ _ _), Lib.hid (Below.refl _ _), HV⟩
  case round =>
    obtain ⟨j, D, o, hj, rfl, rfl, hD, hDj, hoj, HO, HB, HG⟩ := hrel
    have hsz := HB.out.size
    by_cases hlt : j < bs.length
    · obtain ⟨b0, off, ha, -, hc⟩ := HC.out wr HB.out j hlt
      unfold u8C at hc
      have hcj := hc j hlt
      have HCC := Lib.hid hc
      have hji : decide ((j : Int) < bs.length) = true := decide_eq_true (by omega)
      have hjl : (j : Int) < bs.length := by omega
      have hg := HG.out
      rw [drop_cons hlt] at hg
      have HCE := Lib.hid (HE.out wr HB.out (j + 1))
      subst ha
      obtain ⟨c, hcc⟩ : ∃ c, bs.getD j 0 = c := ⟨_, rfl⟩
      rw [hcc] at hcj hg
      clear hc hcc
      by_cases h92 : c = 92
      · subst h92
        rw [textV_esc] at hg
        obtain ⟨E, hE⟩ : ∃ E, escV last (bs.drop (j + 1)) = E := ⟨_, rfl⟩
        rw [hE] at hg HCE
        have hbd := fun x m h => escV_bd (last := last) (t := bs.drop (j + 1)) (x := x) (m := m) (hE.trans h)
        rw [List.length_drop] at hbd
        have HBD := Lib.hid hbd
        clear hE hbd
        unfold EscREnd at HCE
        cases E with
        | none =>
          have HG2 := Lib.hid (show V = none from hg)
          have HCE2 := Lib.hid (show Calls Try.prog 36 #[.slice (some ⟨b0, off, none⟩) bs.length cap, .int .i64 ((j : Int) + 1), .bool last] wr fun e w' => e = .returned (.tuple #[.int .u8 0, .int .i64 0, .bool false, .int .i64 (openE last)]) ∧ wr = w' from HCE.out)
          have ho1 : (openE last != 0) = true := by cases last <;> rfl
          have HQ := Lib.hid (show openE last = openE last from rfl)
          clear hg HCE
          generalize hOE : openE last = oe at *
          have HOE := Lib.hid hOE
          clear hOE
          go_wp2_with fail
          refine HCE2.out.mono ?_
          rintro e w2 ⟨rfl, rfl⟩
          go_wp2
          go_ret3
          exact txtR_none HG2.out HOE.out HB.out
        | some y =>
          obtain ⟨x, m⟩ := y
          obtain ⟨hx1, hm1, hm2⟩ := HBD.out x m rfl
          have hg3 : V = textV last D (o ++ x) ((bs.drop (j + 1)).drop m) := hg
          rw [List.drop_drop] at hg3
          clear hg
          rcases x with _ | ⟨z, _ | ⟨z2, zs⟩⟩
          · have HCE2 := Lib.hid (show Calls Try.prog 36 #[.slice (some ⟨b0, off, none⟩) bs.length cap, .int .i64 ((j : Int) + 1), .bool last] wr fun e w' => e = .returned (.tuple #[.int .u8 0, .int .i64 ((j + 1 + m : Nat) : Int), .bool false, .int .i64 0]) ∧ wr = w' from HCE.out)
            rw [List.append_nil] at hg3
            have HG3 := Lib.hid hg3
            clear hg3 HCE
            go_wp2_with fail
            refine HCE2.out.mono ?_
            rintro e w2 ⟨rfl, rfl⟩
            go_wp2
            go_roundw
            case rel => exact ⟨j + 1 + m, D, o, by omega, by go_num, rfl, hD, by omega, by omega, HO, HB, HG3⟩
            case measure => simp [intOf]; omega
          · have HCE2 := Lib.hid (show Calls Try.prog 36 #[.slice (some ⟨b0, off, none⟩) bs.length cap, .int .i64 ((j : Int) + 1), .bool last] wr fun e w' => e = .returned (.tuple #[.int .u8 z.toNat, .int .i64 ((j + 1 + m : Nat) : Int), .bool true, .int .i64 0]) ∧ wr = w' from HCE.out)
            have HG3 := Lib.hid hg3
            clear hg3 HCE
            go_wp2_with fail
            refine HCE2.out.mono ?_
            rintro e w2 ⟨rfl, rfl⟩
            go_wp2_with (at_builtin; refine append_row EByte rfl (.tmp 41) (.tmp 43) rfl w.heap.size _ o.length _ rfl (HO.out.alloc _) _ 1 _ _ rfl (row_new1 _ _ _) (one_mem rfl) (by unfold maxLen; omega) (by omega) (by rw [sizeA]; omega) ?_; intro v' w5 hO5 hg5 hnil5; have HP5 := Lib.hid (put_one z _ HB.out hsz HO.out rfl hO5 hg5); clear hO5 hg5 hnil5)
            go_roundw
            case rel => exact ⟨j + 1 + m, D, o ++ [z], by omega, by go_num, rfl, hD, by omega, by simp; omega, Lib.hid HP5.out.1, Lib.hid HP5.out.2, HG3⟩
            case measure => simp [intOf]; omega
          · simp at hx1
      · have e92 := u8_ne h92 92 rfl
        by_cases h13 : c = 13
        · subst h13
          rw [textV_nl] at hg
          by_cases hj1 : j + 1 < bs.length
          · have hc1 := HCC.out (j + 1) hj1
            rw [drop_cons hj1] at hg
            have d1 : decide ((bs.length : Int) ≤ (j : Int) + 1) = false := decide_eq_false (by omega)
            have d2 : decide ((j : Int) + 1 < bs.length) = true := decide_eq_true (by omega)
            have hjl1 : (j : Int) + 1 < bs.length := by omega
            by_cases h10 : bs.getD (j + 1) 0 = 10
            · have hg3 : V = textV last D (o ++ [10]) (bs.drop (j + 1 + 1)) := by
                rw [hg, h10]
                simp [lineV]
              rw [h10, show ((10 : UInt8).toNat : Int) = 10 from rfl] at hc1
              have HG3 := Lib.hid hg3
              clear hg hg3 h10 h92
              go_wp2_with (at_builtin; refine append_row EByte rfl (.tmp 89) (.tmp 91) rfl w.heap.size _ o.length _ rfl (HO.out.alloc _) _ 1 _ _ rfl (row_new1 _ _ _) (one_mem rfl) (by unfold maxLen; omega) (by omega) (by rw [sizeA]; omega) ?_; intro v' w5 hO5 hg5 hnil5; have HP5 := Lib.hid (put_one 10 _ HB.out hsz HO.out rfl hO5 hg5); clear hO5 hg5 hnil5)
              go_roundw
              case rel => exact ⟨j + 1 + 1, D, o ++ [10], by omega, by go_num, rfl, hD, by omega, by simp; omega, Lib.hid HP5.out.1, Lib.hid HP5.out.2, HG3⟩
              case measure => simp [intOf]; omega
            · have hg3 : V = textV last D (o ++ [10]) (bs.drop (j + 1)) := by
                rw [hg, drop_cons hj1]
                show textV last D (o ++ [10]) ((bs.getD (j + 1) 0 :: bs.drop (j + 1 + 1)).drop (if bs.getD (j + 1) 0 = 10 then 1 else 0)) = _
                rw [if_neg h10]; rfl
              have e10 := u8_ne h10 10 rfl
              have HG3 := Lib.hid hg3
              clear hg hg3 h10 h92
              generalize (bs.getD (j + 1) 0).toNat = y at *
              go_wp2_with (at_builtin; refine append_row EByte rfl (.tmp 89) (.tmp 91) rfl w.heap.size _ o.length _ rfl (HO.out.alloc _) _ 1 _ _ rfl (row_new1 _ _ _) (one_mem rfl) (by unfold maxLen; omega) (by omega) (by rw [sizeA]; omega) ?_; intro v' w5 hO5 hg5 hnil5; have HP5 := Lib.hid (put_one 10 _ HB.out hsz HO.out rfl hO5 hg5); clear hO5 hg5 hnil5)
              go_roundw
              case rel => exact ⟨j + 1, D, o ++ [10], by omega, by go_num, rfl, hD, by omega, by simp; omega, Lib.hid HP5.out.1, Lib.hid HP5.out.2, HG3⟩
              case measure => simp [intOf]; omega
          · rw [drop_nil hj1] at hg
            have d1 : decide ((bs.length : Int) ≤ (j : Int) + 1) = true := decide_eq_true (by omega)
            have d2 : decide ((j : Int) + 1 < bs.length) = false := decide_eq_false (by omega)
            clear h92
            cases last
            · have HG3 := Lib.hid (show V = none from hg)
              clear hg
              go_wp2
              go_ret3
              exact txtR_none HG3.out rfl HB.out
            · have HG3 := Lib.hid (show V = textV true D (o ++ [10]) (bs.drop (j + 1)) by rw [hg, drop_nil hj1]; rfl)
              clear hg
              go_wp2_with (at_builtin; refine append_row EByte rfl (.tmp 89) (.tmp 91) rfl w.heap.size _ o.length _ rfl (HO.out.alloc _) _ 1 _ _ rfl (row_new1 _ _ _) (one_mem rfl) (by unfold maxLen; omega) (by omega) (by rw [sizeA]; omega) ?_; intro v' w5 hO5 hg5 hnil5; have HP5 := Lib.hid (put_one 10 _ HB.out hsz HO.out rfl hO5 hg5); clear hO5 hg5 hnil5)
              go_roundw
              case rel => exact ⟨j + 1, D, o ++ [10], by omega, by go_num, rfl, hD, by omega, by simp; omega, Lib.hid HP5.out.1, Lib.hid HP5.out.2, HG3⟩
              case measure => simp [intOf]; omega
        · have e13 := u8_ne h13 13 rfl
          by_cases h40 : c = 40
          · subst h40
            rw [textV_in] at hg
            have HG3 := Lib.hid hg
            clear hg h92 h13
            go_wp2_with (at_builtin; refine append_row EByte rfl (.tmp 89) (.tmp 91) rfl w.heap.size _ o.length _ rfl (HO.out.alloc _) _ 1 _ _ rfl (row_new1 _ _ _) (one_mem rfl) (by unfold maxLen; omega) (by omega) (by rw [sizeA]; omega) ?_; intro v' w5 hO5 hg5 hnil5; have HP5 := Lib.hid (put_one 40 _ HB.out hsz HO.out rfl hO5 hg5); clear hO5 hg5 hnil5)
            go_roundw
            case rel => exact ⟨j + 1, D + 1, o ++ [40], by omega, by go_num, by go_num, by omega, by omega, by simp; omega, Lib.hid HP5.out.1, Lib.hid HP5.out.2, HG3⟩
            case measure => simp [intOf]; omega
          · have e40 := u8_ne h40 40 rfl
            by_cases h41 : c = 41
            · subst h41
              rw [textV_out] at hg
              by_cases hD1 : D = 1
              · subst hD1
                rw [if_pos rfl] at hg
                have HG3 := Lib.hid hg
                clear hg h92 h13 h40
                go_wp2
                go_ret3
                exact txtR_some HG3.out hlt rfl HO.out HB.out
              · rw [if_neg hD1] at hg
                have dD : (((D : Int) - 1) == 0) = false := by rw [beq_eq_false_iff_ne]; omega
                have HG3 := Lib.hid hg
                have HD := Lib.hid hD1
                clear hg h92 h13 h40 hD1
                go_wp2_with (at_builtin; refine append_row EByte rfl (.tmp 89) (.tmp 91) rfl w.heap.size _ o.length _ rfl (HO.out.alloc _) _ 1 _ _ rfl (row_new1 _ _ _) (one_mem rfl) (by unfold maxLen; omega) (by omega) (by rw [sizeA]; omega) ?_; intro v' w5 hO5 hg5 hnil5; have HP5 := Lib.hid (put_one 41 _ HB.out hsz HO.out rfl hO5 hg5); clear hO5 hg5 hnil5)
                go_roundw
                case rel => exact ⟨j + 1, D - 1, o ++ [41], by omega, by go_num, by go_num, by have := HD.out; omega, by omega, by simp; omega, Lib.hid HP5.out.1, Lib.hid HP5.out.2, HG3⟩
                case measure => simp [intOf]; omega
            · have e41 := u8_ne h41 41 rfl
              rw [textV_byte _ _ _ _ _ h92 h13 h40 h41] at hg
              have HG3 := Lib.hid hg
              have dD : ((D : Int) == 0) = false := by rw [beq_eq_false_iff_ne]; omega
              clear hg h92 h13 h40 h41
              obtain ⟨x, hx⟩ : ∃ x, c.toNat = x := ⟨_, rfl⟩
              rw [hx] at hcj e92 e13 e40 e41
              have HX := Lib.hid (show Value.int .u8 (x : Int) = u8C c by rw [← hx]; rfl)
              clear hx
              go_wp2_with (at_builtin; refine append_row EByte rfl (.tmp 89) (.tmp 91) rfl w.heap.size _ o.length _ rfl (HO.out.alloc _) _ 1 _ _ rfl (row_new1 _ _ _) (one_mem rfl) (by unfold maxLen; omega) (by omega) (by rw [sizeA]; omega) ?_; intro v' w5 hO5 hg5 hnil5; have HP5 := Lib.hid (put_one c _ HB.out hsz HO.out HX.out hO5 hg5); clear hO5 hg5 hnil5)
              go_roundw
              case rel => exact ⟨j + 1, D, o ++ [c], by omega, by go_num, rfl, hD, by omega, by simp; omega, Lib.hid HP5.out.1, Lib.hid HP5.out.2, HG3⟩
              case measure => simp [intOf]; omega
    · obtain rfl : j = bs.length := by omega
      have hg := HG.out
      rw [List.drop_length, textV_nil] at hg
      have HG2 := Lib.hid hg
      have hji : decide ((bs.length : Int) < bs.length) = false := decide_eq_false (by omega)
      clear hg
      go_wp2_with (go_at_call 35; refine (rcut_any _ _).mono ?_; rintro e w' ⟨rfl, rfl⟩)
      go_ret3
      exact txtR_none HG2.out rfl HB.out
end Go.Proofs.Ytkolfecjlbnfkaa
