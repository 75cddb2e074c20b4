/-
  Our texts ParT to Num2, in one.
-/
import Derived.Test.YtnkodejgiabamaaGreatDoorPkB1
import Derived.WalkKit
import Derived.WalkSpells
import Derived.WalkLawsBesides
import Derived.Lib.Hide
import Derived.Test.YtnkodejgiabamaaGreatDoorProg
import Derived.BigQuiet
import Derived.Deep.QuietTactic
import Derived.Laws.RangeAny
import Derived.IntWalk
import Derived.Lib.Bytealg
set_option maxRecDepth 8000
set_option maxHeartbeats 8000000
namespace Go.Proofs.YtnkodejgiabamaaGreatDoor
def refD (bs : List UInt8) (last : Bool) (at_ n : Int) : Bool × Int × Int :=
 let g := nextV bs at_ last
 if g.2.2.2 = 6 then (false, 0, 6) else
 if g.2.2.2 ≠ 0 ∨ wholeV g.1 = false then (false, 0, 0) else
 let r := nextV bs g.2.2.1 last
 if r.2.2.2 = 6 then (false, 0, 6) else
 if r.2.2.2 ≠ 0 ∨ r.1.kind ≠ 6 ∨ r.1.s ≠ [82] then (false, 0, 0) else
 if n < 1 ∨ 4096 < n ∨ g.1.vn ≠ 0 then (false, 0, 26) else (true, r.2.2.1, 0)
def singD (bs : List UInt8) (last : Bool) (t : Tk) (to : Int) : PV × Int × Int :=
 if t.kind = 6 then (match wordV t.s with | none => (PV.none, 0, 11) | some v => (v, to, 0))
 else if wholeV t = true then
   (if (refD bs last to t.vn).2.2 ≠ 0 then (PV.none, 0, (refD bs last to t.vn).2.2) else if (refD bs last to t.vn).1 = true then (.mk 8 t.vn [] [], (refD bs last to t.vn).2.1, 0) else (tkV t, to, 0))
 else (tkV t, to, 0)
def arrD (bs : List UInt8) (last : Bool) (f : Tk → Int → PV × Int × Int) : Nat → List PV → Int → PV × Int × Int
 | 0, _, _ => (PV.none, 0, 10)
 | r + 1, l, at_ =>
   if (nextV bs at_ last).2.2.2 ≠ 0 then (PV.none, 0, (nextV bs at_ last).2.2.2)
   else if (nextV bs at_ last).1.kind = 3 then (.mk 6 0 [] l, (nextV bs at_ last).2.2.1, 0)
   else if (f (nextV bs at_ last).1 (nextV bs at_ last).2.2.1).2.2 ≠ 0 then (PV.none, 0, (f (nextV bs at_ last).1 (nextV bs at_ last).2.2.1).2.2)
   else arrD bs last f r (l ++ [(f (nextV bs at_ last).1 (nextV bs at_ last).2.2.1).1]) (f (nextV bs at_ last).1 (nextV bs at_ last).2.2.1).2.1
def dictD (bs : List UInt8) (last : Bool) (f : Tk → Int → PV × Int × Int) (d : Nat) : Nat → List (PV × PV) → Bool → Int → PV × Int × Int
 | 0, _, _, _ => (PV.none, 0, 10)
 | r + 1, ps, tw, at_ =>
   let t := nextV bs at_ last
   if t.2.2.2 ≠ 0 then (PV.none, 0, t.2.2.2)
   else if t.1.kind = 5 then (if tw = true then (PV.none, 0, 16) else (.mk 7 0 [] (flatV ps), t.2.2.1, 0))
   else if t.1.kind = 0 then (PV.none, 0, 10)
   else if t.1.kind ≠ 1 ∨ t.1.vk ≠ 5 then (PV.none, 0, 11)
   else if d = 0 then (PV.none, 0, 15)
   else
     let u := nextV bs t.2.2.1 last
     if u.2.2.2 ≠ 0 then (PV.none, 0, u.2.2.2)
     else if (f u.1 u.2.2.1).2.2 ≠ 0 then (PV.none, 0, (f u.1 u.2.2.1).2.2)
     else dictD bs last f d r (putK (.mk 5 0 t.1.vs [], (f u.1 u.2.2.1).1) ps) (tw || hasK t.1.vs ps) (f u.1 u.2.2.1).2.1
def vlD (bs : List UInt8) (last : Bool) : Nat → Tk → Int → PV × Int × Int
 | 0, t, to =>
   if t.kind = 0 then (PV.none, 0, 10) else if t.kind = 2 ∨ t.kind = 4 then (PV.none, 0, 15) else if t.kind = 3 ∨ t.kind = 5 then (PV.none, 0, 11)
   else if (singD bs last t to).2.2 ≠ 0 then (PV.none, 0, (singD bs last t to).2.2) else (PV.none, 0, 15)
 | d + 1, t, to =>
   if t.kind = 0 then (PV.none, 0, 10)
   else if t.kind = 2 then arrD bs last (vlD bs last d) (bs.length + 1) [] to
   else if t.kind = 4 then dictD bs last (vlD bs last d) d (bs.length + 1) [] false to
   else if t.kind = 3 ∨ t.kind = 5 then (PV.none, 0, 11)
   else singD bs last t to
def wholeD (bs : List UInt8) (last : Bool) (at_ : Int) : PV × Int × Int :=
 if (nextV bs at_ last).2.2.2 ≠ 0 then (PV.none, 0, (nextV bs at_ last).2.2.2) else vlD bs last 64 (nextV bs at_ last).1 (nextV bs at_ last).2.2.1
theorem refD_is {bs : List UInt8} {last : Bool} {k : Int} (v : PV) (n : Int) (hn : v.n = n) :
   (refV bs last k v).2.2 = (refD bs last k n).2.2 ∧ ((refD bs last k n).2.2 = 0 → (refV bs last k v).1 = (if (refD bs last k n).1 = true then .mk 8 n [] [] else v) ∧ (refV bs last k v).2.1 = if (refD bs last k n).1 = true then (refD bs last k n).2.1 else k) := by
 unfold refV refD
 simp only
 by_cases g6 : (nextV bs k last).2.2.2 = 6
 · rw [if_pos (.inl (by rw [g6]; decide)), if_pos g6, g6]
   exact ⟨rfl, fun h => by cases h⟩
 · rw [if_neg g6]
   by_cases hc : (nextV bs k last).2.2.2 ≠ 0 ∨ wholeV (nextV bs k last).1 = false
   · rw [if_pos hc, if_pos hc]
     have : moreV (nextV bs k last).2.2.2 = 0 := if_neg g6
     exact ⟨this, fun _ => ⟨rfl, rfl⟩⟩
   · rw [if_neg hc, if_neg hc]
     by_cases r6 : (nextV bs (nextV bs k last).2.2.1 last).2.2.2 = 6
     · rw [if_pos (.inl (by rw [r6]; decide)), if_pos r6, r6]
       exact ⟨rfl, fun h => by cases h⟩
     · rw [if_neg r6]
       by_cases hd : (nextV bs (nextV bs k last).2.2.1 last).2.2.2 ≠ 0 ∨ (nextV bs (nextV bs k last).2.2.1 last).1.kind ≠ 6 ∨ (nextV bs (nextV bs k last).2.2.1 last).1.s ≠ [82]
       · rw [if_pos hd, if_pos hd]
         have : moreV (nextV bs (nextV bs k last).2.2.1 last).2.2.2 = 0 := if_neg r6
         exact ⟨this, fun _ => ⟨rfl, rfl⟩⟩
       · rw [if_neg hd, if_neg hd, hn]
         by_cases he : n < 1 ∨ 4096 < n ∨ (nextV bs k last).1.vn ≠ 0
         · rw [if_pos he, if_pos he]
           exact ⟨rfl, fun h => by cases h⟩
         · rw [if_neg he, if_neg he]
           exact ⟨rfl, fun _ => ⟨rfl, rfl⟩⟩
theorem singD_is {bs : List UInt8} {last : Bool} {st : List Lv} {to : Int} {t : Tk} (hw : topW st = false) :
   ((singD bs last t to).2.2 = 0 → singleV bs last st to t = ((singD bs last t to).1, (singD bs last t to).2.1, 0)) ∧ ((singD bs last t to).2.2 ≠ 0 → (singleV bs last st to t).2.2 = (singD bs last t to).2.2) := by
 have hs : singleV bs last st to t = (if t.kind = 6 then (match wordV t.s with | none => (PV.none, to, 11) | some v => (v, to, 0)) else if wholeV t = true then refV bs last to (tkV t) else (tkV t, to, 0)) := by
   unfold singleV
   rw [if_neg (by rintro ⟨h, -⟩; rw [hw] at h; cases h)]
   all_goals (try rfl)
 rw [hs]
 unfold singD
 by_cases k6 : t.kind = 6
 · simp only [if_pos k6]
   cases hq : wordV t.s with
   | none => exact ⟨fun h => (by cases h), fun _ => rfl⟩
   | some v => exact ⟨fun _ => rfl, fun h => absurd rfl h⟩
 · simp only [if_neg k6]
   by_cases hq : wholeV t = true
   · simp only [if_pos hq]
     obtain ⟨r1, r2⟩ := refD_is (bs := bs) (last := last) (k := to) (tkV t) t.vn rfl
     by_cases he : (refD bs last to t.vn).2.2 ≠ 0
     · simp only [if_pos he]
       exact ⟨fun h => absurd h he, fun _ => r1⟩
     · simp only [if_neg he]
       have he0 : (refD bs last to t.vn).2.2 = 0 := by simpa using he
       obtain ⟨p1, p2⟩ := r2 he0
       rw [he0] at r1
       by_cases hb : (refD bs last to t.vn).1 = true
       · simp only [if_pos hb] at p1 p2 ⊢
         exact ⟨fun _ => Prod.ext p1 (Prod.ext p2 r1), fun h => absurd rfl h⟩
       · simp only [if_neg hb] at p1 p2 ⊢
         exact ⟨fun _ => Prod.ext p1 (Prod.ext p2 r1), fun h => absurd rfl h⟩
   · simp only [if_neg hq]
     exact ⟨fun _ => by trivial, fun h => absurd rfl h⟩
def contO (bs : List UInt8) (last : Bool) (g : Nat) (st : List Lv) (at_ : Int) (x : PV) : Option (PV × Int × Int) :=
 match st with
 | [] => some (x, at_, 0)
 | top :: rest => valO bs last g ({ top with l := top.l ++ [x] } :: rest) at_
def aftO (bs : List UInt8) (last : Bool) (g : Nat) (st : List Lv) (to : Int) (t : Tk) : Option (PV × Int × Int) :=
 if (stepV bs last st to t).2.2.2 ≠ 0 then some (PV.none, 0, (stepV bs last st to t).2.2.2) else
 match (stepV bs last st to t).1 with
 | none => valO bs last g (stepV bs last st to t).2.1 (stepV bs last st to t).2.2.1
 | some x => contO bs last g (stepV bs last st to t).2.1 (stepV bs last st to t).2.2.1 x
theorem valO_eq (bs : List UInt8) (last : Bool) (g : Nat) (st : List Lv) (k : Int) : valO bs last (g + 1) st k = if (nextV bs k last).2.2.2 ≠ 0 then some (PV.none, 0, (nextV bs k last).2.2.2) else aftO bs last g st (nextV bs k last).2.2.1 (nextV bs k last).1 := by
 unfold aftO contO
 rw [valO]
 all_goals (try rfl)
def AnsD (bs : List UInt8) (last : Bool) (st : List Lv) (R : PV × Int × Int) (P : PV × Int × Int → Prop) : Prop :=
 (R.2.2 = 0 → ∀ V, (∃ g, contO bs last g st R.2.1 R.1 = some V) → P V) ∧ (R.2.2 ≠ 0 → P (PV.none, 0, R.2.2))
theorem aft_err {bs : List UInt8} {last : Bool} {st : List Lv} {to : Int} {t : Tk} {e : Int} (h : (stepV bs last st to t).2.2.2 = e) (he : e ≠ 0) : ∃ g, aftO bs last g st to t = some (PV.none, 0, e) := by
 refine ⟨0, ?_⟩
 unfold aftO
 rw [if_pos (by rw [h]; exact he), h]
theorem aft_none {bs : List UInt8} {last : Bool} {st st2 : List Lv} {to at2 : Int} {t : Tk} (h : stepV bs last st to t = (none, st2, at2, 0)) (g : Nat) : aftO bs last g st to t = valO bs last g st2 at2 := by
 unfold aftO
 rw [h]
 simp only
 rw [if_neg (by decide)]
theorem aft_some {bs : List UInt8} {last : Bool} {st st2 : List Lv} {to at2 : Int} {t : Tk} {x : PV} (h : stepV bs last st to t = (some x, st2, at2, 0)) (g : Nat) : aftO bs last g st to t = contO bs last g st2 at2 x := by
 unfold aftO
 rw [h]
 simp only
 rw [if_neg (by decide)]
theorem sing_ans {bs : List UInt8} {last : Bool} {st : List Lv} {to : Int} {t : Tk} (hw : topW st = false) (hk : t.kind = 1 ∨ t.kind = 6) :
   (st.length < 64 → AnsD bs last st (singD bs last t to) fun V => ∃ g, aftO bs last g st to t = some V) ∧
   (64 ≤ st.length → ∃ g, aftO bs last g st to t = some (PV.none, 0, if (singD bs last t to).2.2 ≠ 0 then (singD bs last t to).2.2 else 15)) := by
 obtain ⟨s1, s2⟩ := singD_is (bs := bs) (last := last) (to := to) (t := t) hw
 have hst : stepV bs last st to t = (if (singleV bs last st to t).2.2 ≠ 0 then (none, st, (singleV bs last st to t).2.1, (singleV bs last st to t).2.2) else if 64 ≤ st.length then (none, st, (singleV bs last st to t).2.1, 15) else (some (singleV bs last st to t).1, st, (singleV bs last st to t).2.1, 0)) := by
   unfold stepV
   rw [if_neg (by omega), if_neg (by omega), if_neg (by omega)]
 by_cases he : (singD bs last t to).2.2 = 0
 · have h1 := s1 he
   rw [h1] at hst
   simp only at hst
   rw [if_neg (by decide)] at hst
   refine ⟨fun hl => ⟨fun _ V hV => ?_, fun h => absurd he h⟩, fun hl => ?_⟩
   · rw [if_neg (by omega)] at hst
     obtain ⟨g, hg⟩ := hV
     exact ⟨g, by rw [aft_some hst]; exact hg⟩
   · rw [if_pos hl] at hst
     rw [if_neg (by simp [he])]
     exact aft_err (by rw [hst]) (by decide)
 · have h1 := s2 he
   rw [if_pos (by rw [h1]; exact he)] at hst
   refine ⟨fun hl => ⟨fun h => absurd h he, fun _ => ?_⟩, fun hl => ?_⟩
   · exact aft_err (by rw [hst]; exact h1) he
   · rw [if_pos he]
     exact aft_err (by rw [hst]; exact h1) he
def ValAt (bs : List UInt8) (last : Bool) (d : Nat) : Prop := ∀ (st : List Lv) (t : Tk) (to : Int), st.length + d = 64 → topW st = false → (t.kind = 3 → ∀ v rest, st = v :: rest → v.dict = true) → tkOk t → 0 ≤ to → to ≤ bs.length →
 AnsD bs last st (vlD bs last d t to) (fun V => ∃ g, aftO bs last g st to t = some V) ∧ ((vlD bs last d t to).2.2 = 0 → t.kind ≠ 0 ∧ to ≤ (vlD bs last d t to).2.1 ∧ (vlD bs last d t to).2.1 ≤ bs.length)
theorem arr_ans {bs : List UInt8} {last : Bool} {d : Nat} (hf : ValAt bs last d) (st : List Lv) (hd : st.length + 1 + d = 64) : ∀ (r : Nat) (l : List PV) (k : Int), 0 ≤ k → k ≤ bs.length → ((bs.length : Int) - k).toNat < r →
   AnsD bs last st (arrD bs last (vlD bs last d) r l k) (fun V => ∃ g, valO bs last g ({ dict := false, l := l } :: st) k = some V) ∧ ((arrD bs last (vlD bs last d) r l k).2.2 = 0 → k ≤ (arrD bs last (vlD bs last d) r l k).2.1 ∧ (arrD bs last (vlD bs last d) r l k).2.1 ≤ bs.length)
 | 0, _, _, _, _, h => by omega
 | r + 1, l, k, h, h2, hr => by
   obtain ⟨g1, g2⟩ := nextV_to last h h2
   have hok := nextV_ok last h h2
   have hfar := nextV_far (last := last) h h2
   have hval := valO_eq bs last
   simp only [arrD]
   by_cases he : (nextV bs k last).2.2.2 ≠ 0
   · rw [if_pos he]
     exact ⟨⟨fun h => absurd h he, fun _ => ⟨1, by rw [hval, if_pos he]⟩⟩, fun h => absurd h he⟩
   · rw [if_neg he]
     have he0 : (nextV bs k last).2.2.2 = 0 := by simpa using he
     have hfar2 := hfar he0
     have hgo : ∀ V, (∃ g, aftO bs last g ({ dict := false, l := l } :: st) (nextV bs k last).2.2.1 (nextV bs k last).1 = some V) → ∃ g, valO bs last g ({ dict := false, l := l } :: st) k = some V := fun V ⟨g, hg⟩ => ⟨g + 1, by rw [hval, if_neg he]; exact hg⟩
     generalize (nextV bs k last).2.2.1 = to at *
     generalize (nextV bs k last).1 = t at *
     by_cases k3 : t.kind = 3
     · rw [if_pos k3]
       have hst : stepV bs last ({ dict := false, l := l } :: st) to t = (some (.mk 6 0 [] l), st, to, 0) := by
         unfold stepV
         rw [if_neg (by omega), if_neg (by omega), if_pos (.inl k3)]
         have hk : (t.kind == 5) = false := by rw [beq_eq_false_iff_ne]; omega
         rw [hk]
         simp [endV12]
       exact ⟨⟨fun _ V ⟨g, hg⟩ => hgo V ⟨g, by rw [aft_some hst]; exact hg⟩, fun h => absurd rfl h⟩, fun _ => ⟨g1, g2⟩⟩
     · rw [if_neg k3]
       obtain ⟨f1, f2⟩ := hf ({ dict := false, l := l } :: st) t to (by simpa using hd) rfl (fun h => absurd h k3) hok (by omega) g2
       by_cases hv : (vlD bs last d t to).2.2 ≠ 0
       · rw [if_pos hv]
         exact ⟨⟨fun h => absurd h hv, fun _ => hgo _ (f1.2 hv)⟩, fun h => absurd h hv⟩
       · rw [if_neg hv]
         have hv0 : (vlD bs last d t to).2.2 = 0 := by simpa using hv
         obtain ⟨q1, q2, q3⟩ := f2 hv0
         have hlt := hfar2 q1
         obtain ⟨r1, r2⟩ := arr_ans hf st hd r (l ++ [(vlD bs last d t to).1]) (vlD bs last d t to).2.1 (by omega) q3 (by omega)
         exact ⟨⟨fun h V hV => hgo V (f1.1 hv0 V (r1.1 h V hV)), fun h => hgo _ (f1.1 hv0 _ (r1.2 h))⟩, fun h => ⟨by have := (r2 h).1; omega, (r2 h).2⟩⟩
theorem name_tk {t : Tk} (ht : tkOk t) (h1 : t.kind = 1) (h5 : t.vk = 5) : tkV t = .mk 5 0 t.vs [] := by
 obtain ⟨o1, -, -⟩ := ht.2.2 h1
 have hn : t.vn = 0 := by
   unfold tkV at o1
   rw [h5] at o1
   simp only [ownC] at o1
   rw [if_neg (by decide), if_neg (by decide), if_neg (by decide), if_neg (by decide), if_pos (by trivial)] at o1
   split at o1
   · cases o1
   · split at o1
     · rename_i h; exact h.1
     · cases o1
 unfold tkV
 rw [h5, hn]
theorem step_name {bs : List UInt8} {last : Bool} {st : List Lv} {to : Int} {t : Tk} (ht : tkOk t) (h1 : t.kind = 1) (h5 : t.vk = 5) : stepV bs last st to t = if 64 ≤ st.length then (none, st, to, 15) else (some (.mk 5 0 t.vs []), st, to, 0) := by
 have hs : singleV bs last st to t = (tkV t, to, 0) := by
   unfold singleV
   rw [if_neg (by rintro ⟨-, h | h⟩; exact h h1; exact h h5), if_neg (by omega), if_neg (by unfold wholeV; rw [h5]; simp)]
 unfold stepV
 rw [if_neg (by omega), if_neg (by omega), if_neg (by omega), hs, name_tk ht h1 h5]
 simp only
 rw [if_neg (by decide)]
theorem dict_ans {bs : List UInt8} {last : Bool} {d : Nat} (hf : ValAt bs last d) (st : List Lv) (hd : st.length + 1 + d = 64) : ∀ (r : Nat) (l : List PV) (k : Int), l.length % 2 = 0 → 0 ≤ k → k ≤ bs.length → ((bs.length : Int) - k).toNat < r →
   AnsD bs last st (dictD bs last (vlD bs last d) d r (docS (twoV l) [] false).1 (docS (twoV l) [] false).2 k) (fun V => ∃ g, valO bs last g ({ dict := true, l := l } :: st) k = some V) ∧ ((dictD bs last (vlD bs last d) d r (docS (twoV l) [] false).1 (docS (twoV l) [] false).2 k).2.2 = 0 → k ≤ (dictD bs last (vlD bs last d) d r (docS (twoV l) [] false).1 (docS (twoV l) [] false).2 k).2.1 ∧ (dictD bs last (vlD bs last d) d r (docS (twoV l) [] false).1 (docS (twoV l) [] false).2 k).2.1 ≤ bs.length)
 | 0, _, _, _, _, _, h => by omega
 | r + 1, l, k, hl, h, h2, hr => by
   obtain ⟨g1, g2⟩ := nextV_to last h h2
   have hok := nextV_ok last h h2
   have hfar := nextV_far (last := last) h h2
   have hval := valO_eq bs last
   have hpd := pairs_doc l
   have htw := docS_snoc (twoV l)
   have hts := two_snoc l
   simp only [dictD]
   generalize hps : docS (twoV l) [] false = D at *
   obtain ⟨ps, tw⟩ := D
   simp only at hpd ⊢
   by_cases he : (nextV bs k last).2.2.2 ≠ 0
   · rw [if_pos he]
     exact ⟨⟨fun h => absurd h he, fun _ => ⟨1, by rw [hval, if_pos he]⟩⟩, fun h => absurd h he⟩
   · rw [if_neg he]
     have he0 : (nextV bs k last).2.2.2 = 0 := by simpa using he
     have hfar2 := hfar he0
     have hgo : ∀ V, (∃ g, aftO bs last g ({ dict := true, l := l } :: st) (nextV bs k last).2.2.1 (nextV bs k last).1 = some V) → ∃ g, valO bs last g ({ dict := true, l := l } :: st) k = some V := fun V ⟨g, hg⟩ => ⟨g + 1, by rw [hval, if_neg he]; exact hg⟩
     generalize (nextV bs k last).2.2.1 = to at *
     generalize (nextV bs k last).1 = t at *
     have hw : topW ({ dict := true, l := l } :: st) = true := by simp [topW, wantsV, hl]
     by_cases k5 : t.kind = 5
     · rw [if_pos k5]
       have hst : stepV bs last ({ dict := true, l := l } :: st) to t = if tw = true then (none, { dict := true, l := l } :: st, to, 16) else (some (.mk 7 0 [] (flatV ps)), st, to, 0) := by
         have hww : wantsV { dict := true, l := l } = true := hw
         unfold stepV
         rw [if_neg (by omega), if_neg (by omega), if_pos (.inr k5)]
         have hk : (t.kind == 5) = true := by rw [beq_iff_eq]; exact k5
         rw [hk]
         cases tw with
         | true => simp [endV12, hww, hpd]
         | false => simp [endV12, hww, hpd]
       cases tw with
       | true =>
         rw [if_pos rfl] at hst ⊢
         exact ⟨⟨fun h => (by cases h), fun _ => hgo _ (aft_err (by rw [hst]) (by decide))⟩, fun h => by cases h⟩
       | false =>
         rw [if_neg (by decide)] at hst ⊢
         exact ⟨⟨fun _ V ⟨g, hg⟩ => hgo V ⟨g, by rw [aft_some hst]; exact hg⟩, fun h => absurd rfl h⟩, fun _ => ⟨g1, g2⟩⟩
     · rw [if_neg k5]
       by_cases k0 : t.kind = 0
       · rw [if_pos k0]
         exact ⟨⟨fun h => (by cases h), fun _ => hgo _ (aft_err (by unfold stepV; rw [if_pos k0]) (by decide))⟩, fun h => by cases h⟩
       · rw [if_neg k0]
         by_cases kv : t.kind ≠ 1 ∨ t.vk ≠ 5
         · rw [if_pos kv]
           have hst : (stepV bs last ({ dict := true, l := l } :: st) to t).2.2.2 = 11 := by
             unfold stepV
             rw [if_neg k0]
             by_cases k24 : t.kind = 2 ∨ t.kind = 4
             · rw [if_pos k24]
               unfold beginV
               rw [if_pos hw]
             · rw [if_neg k24]
               by_cases k3 : t.kind = 3
               · rw [if_pos (.inl k3)]
                 have hk : (t.kind == 5) = false := by rw [beq_eq_false_iff_ne]; omega
                 rw [hk]
                 simp [endV12]
               · rw [if_neg (by omega)]
                 have hs : singleV bs last ({ dict := true, l := l } :: st) to t = (PV.none, to, 11) := by
                   unfold singleV
                   rw [if_pos ⟨hw, kv⟩]
                 rw [hs]
                 rfl
           exact ⟨⟨fun h => (by cases h), fun _ => hgo _ (aft_err hst (by decide))⟩, fun h => by cases h⟩
         · rw [if_neg kv]
           have k1 : t.kind = 1 := Decidable.byContradiction fun h => kv (.inl h)
           have v5 : t.vk = 5 := Decidable.byContradiction fun h => kv (.inr h)
           have hst := step_name (bs := bs) (last := last) (st := { dict := true, l := l } :: st) (to := to) hok k1 v5
           by_cases d0 : d = 0
           · rw [if_pos d0]
             rw [if_pos (by simp only [List.length_cons]; omega)] at hst
             exact ⟨⟨fun h => (by cases h), fun _ => hgo _ (aft_err (by rw [hst]) (by decide))⟩, fun h => by cases h⟩
           · rw [if_neg d0]
             rw [if_neg (by simp only [List.length_cons]; omega)] at hst
             have hlt := hfar2 k0
             have hgo2 : ∀ V, (∃ g, valO bs last g ({ dict := true, l := l ++ [.mk 5 0 t.vs []] } :: st) to = some V) → ∃ g, valO bs last g ({ dict := true, l := l } :: st) k = some V := fun V ⟨g, hg⟩ => hgo V ⟨g, by rw [aft_some hst]; exact hg⟩
             obtain ⟨u1, u2⟩ := nextV_to (bs := bs) (k := to) last (by omega) g2
             have uok := nextV_ok (bs := bs) (k := to) last (by omega) g2
             by_cases ue : (nextV bs to last).2.2.2 ≠ 0
             · rw [if_pos ue]
               exact ⟨⟨fun h => absurd h ue, fun _ => hgo2 _ ⟨1, by rw [hval, if_pos ue]⟩⟩, fun h => absurd h ue⟩
             · rw [if_neg ue]
               have hgo3 : ∀ V, (∃ g, aftO bs last g ({ dict := true, l := l ++ [.mk 5 0 t.vs []] } :: st) (nextV bs to last).2.2.1 (nextV bs to last).1 = some V) → ∃ g, valO bs last g ({ dict := true, l := l } :: st) k = some V := fun V ⟨g, hg⟩ => hgo2 V ⟨g + 1, by rw [hval, if_neg ue]; exact hg⟩
               generalize (nextV bs to last).2.2.1 = uto at *
               generalize (nextV bs to last).1 = u at *
               obtain ⟨f1, f2⟩ := hf ({ dict := true, l := l ++ [.mk 5 0 t.vs []] } :: st) u uto (by simpa using hd) (by simp [topW, wantsV]; omega) (fun _ v rest hv => by cases hv; rfl) uok (by omega) u2
               by_cases hv : (vlD bs last d u uto).2.2 ≠ 0
               · rw [if_pos hv]
                 exact ⟨⟨fun h => absurd h hv, fun _ => hgo3 _ (f1.2 hv)⟩, fun h => absurd h hv⟩
               · rw [if_neg hv]
                 have hv0 : (vlD bs last d u uto).2.2 = 0 := by simpa using hv
                 obtain ⟨q1, q2, q3⟩ := f2 hv0
                 obtain ⟨r1, r2⟩ := dict_ans hf st hd r (l ++ [.mk 5 0 t.vs [], (vlD bs last d u uto).1]) (vlD bs last d u uto).2.1 (by simp; omega) (by omega) q3 (by omega)
                 rw [hts _ _ hl, htw, hps] at r1 r2
                 have happ : ∀ x : PV, (l ++ [.mk 5 0 t.vs []]) ++ [x] = l ++ [.mk 5 0 t.vs [], x] := fun x => by simp
                 have hc : ∀ V, (∃ g, valO bs last g ({ dict := true, l := l ++ [.mk 5 0 t.vs [], (vlD bs last d u uto).1] } :: st) (vlD bs last d u uto).2.1 = some V) → ∃ g, contO bs last g ({ dict := true, l := l ++ [.mk 5 0 t.vs []] } :: st) (vlD bs last d u uto).2.1 (vlD bs last d u uto).1 = some V := fun V ⟨g, hg⟩ => ⟨g, by show valO bs last g ({ dict := true, l := (l ++ [.mk 5 0 t.vs []]) ++ [_] } :: st) _ = _; rw [happ]; exact hg⟩
                 exact ⟨⟨fun h V hV => hgo3 V (f1.1 hv0 V (hc V (r1.1 h V hV))), fun h => hgo3 _ (f1.1 hv0 _ (hc _ (r1.2 h)))⟩, fun h => ⟨Int.le_trans (show k ≤ (vlD bs last d u uto).2.1 by omega) (r2 h).1, (r2 h).2⟩⟩
theorem refD_at {bs : List UInt8} {last : Bool} {k n : Int} (h : 0 ≤ k) (h2 : k ≤ bs.length) (hb : (refD bs last k n).1 = true) : k ≤ (refD bs last k n).2.1 ∧ (refD bs last k n).2.1 ≤ bs.length := by
 obtain ⟨g1, g2⟩ := nextV_to last h h2
 obtain ⟨r1, r2⟩ := nextV_to (bs := bs) (k := (nextV bs k last).2.2.1) last (by omega) g2
 unfold refD at hb ⊢
 simp only at hb ⊢
 split at hb
 · cases hb
 · rename_i q1
   rw [if_neg q1]
   split at hb
   · cases hb
   · rename_i q2
     rw [if_neg q2]
     split at hb
     · cases hb
     · rename_i q3
       rw [if_neg q3]
       split at hb
       · cases hb
       · rename_i q4
         rw [if_neg q4]
         split at hb
         · cases hb
         · rename_i q5
           rw [if_neg q5]
           exact ⟨Int.le_trans g1 r1, r2⟩
theorem singD_at {bs : List UInt8} {last : Bool} {k : Int} {t : Tk} (h : 0 ≤ k) (h2 : k ≤ bs.length) (he : (singD bs last t k).2.2 = 0) : k ≤ (singD bs last t k).2.1 ∧ (singD bs last t k).2.1 ≤ bs.length := by
 unfold singD at he ⊢
 split
 · rename_i q
   rw [if_pos q] at he
   cases hw : wordV t.s with
   | none => rw [hw] at he; cases he
   | some v => exact ⟨Int.le_refl _, h2⟩
 · rename_i q
   rw [if_neg q] at he
   split
   · rename_i q2
     rw [if_pos q2] at he
     split
     · rename_i q3; rw [if_pos q3] at he; exact absurd he q3
     · split
       · rename_i q4; exact refD_at h h2 q4
       · exact ⟨Int.le_refl _, h2⟩
   · exact ⟨Int.le_refl _, h2⟩
theorem close_err {bs : List UInt8} {last : Bool} {st : List Lv} {t : Tk} {to : Int} (hw : topW st = false) (hn3 : t.kind = 3 → ∀ v rest, st = v :: rest → v.dict = true) (k : t.kind = 3 ∨ t.kind = 5) : (stepV bs last st to t).2.2.2 = 11 := by
 have he : (endV12 st (t.kind == 5)).2.2 = 11 := by
   cases st with
   | nil => rfl
   | cons v rest =>
     unfold endV12
     simp only
     rw [if_pos]
     rcases k with k | k
     · left
       have hk : (t.kind == 5) = false := by rw [beq_eq_false_iff_ne]; omega
       rw [hk, hn3 k v rest rfl]
       decide
     · have hk : (t.kind == 5) = true := by rw [beq_iff_eq]; exact k
       rw [hk]
       exact .inr ⟨rfl, hw⟩
 unfold stepV
 rw [if_neg (by omega), if_neg (by omega), if_pos k]
 simp only
 rw [if_neg (by rw [he]; decide)]
 exact he
theorem val_ans {bs : List UInt8} {last : Bool} : ∀ d, ValAt bs last d
 | 0 => fun st t to hd hw hn3 ht h h2 => by
   unfold vlD
   by_cases k0 : t.kind = 0
   · rw [if_pos k0]
     exact ⟨⟨fun h => (by cases h), fun _ => aft_err (by unfold stepV; rw [if_pos k0]) (by decide)⟩, fun h => by cases h⟩
   · rw [if_neg k0]
     by_cases k24 : t.kind = 2 ∨ t.kind = 4
     · rw [if_pos k24]
       exact ⟨⟨fun h => (by cases h), fun _ => aft_err (by unfold stepV beginV; rw [if_neg k0, if_pos k24, if_neg (by rw [hw]; decide), if_pos (by omega)]) (by decide)⟩, fun h => by cases h⟩
     · rw [if_neg k24]
       by_cases k35 : t.kind = 3 ∨ t.kind = 5
       · rw [if_pos k35]
         exact ⟨⟨fun h => (by cases h), fun _ => aft_err (close_err hw hn3 k35) (by decide)⟩, fun h => by cases h⟩
       · rw [if_neg k35]
         have hk : t.kind = 1 ∨ t.kind = 6 := by have := ht.1; have := ht.2.1; omega
         have hs := (sing_ans (bs := bs) (last := last) (to := to) hw hk).2 (by omega)
         by_cases he : (singD bs last t to).2.2 ≠ 0
         · rw [if_pos he] at hs ⊢
           exact ⟨⟨fun h => absurd h he, fun _ => hs⟩, fun h => absurd h he⟩
         · rw [if_neg he] at hs ⊢
           exact ⟨⟨fun h => (by cases h), fun _ => hs⟩, fun h => by cases h⟩
 | d + 1 => fun st t to hd hw hn3 ht h h2 => by
   unfold vlD
   by_cases k0 : t.kind = 0
   · rw [if_pos k0]
     exact ⟨⟨fun h => (by cases h), fun _ => aft_err (by unfold stepV; rw [if_pos k0]) (by decide)⟩, fun h => by cases h⟩
   · rw [if_neg k0]
     have hbeg : ∀ q : Bool, beginV st q = ({ dict := q, l := [] } :: st, 0) := fun q => by
       unfold beginV
       rw [if_neg (by rw [hw]; decide), if_neg (by omega)]
     by_cases k2 : t.kind = 2
     · rw [if_pos k2]
       have hst : stepV bs last st to t = (none, { dict := false, l := [] } :: st, to, 0) := by
         unfold stepV
         have hk : (t.kind == 4) = false := by rw [beq_eq_false_iff_ne]; omega
         rw [if_neg k0, if_pos (.inl k2), hk, hbeg]
       obtain ⟨r1, r2⟩ := arr_ans (val_ans (bs := bs) (last := last) d) st (by omega) (bs.length + 1) [] to h h2 (by omega)
       exact ⟨⟨fun h V hV => by obtain ⟨g, hg⟩ := r1.1 h V hV; exact ⟨g, by rw [aft_none hst]; exact hg⟩, fun h => by obtain ⟨g, hg⟩ := r1.2 h; exact ⟨g, by rw [aft_none hst]; exact hg⟩⟩, fun h => ⟨k0, r2 h⟩⟩
     · rw [if_neg k2]
       by_cases k4 : t.kind = 4
       · rw [if_pos k4]
         have hst : stepV bs last st to t = (none, { dict := true, l := [] } :: st, to, 0) := by
           unfold stepV
           have hk : (t.kind == 4) = true := by rw [beq_iff_eq]; exact k4
           rw [if_neg k0, if_pos (.inr k4), hk, hbeg]
         obtain ⟨r1, r2⟩ := dict_ans (val_ans (bs := bs) (last := last) d) st (by omega) (bs.length + 1) [] to rfl h h2 (by omega)
         exact ⟨⟨fun h V hV => by obtain ⟨g, hg⟩ := r1.1 h V hV; exact ⟨g, by rw [aft_none hst]; exact hg⟩, fun h => by obtain ⟨g, hg⟩ := r1.2 h; exact ⟨g, by rw [aft_none hst]; exact hg⟩⟩, fun h => ⟨k0, r2 h⟩⟩
       · rw [if_neg k4]
         by_cases k35 : t.kind = 3 ∨ t.kind = 5
         · rw [if_pos k35]
           exact ⟨⟨fun h => (by cases h), fun _ => aft_err (close_err hw hn3 k35) (by decide)⟩, fun h => by cases h⟩
         · rw [if_neg k35]
           have hk : t.kind = 1 ∨ t.kind = 6 := by have := ht.1; have := ht.2.1; omega
           exact ⟨(sing_ans (bs := bs) (last := last) (to := to) hw hk).1 (by omega), fun he => ⟨k0, singD_at h h2 he⟩⟩
def ErrS (R : PV × Int × Int) : Prop := R.2.2 ≠ 0 → R = (PV.none, 0, R.2.2)
theorem sing_shape (bs : List UInt8) (last : Bool) (t : Tk) (to : Int) : ErrS (singD bs last t to) := by
 unfold singD ErrS
 split
 · split
   · exact fun _ => rfl
   · exact fun h => absurd rfl h
 · split
   · split
     · exact fun _ => rfl
     · split
       · exact fun h => absurd rfl h
       · exact fun h => absurd rfl h
   · exact fun h => absurd rfl h
theorem arr_shape (bs : List UInt8) (last : Bool) (f : Tk → Int → PV × Int × Int) : ∀ r l k, ErrS (arrD bs last f r l k)
 | 0, _, _ => fun _ => rfl
 | r + 1, l, k => by
   unfold ErrS
   simp only [arrD]
   split
   · exact fun _ => rfl
   · split
     · exact fun h => absurd rfl h
     · split
       · exact fun _ => rfl
       · exact arr_shape bs last f r _ _
theorem dict_shape (bs : List UInt8) (last : Bool) (f : Tk → Int → PV × Int × Int) (d : Nat) : ∀ r ps tw k, ErrS (dictD bs last f d r ps tw k)
 | 0, _, _, _ => fun _ => rfl
 | r + 1, ps, tw, k => by
   unfold ErrS
   simp only [dictD]
   split
   · exact fun _ => rfl
   · split
     · split
       · exact fun _ => rfl
       · exact fun h => absurd rfl h
     · split
       · exact fun _ => rfl
       · split
         · exact fun _ => rfl
         · split
           · exact fun _ => rfl
           · split
             · exact fun _ => rfl
             · split
               · exact fun _ => rfl
               · exact dict_shape bs last f d r _ _ _
theorem vl_shape (bs : List UInt8) (last : Bool) (d : Nat) (t : Tk) (to : Int) : ErrS (vlD bs last d t to) := by
 cases d with
 | zero =>
   unfold ErrS vlD
   split
   · exact fun _ => rfl
   · split
     · exact fun _ => rfl
     · split
       · exact fun _ => rfl
       · split
         · exact fun _ => rfl
         · exact fun _ => rfl
 | succ d =>
   unfold vlD
   split
   · exact fun _ => rfl
   · split
     · exact arr_shape _ _ _ _ _ _
     · split
       · exact dict_shape _ _ _ _ _ _ _ _
       · split
         · exact fun _ => rfl
         · exact sing_shape _ _ _ _
theorem wholeD_is {bs : List UInt8} {last : Bool} {k : Int} (h : 0 ≤ k) (h2 : k ≤ bs.length) : ∃ g, valO bs last g [] k = some (wholeD bs last k) := by
 obtain ⟨g1, g2⟩ := nextV_to last h h2
 have hok := nextV_ok last h h2
 unfold wholeD
 by_cases he : (nextV bs k last).2.2.2 ≠ 0
 · rw [if_pos he]
   exact ⟨1, by rw [valO_eq, if_pos he]⟩
 · rw [if_neg he]
   obtain ⟨⟨a1, a2⟩, -⟩ := val_ans (bs := bs) (last := last) 64 [] (nextV bs k last).1 (nextV bs k last).2.2.1 rfl rfl (fun _ v rest hv => by cases hv) hok (by omega) g2
   by_cases hv : (vlD bs last 64 (nextV bs k last).1 (nextV bs k last).2.2.1).2.2 = 0
   · obtain ⟨g, hg⟩ := a1 hv (vlD bs last 64 (nextV bs k last).1 (nextV bs k last).2.2.1) ⟨0, by
       show some (_, _, (0 : Int)) = some _
       rw [← hv]⟩
     exact ⟨g + 1, by rw [valO_eq, if_neg he]; exact hg⟩
   · obtain ⟨g, hg⟩ := a2 hv
     refine ⟨g + 1, ?_⟩
     rw [valO_eq, if_neg he, hg]
     exact congrArg some (vl_shape bs last 64 _ _ hv).symm
theorem valO_mono {bs : List UInt8} {last : Bool} : ∀ (g : Nat) (st : List Lv) (k : Int) (V : PV × Int × Int), valO bs last g st k = some V → valO bs last (g + 1) st k = some V
 | 0, _, _, _, h => by cases h
 | g + 1, st, k, V, h => by
   rw [valO_eq] at h ⊢
   by_cases he : (nextV bs k last).2.2.2 ≠ 0
   · rw [if_pos he] at h ⊢; exact h
   · rw [if_neg he] at h ⊢
     unfold aftO at h ⊢
     by_cases hs : (stepV bs last st (nextV bs k last).2.2.1 (nextV bs k last).1).2.2.2 ≠ 0
     · rw [if_pos hs] at h ⊢; exact h
     · rw [if_neg hs] at h ⊢
       generalize stepV bs last st (nextV bs k last).2.2.1 (nextV bs k last).1 = Z at *
       obtain ⟨v, st2, at2, e2⟩ := Z
       cases v with
       | none => exact valO_mono g st2 at2 V h
       | some x =>
         cases st2 with
         | nil => exact h
         | cons top rest => exact valO_mono g _ at2 V h
theorem valO_more {bs : List UInt8} {last : Bool} {g : Nat} {st : List Lv} {k : Int} {V : PV × Int × Int} (h : valO bs last g st k = some V) : ∀ j, valO bs last (g + j) st k = some V
 | 0 => h
 | j + 1 => valO_mono _ _ _ _ (valO_more h j)
theorem valO_one {bs : List UInt8} {last : Bool} {g g2 : Nat} {st : List Lv} {k : Int} {V V2 : PV × Int × Int} (h : valO bs last g st k = some V) (h2 : valO bs last g2 st k = some V2) : V = V2 := by
 have a1 := valO_more h g2
 have a2 := valO_more h2 g
 rw [Nat.add_comm] at a2
 rw [a1] at a2
 exact Option.some.inj a2
theorem parse_doc {bs : List UInt8} {last : Bool} {k : Int} (h : 0 ≤ k) (h2 : k ≤ bs.length) : valO bs last (bs.length + 2) [] k = some (wholeD bs last k) := by
 obtain ⟨V, hV⟩ := valO_some bs last (bs.length + 2) [] k h h2 (by omega)
 obtain ⟨g, hg⟩ := wholeD_is (last := last) h h2
 rw [hV, valO_one hV hg]
def fIx (s : List UInt8) : List (PV × PV) → Nat
 | [] => 0
 | y :: l => if y.1.s = s then 0 else fIx s l + 1
theorem fIx_le (s : List UInt8) : ∀ l, fIx s l ≤ l.length
 | [] => Nat.le_refl _
 | y :: l => by
   have := fIx_le s l
   unfold fIx
   split
   · exact Nat.zero_le _
   · simp; omega
theorem fIx_has (s : List UInt8) : ∀ l, hasK s l = decide (fIx s l < l.length)
 | [] => by simp [hasK, fIx]
 | y :: l => by
   have h := fIx_has s l
   unfold fIx
   by_cases e : y.1.s = s
   · rw [if_pos e]; simp [hasK, e]
   · rw [if_neg e]
     have : hasK s (y :: l) = hasK s l := by simp [hasK, e]
     rw [this, h]; simp
theorem fIx_ne (s : List UInt8) : ∀ (l : List (PV × PV)) (k : Nat) (y : PV × PV), k < fIx s l → l[k]? = some y → y.1.s ≠ s
 | [], k, y, h, _ => by simp [fIx] at h
 | z :: l, k, y, h, hk => by
   unfold fIx at h
   by_cases e : z.1.s = s
   · rw [if_pos e] at h; omega
   · rw [if_neg e] at h
     cases k with
     | zero => simp at hk; subst hk; exact e
     | succ k => exact fIx_ne s l k y (by omega) (by simpa using hk)
theorem fIx_eq (s : List UInt8) : ∀ (l : List (PV × PV)) (y : PV × PV), l[fIx s l]? = some y → y.1.s = s
 | [], y, h => by simp at h
 | z :: l, y, h => by
   unfold fIx at h
   by_cases e : z.1.s = s
   · rw [if_pos e] at h; simp at h; subst h; exact e
   · rw [if_neg e] at h
     exact fIx_eq s l y (by simpa using h)
theorem flat_at : ∀ (l : List (PV × PV)) (k : Nat) (y : PV × PV), l[k]? = some y → (flatV l)[2 * k]? = some y.1 ∧ (flatV l)[2 * k + 1]? = some y.2
 | [], k, y, h => by simp at h
 | (a, b) :: l, 0, y, h => by simp at h; subst h; exact ⟨rfl, rfl⟩
 | (a, b) :: l, k + 1, y, h => by
   have := flat_at l k y (by simpa using h)
   rw [show 2 * (k + 1) + 1 = 2 * k + 1 + 1 + 1 by omega, show 2 * (k + 1) = 2 * k + 1 + 1 by omega]
   simpa [flatV] using this
theorem flat_lenD : ∀ l : List (PV × PV), (flatV l).length = 2 * l.length
 | [] => rfl
 | (a, b) :: l => by simp [flatV, flat_lenD l]; omega
theorem flat_app : ∀ (a b : List (PV × PV)), flatV (a ++ b) = flatV a ++ flatV b
 | [], b => rfl
 | (x, y) :: a, b => by simp [flatV, flat_app a b]
theorem rep_len (x : PV × PV) : ∀ l, (repK x l).length = l.length
 | [] => rfl
 | y :: l => by
   unfold repK
   split
   · simp
   · simp [rep_len x l]
theorem rep_at (x : PV × PV) : ∀ (l : List (PV × PV)) (k : Nat) (y : PV × PV), l[k]? = some y → (repK x l)[k]? = some (y.1, if k = fIx x.1.s l then x.2 else y.2)
 | [], k, y, h => by simp at h
 | z :: l, k, y, h => by
   unfold repK fIx
   by_cases e : z.1.s = x.1.s
   · rw [if_pos e, if_pos e]
     cases k with
     | zero => simp at h; subst h; simp
     | succ k => simp at h ⊢; exact h
   · rw [if_neg e, if_neg e]
     cases k with
     | zero => simp at h; subst h; simp
     | succ k =>
       have := rep_at x l k y (by simpa using h)
       simp only [List.getElem?_cons_succ, this]
       simp
theorem rep_step (x : PV × PV) (l : List (PV × PV)) (k : Nat) (y : PV × PV) (h : l[k]? = some y) : flatV ((repK x l).take (k + 1)) = flatV ((repK x l).take k) ++ [y.1, if k = fIx x.1.s l then x.2 else y.2] := by
 rw [List.take_add_one, rep_at x l k y h, flat_app]; rfl
def gIx (s : List UInt8) : List (PV × PV) → Nat
 | [] => 0
 | y :: l => if sLt s y.1.s = true then 0 else gIx s l + 1
theorem gIx_le (s : List UInt8) : ∀ l, gIx s l ≤ l.length
 | [] => Nat.le_refl _
 | y :: l => by
   have := gIx_le s l
   unfold gIx
   split
   · exact Nat.zero_le _
   · simp; omega
theorem gIx_no (s : List UInt8) : ∀ (l : List (PV × PV)) (k : Nat) (y : PV × PV), k < gIx s l → l[k]? = some y → sLt s y.1.s = false
 | [], k, y, h, _ => by simp [gIx] at h
 | z :: l, k, y, h, hk => by
   unfold gIx at h
   by_cases e : sLt s z.1.s = true
   · rw [if_pos e] at h; omega
   · rw [if_neg e] at h
     cases k with
     | zero => simp at hk; subst hk; simpa using e
     | succ k => exact gIx_no s l k y (by omega) (by simpa using hk)
theorem gIx_yes (s : List UInt8) : ∀ (l : List (PV × PV)) (y : PV × PV), l[gIx s l]? = some y → sLt s y.1.s = true
 | [], y, h => by simp at h
 | z :: l, y, h => by
   unfold gIx at h
   by_cases e : sLt s z.1.s = true
   · rw [if_pos e] at h; simp at h; subst h; exact e
   · rw [if_neg e] at h
     exact gIx_yes s l y (by simpa using h)
theorem ins_is (x : PV × PV) : ∀ l, insK x l = l.take (gIx x.1.s l) ++ x :: l.drop (gIx x.1.s l)
 | [] => by simp [insK, gIx]
 | y :: l => by
   unfold insK gIx
   by_cases e : sLt x.1.s y.1.s = true
   · rw [if_pos e, if_pos e]; rfl
   · rw [if_neg e, if_neg e, ins_is x l]; rfl
def insT (x : PV × PV) (l : List (PV × PV)) (k : Nat) : List (PV × PV) := if gIx x.1.s l < k then l.take (gIx x.1.s l) ++ x :: (l.take k).drop (gIx x.1.s l) else l.take k
theorem insT_zero (x : PV × PV) (l : List (PV × PV)) : insT x l 0 = [] := by unfold insT; rw [if_neg (by omega)]; simp
theorem insT_step (x : PV × PV) (l : List (PV × PV)) (k : Nat) (y : PV × PV) (h : l[k]? = some y) (hk : k ≠ gIx x.1.s l) : flatV (insT x l (k + 1)) = flatV (insT x l k) ++ [y.1, y.2] := by
 have e : insT x l (k + 1) = insT x l k ++ [y] := by
   have hkl : k < l.length := (List.getElem?_eq_some_iff.1 h).1
   unfold insT
   by_cases g : gIx x.1.s l < k
   · rw [if_pos (by omega), if_pos g, List.take_add_one, h]
     simp only [Option.toList_some, List.append_assoc, List.cons_append]
     rw [List.drop_append_of_le_length (by simp; omega)]
   · rw [if_neg (by omega), if_neg g, List.take_add_one, h]; rfl
 rw [e, flat_app]; rfl
theorem insT_here (x : PV × PV) (l : List (PV × PV)) (y : PV × PV) (h : l[gIx x.1.s l]? = some y) : flatV (insT x l (gIx x.1.s l + 1)) = flatV (insT x l (gIx x.1.s l)) ++ [x.1, x.2, y.1, y.2] := by
 have e : insT x l (gIx x.1.s l + 1) = insT x l (gIx x.1.s l) ++ [x, y] := by
   unfold insT
   have hl : gIx x.1.s l < l.length := (List.getElem?_eq_some_iff.1 h).1
   rw [if_pos (by omega), if_neg (by omega), List.take_add_one, h]
   rw [List.drop_append_of_le_length (by simp; omega), List.drop_of_length_le (by rw [List.length_take]; omega)]
   rfl
 rw [e, flat_app]; rfl
theorem insT_end (x : PV × PV) (l : List (PV × PV)) : insK x l = if gIx x.1.s l < l.length then insT x l l.length else insT x l l.length ++ [x] := by
 have := gIx_le x.1.s l
 rw [ins_is]
 unfold insT
 by_cases g : gIx x.1.s l < l.length
 · rw [if_pos g, if_pos g]; simp
 · rw [if_neg g, if_neg g]
   have e : gIx x.1.s l = l.length := by omega
   rw [e]; simp
end Go.Proofs.YtnkodejgiabamaaGreatDoor
namespace Go.Proofs.YtnkodejgiabamaaGreatDoor
open Go.RowKit
def Row (w : World) (sz : Nat) (a : Option Addr) (n cap : Nat) (xs : List Value) : Prop :=
 xs.length = n * sz ∧ n ≤ cap ∧ cap ≤ maxLen ∧ (a = none → cap = 0) ∧
   (0 < n → ∃ b off, a = some ⟨b, off, none⟩ ∧ b < w.heap.size ∧ ∀ j u, xs[j]? = some u → w.cell? ⟨b, off + j, none⟩ = some u)
theorem cell?_keep {w w' : World} (hb : Below w.heap.size w w') {a : Addr} {v : Value} (h : w.cell? a = some v) : w'.cell? a = some v :=
 (hb.cell (World.block_lt_of_cell? w a h)).trans h
theorem Row.mono {w w' : World} {sz : Nat} {a : Option Addr} {n cap : Nat} {xs : List Value} (h : Row w sz a n cap xs) (hb : Below w.heap.size w w') : Row w' sz a n cap xs := by
 obtain ⟨h1, h2, h3, h4, h5⟩ := h
 refine ⟨h1, h2, h3, h4, fun hn => ?_⟩
 obtain ⟨b, off, ha, hlt, hc⟩ := h5 hn
 exact ⟨b, off, ha, Nat.lt_of_lt_of_le hlt hb.size, fun j u hj => cell?_keep hb (hc j u hj)⟩
theorem Row.i64 {w : World} {sz : Nat} {a : Option Addr} {n cap : Nat} {xs : List Value} (h : Row w sz a n cap xs) : (n : Int) ≤ 9223372036854775807 := by
 have := h.2.1; have := h.2.2.1; unfold maxLen at this; omega
theorem Row.i64c {w : World} {sz : Nat} {a : Option Addr} {n cap : Nat} {xs : List Value} (h : Row w sz a n cap xs) : (cap : Int) ≤ 9223372036854775807 := by
 have := h.2.2.1; unfold maxLen at this; omega
theorem Row.at {α : Type} {enc : α → Value} (d : α) {w : World} {a : Option Addr} {n cap : Nat} {l : List α} (h : Row w 1 a n cap (l.map enc)) (k : Nat) (hk : k < n) :
   ∃ b off, a = some ⟨b, off, none⟩ ∧ b < w.heap.size ∧ ∀ k, k < n → w.cell? ⟨b, off + k, none⟩ = some (enc (l.getD k d)) := by
 obtain ⟨h1, h2, h3, h4, h5⟩ := h
 obtain ⟨b, off, rfl, hb, hc⟩ := h5 (by omega)
 refine ⟨b, off, rfl, hb, fun k hk => hc k _ ?_⟩
 simp at h1 ⊢
 have : k < l.length := by omega
 simp [this]
theorem Row.len1 {α : Type} {enc : α → Value} {w : World} {a : Option Addr} {n cap : Nat} {l : List α} (h : Row w 1 a n cap (l.map enc)) : l.length = n := by
 have := h.1; simpa using this
theorem Row.nil (w : World) (sz : Nat) : Row w sz none 0 0 [] := ⟨by simp, Nat.le_refl _, by simp [maxLen], fun _ => rfl, fun h => by omega⟩
theorem Row.of_owns {w : World} {base e sz : Nat} {v : Value} {n : Nat} {xs : List Value} (h : w.ownsRow base e sz v n xs) :
   ∃ a cap, v = .slice a n cap ∧ Row w sz a n cap xs ∧ ∀ x, a = some x → base ≤ x.block := by
 obtain ⟨h1, h2⟩ := h
 rcases h2 with ⟨rfl, rfl⟩ | ⟨g, cap, cur, rfl, hb, hg, hn, hm, hs, ht⟩
 · have : xs = [] := List.eq_nil_of_length_eq_zero (by simpa using h1)
   subst this
   exact ⟨none, 0, rfl, Row.nil w sz, fun x hx => by cases hx⟩
 · refine ⟨some ⟨g, 0, none⟩, cap, rfl, ⟨h1, hn, hm, fun h => (by cases h), fun _ => ⟨g, 0, rfl, (Array.getElem?_eq_some_iff.1 hg).1, fun j u hj => ?_⟩⟩, fun x hx => by cases hx; exact hb⟩
   rw [Nat.zero_add, cell_of_row w g j cur e (0, 0) hg]
   rw [← ht, List.getElem?_take] at hj
   split at hj
   · simpa using hj
   · cases hj
theorem Row.of_own {w : World} {base e sz : Nat} {a : Option Addr} {n m cap : Nat} {xs : List Value} (h : w.ownsRow base e sz (.slice a n cap) m xs) : n = m ∧ Row w sz a n cap xs := by
 obtain ⟨a', cap', hv, hr, _⟩ := Row.of_owns h
 simp only [Value.slice.injEq] at hv
 obtain ⟨rfl, rfl, rfl⟩ := hv
 exact ⟨rfl, hr⟩
theorem ownsRow_keep {w w' : World} {base e sz : Nat} {v : Value} {n : Nat} {xs : List Value} (h : w.ownsRow base e sz v n xs) (hb : Below w.heap.size w w') : w'.ownsRow base e sz v n xs := by
 obtain ⟨h1, h2⟩ := h
 refine ⟨h1, ?_⟩
 rcases h2 with h2 | ⟨g, cap, cur, hv, hg, hh, r⟩
 · exact .inl h2
 · exact .inr ⟨g, cap, cur, hv, hg, by rw [hb.block g (Array.getElem?_eq_some_iff.1 hh).1]; exact hh, r⟩
theorem ownsRow_base {w : World} {base base' e sz : Nat} {v : Value} {n : Nat} {xs : List Value} (h : w.ownsRow base e sz v n xs) (hb : base' ≤ base) : w.ownsRow base' e sz v n xs := by
 obtain ⟨h1, h2⟩ := h
 refine ⟨h1, ?_⟩
 rcases h2 with h2 | ⟨g, cap, cur, hv, hg, r⟩
 · exact .inl h2
 · exact .inr ⟨g, cap, cur, hv, by omega, r⟩
theorem block_keep {w w' : World} (hb : Below w.heap.size w w') {b : Nat} {o : Obj} (h : w.heap[b]? = some o) : w'.heap[b]? = some o := by
 rw [hb.block b (Array.getElem?_eq_some_iff.1 h).1]; exact h
structure ElemT (P : Program) (t e : TypeId) (z : Value) (size bytes : Nat) : Prop where
 und : P.underlying t = some (.slice e)
 info : (P.info? e).map (fun i => (i.zero, i.size, i.bytes)) = some (some z, size, bytes)
 cells : z.cells.size = size
 pos : 0 < size
theorem ret_int {k : IntKind} {a b : Int} (h : a = b) : Ending.returned (.int k a) = .returned (.int k b) := by rw [h]
theorem ret_bool {a b : Bool} (h : a = b) : Ending.returned (.bool a) = .returned (.bool b) := by rw [h]
theorem heapA_new {w : World} {b : Nat} (o : Obj) (h : b = w.heap.size) : (w.alloc o).heap[b]? = some o := by subst h; exact heap_alloc_new w o
theorem heapA_old {w : World} {b : Nat} (o : Obj) {o' : Obj} (h : w.heap[b]? = some o') : (w.alloc o).heap[b]? = some o' := by
 rw [Below.heap_alloc w o b (Array.getElem?_eq_some_iff.1 h).1]; exact h
theorem sizeA (w : World) (o : Obj) : (w.alloc o).heap.size = w.heap.size + 1 := by
 show (w.heap.push o).size = _
 simp
theorem belowA (w : World) (o : Obj) : Below w.heap.size w (w.alloc o) := (Below.refl _ _).alloc (Nat.le_refl _) o
theorem belowA2 (w : World) (o o2 : Obj) : Below w.heap.size w ((w.alloc o).alloc o2) := (belowA w o).alloc (by rw [sizeA]; omega) o2
theorem belowA3 (w : World) (o o2 o3 : Obj) : Below w.heap.size w (((w.alloc o).alloc o2).alloc o3) := (belowA2 w o o2).alloc (by rw [sizeA, sizeA]; omega) o3
theorem append_row {P : Program} {w : World} {ops : Array Oper} {rest : List Oper} {o : Oper} {a : Act} {Q : Exit → Act → World → Prop} {t e : TypeId} {z : Value} {size bytes : Nat} (T : ElemT P t e z size bytes)
   (hgd : o.guard = none) (s x : Operand) (ho : o.op = .call { callee := .builtin .append, args := #[s, x], argTypes := #[t, t] })
   (base : Nat) (v : Value) (n : Nat) (xs : List Value) (hs : a.eval s = v) (hown : w.ownsRow base e size v n xs)
   (ao : Option Addr) (m c : Nat) (news : List Value) (hx : a.eval x = .slice ao m c) (hr : Row w size ao m c news) (h1 : ∀ u ∈ news, u.oneCell' = true)
   (h63 : n + m ≤ maxLen) (hbytes : (n + m) * bytes ≤ 140737488355328) (hbase : base ≤ w.heap.size)
   (h : ∀ v' w', w'.ownsRow base e size v' (n + m) (xs ++ news) → w.grownBy w' v.ownBlock → (v' = .slice none 0 0 ↔ v = .slice none 0 0 ∧ m = 0) → wpList P ops Q rest (a.put o.dst v') w') : wpList P ops Q (o :: rest) a w := by
 obtain ⟨i, hi, hz, hs', hb⟩ := info_parts T.info
 subst hb
 obtain ⟨r1, r2, r3, r4, r5⟩ := hr
 cases ao with
 | some ad =>
   refine wpList_append_own w hgd s x t ho base e i z size i.bytes T.und hi hz hs' rfl T.cells T.pos v n xs hs hown ad m c news hx r1 (fun j u hj => ?_) h1 h63 hbytes hbase h
   by_cases hm : 0 < m
   · obtain ⟨b, off, hab, _, hc⟩ := r5 hm
     obtain rfl := Option.some.inj hab
     rw [Addr.add_lit]; exact hc j u hj
   · obtain rfl : m = 0 := by omega
     have : news = [] := List.eq_nil_of_length_eq_zero (by simpa using r1)
     subst this; simp at hj
 | none =>
   obtain rfl := r4 rfl
   obtain rfl : m = 0 := by omega
   have : news = [] := List.eq_nil_of_length_eq_zero (by simpa using r1)
   subst this
   refine wpList_plain hgd fun K hK => ?_
   have hrun := run_append_owned_none (P := P) w base t o.type e i size T.und hi v n xs hown
   unfold Oper.wp
   simp [execOp, ho, resolve, invoke, builtin, hs, hx, hrun, Result.andThen]
   exact hK _ _ (h v w (by simpa using hown) ⟨rfl, rfl, rfl, Nat.le_refl _, fun _ _ _ => rfl⟩ (by simp))
theorem row_new1 (w : World) (x : Value) (e : TypeId) : Row (w.alloc (.cells #[x] e)) 1 (some ⟨w.heap.size, 0, none⟩) 1 1 [x] :=
 ⟨rfl, Nat.le_refl _, by simp [maxLen], fun h => (by cases h), fun _ => ⟨w.heap.size, 0, rfl, by rw [sizeA]; omega, fun j u hj => by
   rw [cell_of_row _ _ _ _ _ _ (heapA_new _ rfl)]
   rcases j with _ | j
   · simpa using hj
   · simp at hj⟩⟩
theorem one_mem {x : Value} (h : x.oneCell' = true) : ∀ u ∈ [x], u.oneCell' = true := by
 intro u hu; simp at hu; subst hu; exact h
theorem below_cell {B : Nat} {w w' : World} (h : Below B w w') {b o : Nat} {v : Value} (hb : b < B) (hc : w.cell? ⟨b, o, none⟩ = some v) : w'.cell? ⟨b, o, none⟩ = some v := (h.cell (p := ⟨b, o, none⟩) hb).trans hc
theorem Row.below {B : Nat} {w w' : World} {sz : Nat} {a : Option Addr} {n cap : Nat} {xs : List Value} (h : Row w sz a n cap xs) (hb : Below B w w') (ha : ∀ x, a = some x → x.block < B) : Row w' sz a n cap xs := by
 obtain ⟨h1, h2, h3, h4, h5⟩ := h
 refine ⟨h1, h2, h3, h4, fun hn => ?_⟩
 obtain ⟨b, off, ha', hlt, hc⟩ := h5 hn
 exact ⟨b, off, ha', Nat.lt_of_lt_of_le hlt hb.size, fun j u hj => below_cell hb (ha _ ha') (hc j u hj)⟩
theorem Row.lt {w : World} {sz : Nat} {a : Option Addr} {n cap : Nat} {xs : List Value} (h : Row w sz a n cap xs) (hn : 0 < n) : ∀ x, a = some x → x.block < w.heap.size := by
 obtain ⟨b, off, ha, hlt, _⟩ := h.2.2.2.2 hn
 intro x hx
 rw [ha] at hx; cases hx; exact hlt
def NewAt (w : World) (v v' : Value) : Prop := ∀ b, v'.ownBlock = some b → v.ownBlock = some b ∨ w.heap.size ≤ b
theorem run_append_at {P : Program} (w : World) (base : Nat) (t ty e : TypeId) (i : TypeInfo) (z : Value) (size bytes : Nat) (ht : P.underlying t = some (.slice e)) (hi : P.info? e = some i) (hz : i.zero = some z)
   (hsize : i.size = size) (hby : i.bytes = bytes) (hzs : z.cells.size = size) (hsz : 0 < size)
   (v : Value) (n : Nat) (xs : List Value) (hown : w.ownsRow base e size v n xs)
   (a : Addr) (m c : Nat) (news : List Value) (hl : news.length = m * size) (hnews : ∀ j u, news[j]? = some u → w.cell? (a.add j) = some u) (h1 : ∀ u ∈ news, u.oneCell' = true)
   (h63 : n + m ≤ maxLen) (hbytes : (n + m) * bytes ≤ 140737488355328) (hbase : base ≤ w.heap.size) :
   ∃ v' w', (Builtin.append_ #[t, t] ty #[v, .slice (some a) m c]).run P w = .ok v' w' ∧ w'.ownsRow base e size v' (n + m) (xs ++ news) ∧ w.grownBy w' v.ownBlock ∧
     (v' = .slice none 0 0 ↔ v = .slice none 0 0 ∧ m = 0) ∧ NewAt w v v' := by
 obtain ⟨v', w', hr, h2, h3, h4⟩ := run_append_own (P := P) w base t ty e i z size bytes ht hi hz hsize hby hzs hsz v n xs hown a m c news hl hnews h1 h63 hbytes hbase
 refine ⟨v', w', hr, h2, h3, h4, ?_⟩
 have hsmall : n + m ≤ 9223372036854775807 := by simp only [maxLen] at h63; omega
 rcases hown.2 with ⟨rfl, hx⟩ | ⟨g, cap, cur, rfl, hbg, hg, hnc, hcm, hcs, htake⟩
 · obtain ⟨v2, w2, hr2, g2, _, _⟩ := run_append_own (P := P) w w.heap.size t ty e i z size bytes ht hi hz hsize hby hzs hsz _ n xs ⟨hown.1, .inl ⟨rfl, hx⟩⟩ a m c news hl hnews h1 h63 hbytes (Nat.le_refl _)
   rw [hr] at hr2
   simp only [Result.ok.injEq] at hr2
   obtain ⟨rfl, rfl⟩ := hr2
   exact fun b hb => .inr (g2.lt b hb).1
 · subst hsize hby
   by_cases hroom : n + m ≤ cap
   · have hfit : n * i.size + news.length ≤ cur.size := by rw [hl, hcs, ← Nat.add_mul]; exact Nat.mul_le_mul_right _ hroom
     have hr2 := run_append_room (P := P) w t ty e i ht hi g n cap cur hg a m c news hl hnews h1 hroom hfit
     rw [hr] at hr2
     simp only [Result.ok.injEq] at hr2
     obtain ⟨rfl, rfl⟩ := hr2
     exact fun b hb => .inl hb
   · have hr2 := run_append_grow (P := P) w t ty e i z ht hi hz ⟨g, 0, none⟩ n cap xs hown.1 (hown.cells (g := g) rfl) a m c news hl hnews (by omega) (by omega) (growslice_fits (by omega) hbytes)
     rw [hr] at hr2
     simp only [Result.ok.injEq] at hr2
     obtain ⟨rfl, rfl⟩ := hr2
     intro b hb
     simp [Value.ownBlock] at hb
     right; omega
theorem append_at {P : Program} {w : World} {ops : Array Oper} {rest : List Oper} {o : Oper} {a : Act} {Q : Exit → Act → World → Prop} {t e : TypeId} {z : Value} {size bytes : Nat} (T : ElemT P t e z size bytes)
   (hgd : o.guard = none) (s x : Operand) (ho : o.op = .call { callee := .builtin .append, args := #[s, x], argTypes := #[t, t] })
   (base : Nat) (v : Value) (n : Nat) (xs : List Value) (hs : a.eval s = v) (hown : w.ownsRow base e size v n xs)
   (ao : Option Addr) (m c : Nat) (news : List Value) (hx : a.eval x = .slice ao m c) (hr : Row w size ao m c news) (h1 : ∀ u ∈ news, u.oneCell' = true)
   (h63 : n + m ≤ maxLen) (hbytes : (n + m) * bytes ≤ 140737488355328) (hbase : base ≤ w.heap.size)
   (h : ∀ v' w', w'.ownsRow base e size v' (n + m) (xs ++ news) → w.grownBy w' v.ownBlock → NewAt w v v' → wpList P ops Q rest (a.put o.dst v') w') : wpList P ops Q (o :: rest) a w := by
 obtain ⟨i, hi, hz, hs', hb⟩ := info_parts T.info
 subst hb
 obtain ⟨r1, r2, r3, r4, r5⟩ := hr
 cases ao with
 | some ad =>
   refine wpList_plain hgd fun K hK => ?_
   obtain ⟨v', w', hrun, g2, g3, _, g5⟩ := run_append_at (P := P) w base t o.type e i z size i.bytes T.und hi hz hs' rfl T.cells T.pos v n xs hown ad m c news r1 (fun j u hj => by
     by_cases hm : 0 < m
     · obtain ⟨b, off, hab, _, hc⟩ := r5 hm
       obtain rfl := Option.some.inj hab
       rw [Addr.add_lit]; exact hc j u hj
     · obtain rfl : m = 0 := by omega
       have : news = [] := List.eq_nil_of_length_eq_zero (by simpa using r1)
       subst this; simp at hj) h1 h63 hbytes hbase
   unfold Oper.wp
   simp [execOp, ho, resolve, invoke, builtin, hs, hx, hrun, Result.andThen]
   exact hK _ _ (h v' w' g2 g3 g5)
 | none =>
   obtain rfl := r4 rfl
   obtain rfl : m = 0 := by omega
   have : news = [] := List.eq_nil_of_length_eq_zero (by simpa using r1)
   subst this
   refine wpList_plain hgd fun K hK => ?_
   have hrun := run_append_owned_none (P := P) w base t o.type e i size T.und hi v n xs hown
   unfold Oper.wp
   simp [execOp, ho, resolve, invoke, builtin, hs, hx, hrun, Result.andThen]
   exact hK _ _ (h v w (by simpa using hown) ⟨rfl, rfl, rfl, Nat.le_refl _, fun _ _ _ => rfl⟩ (fun b hb => .inl hb))
structure Keeps (S : Nat → Prop) (w w' : World) : Prop where
 os : w'.os = w.os
 tape : w'.tape = w.tape
 output : w'.output = w.output
 size : w.heap.size ≤ w'.heap.size
 block : ∀ b, b < w.heap.size → ¬ S b → w'.heap[b]? = w.heap[b]?
theorem Keeps.refl (S : Nat → Prop) (w : World) : Keeps S w w := ⟨rfl, rfl, rfl, Nat.le_refl _, fun _ _ _ => rfl⟩
theorem Keeps.trans {S S' : Nat → Prop} {a b c : World} (h : Keeps S a b) (k : Keeps S' b c) (hS : ∀ x, S' x → S x ∨ a.heap.size ≤ x) : Keeps S a c :=
 ⟨k.os.trans h.os, k.tape.trans h.tape, k.output.trans h.output, Nat.le_trans h.size k.size, fun x hx hn => (k.block x (Nat.lt_of_lt_of_le hx h.size) (fun e => (hS x e).elim hn (fun h => by omega))).trans (h.block x hx hn)⟩
theorem Keeps.of_grown {S : Nat → Prop} {w w' : World} {row : Option Nat} (h : w.grownBy w' row) (hr : ∀ k, row = some k → S k) : Keeps S w w' :=
 ⟨h.os, h.tape, h.output, h.size, fun b hb hn => h.block b hb (fun e => hn (hr b e.symm))⟩
theorem Keeps.of_below {S : Nat → Prop} {w w' : World} {B : Nat} (h : Below B w w') (hS : ∀ b, B ≤ b → S b) : Keeps S w w' :=
 ⟨h.os, h.tape, h.output, h.size, fun b _ hn => h.block b (Nat.lt_of_not_le fun e => hn (hS b e))⟩
theorem Keeps.below {S : Nat → Prop} {w w' : World} {B : Nat} (h : Keeps S w w') (hB : B ≤ w.heap.size) (hS : ∀ b, S b → B ≤ b) : Below B w w' :=
 ⟨h.os, h.tape, h.output, h.size, fun b hb => h.block b (by omega) (fun e => by have := hS b e; omega)⟩
theorem Keeps.cell {S : Nat → Prop} {w w' : World} (h : Keeps S w w') {b o : Nat} {v : Value} (hc : w.cell? ⟨b, o, none⟩ = some v) (hn : ¬ S b) : w'.cell? ⟨b, o, none⟩ = some v := by
 have hlt : b < w.heap.size := World.block_lt_of_cell? w _ hc
 rw [World.cell?_of_block (w := w) (a := ⟨b, o, none⟩) (h.block b hlt hn)]; exact hc
theorem Keeps.obj {S : Nat → Prop} {w w' : World} (h : Keeps S w w') {b : Nat} {o : Obj} (hc : w.heap[b]? = some o) (hn : ¬ S b) : w'.heap[b]? = some o := by
 rw [h.block b (Array.getElem?_eq_some_iff.1 hc).1 hn]; exact hc
theorem Row.keeps {S : Nat → Prop} {w w' : World} {sz : Nat} {a : Option Addr} {n cap : Nat} {xs : List Value} (h : Row w sz a n cap xs) (hk : Keeps S w w') (hne : ∀ x, a = some x → ¬ S x.block) : Row w' sz a n cap xs := by
 obtain ⟨h1, h2, h3, h4, h5⟩ := h
 refine ⟨h1, h2, h3, h4, fun hn => ?_⟩
 obtain ⟨b, off, ha, hlt, hc⟩ := h5 hn
 exact ⟨b, off, ha, Nat.lt_of_lt_of_le hlt hk.size, fun j u hj => hk.cell (hc j u hj) (hne _ ha)⟩
theorem Keeps.weaken {S S' : Nat → Prop} {w w' : World} (h : Keeps S w w') (hS : ∀ b, S b → S' b) : Keeps S' w w' := ⟨h.os, h.tape, h.output, h.size, fun b hb hn => h.block b hb (fun e => hn (hS b e))⟩
theorem Keeps.drewN {S : Nat → Prop} {w w' : World} (h : Keeps S w w') (q : Nat) : Keeps S w (w'.drewN q) := ⟨h.os, h.tape, h.output, h.size, h.block⟩
theorem Keeps.alloc {S : Nat → Prop} {w w' : World} (h : Keeps S w w') (o : Obj) : Keeps S w (w'.alloc o) :=
 ⟨h.os, h.tape, h.output, by rw [sizeA]; have := h.size; omega, fun b hb hn => (Below.heap_alloc w' o b (Nat.lt_of_lt_of_le hb h.size)).trans (h.block b hb hn)⟩
theorem Keeps.setCell {S : Nat → Prop} {w w' : World} (h : Keeps S w w') {a : Addr} (ha : S a.block ∨ w.heap.size ≤ a.block) (v : Value) : Keeps S w (w'.setCell a v) :=
 ⟨h.os, h.tape, h.output, by simpa [World.setCell] using h.size, fun b hb hn => (heap_setCell_other w' a b v (fun e => by rcases ha with h1 | h1; exact hn (e ▸ h1); omega)).trans (h.block b hb hn)⟩
theorem Keeps.grown {S : Nat → Prop} {w w' w2 : World} {row : Option Nat} (h : Keeps S w w') (hg : w'.grownBy w2 row) (hr : ∀ k, row = some k → S k ∨ w.heap.size ≤ k) : Keeps S w w2 :=
 h.trans (Keeps.of_grown (S := fun k => row = some k) hg fun _ hk => hk) hr
def digitI (r : Int) : Int := if r < 48 ∨ 57 < r then -1 else r - 48
theorem digit_any (r : Int) (w : World) (h0 : 0 ≤ r) (h1 : r ≤ 2147483647) :
   Calls Tryz.prog 143 #[.int .i32 r] w fun e w' => e = .returned (.int .i64 (digitI r)) ∧ w = w' := by
 obtain ⟨V, hV⟩ : ∃ V, V = digitI r := ⟨_, rfl⟩
 rw [← hV]
 unfold digitI at hV
 by_cases h2 : r < 48
 · rw [if_pos (.inl h2)] at hV
   have HV := Lib.hid hV
   clear hV
   go_enter Tryz.func143, Tryz.ntmps143
   go_wp2
   go_ret
   exact ⟨ret_int HV.out.symm, rfl⟩
 · have h2d : decide (r < 48) = false := by simpa using h2
   by_cases h3 : 57 < r
   · rw [if_pos (.inr h3)] at hV
     have HV := Lib.hid hV
     clear hV
     go_enter Tryz.func143, Tryz.ntmps143
     go_wp2
     go_ret
     exact ⟨ret_int HV.out.symm, rfl⟩
   · rw [if_neg (by omega)] at hV
     have HV := Lib.hid hV
     have h3d : decide (57 < r) = false := by simpa using h3
     have h2' : 48 ≤ r := by omega
     have h3' : r ≤ 57 := by omega
     clear hV h2 h3
     go_enter Tryz.func143, Tryz.ntmps143
     go_wp2
     go_ret
     exact ⟨ret_int HV.out.symm, rfl⟩
abbrev bl (s : ByteArray) : List UInt8 := s.data.toList
theorem bl_len (s : ByteArray) : (bl s).length = s.size := Array.length_toList
theorem bl_get (s : ByteArray) (k : Nat) (h : k < s.size) : (bl s)[k]'(by rw [bl_len]; exact h) = s[k] := rfl
theorem bl_take (s : ByteArray) (k : Nat) (h : k < s.size) : (bl s).take (k + 1) = (bl s).take k ++ [s[k]] := by
 rw [List.take_succ_eq_append_getElem (by rw [bl_len]; exact h)]; rfl
theorem bl_drop (s : ByteArray) (k : Nat) (h : k < s.size) : (bl s).drop k = s[k] :: (bl s).drop (k + 1) := by
 rw [List.drop_eq_getElem_cons (by rw [bl_len]; exact h)]; rfl
theorem bl_mem (s : ByteArray) (k : Nat) (h : k < s.size) : s[k] ∈ bl s := by rw [← bl_get s k h]; exact List.getElem_mem _
theorem toL (s : ByteArray) : s.toList = bl s := ByteArray.toList_eq s
theorem dec_yes (s : ByteArray) (k : Nat) (h : k < s.size) (hd : isDg s[k] = true) : Utf8.decode s k = (s[k].toNat, 1) := by
 rw [isDg_iff] at hd; exact decode_ascii s k h (by omega)
theorem dec_no (s : ByteArray) (k : Nat) (h : k < s.size) (hd : isDg s[k] = false) : digitI (Utf8.decode s k).1 = -1 := by
 rw [isDg_no] at hd
 unfold digitI
 by_cases h2 : s[k].toNat < 128
 · rw [decode_ascii s k h h2, if_pos]
   simp only; omega
 · have := (decode_high s k h (by omega)).1
   rw [if_pos]; omega
theorem below_iter (w : World) (s : ByteArray) (k : Nat) : Below w.heap.size w (w.iter s k) := belowA w _
def DigEnd (V : Int × Int) (w : World) (e : Ending) (w' : World) : Prop := e = .returned (.tuple #[.int .i64 V.1, .int .i64 V.2]) ∧ Below w.heap.size w w'
theorem digits_any (s : ByteArray) (w : World) :
   Calls Tryz.prog 126 #[.string s] w (DigEnd (digitsV (bl s)) w) := by
 obtain ⟨V, hV⟩ : ∃ V, V = digitsV (bl s) := ⟨_, rfl⟩
 rw [← hV]
 have HV := Lib.hid hV
 clear hV
 by_cases he : s.toList = []
 · have HE := Lib.hid (show V = (0, 11) by rw [HV.out, ← toL, he]; exact digitsV_nil)
   go_enter Tryz.func126, Tryz.ntmps126
   go_wp2
   go_ret2
   exact ⟨by rw [HE.out]; rfl, Below.refl _ _⟩
 have he2 : s.toList.isEmpty = false := by simpa using he
 have hne : bl s ≠ [] := by rw [← toL]; exact he
 have HNE := Lib.hid hne
 clear he hne
 go_enter Tryz.func126, Tryz.ntmps126
 go_wp2
 go_loopw [4, 5] (fun n o wr => ∃ (k : Nat) (N : Int) (ov : Bool), k ≤ s.size ∧ n = .int .i64 N ∧ o = .bool ov ∧ wr = w.iter s k ∧ 0 ≤ N ∧ N ≤ 2147483647 ∧ Hid (((bl s).take k).all isDg = true) ∧ Hid (ov = decide (2147483647 < valD ((bl s).take k))) ∧ Hid (ov = false → N = (valD ((bl s).take k) : Nat)))
   (fun _ _ wr => s.size - wr.iterPos w.heap.size)
 case atStart => exact ⟨0, 0, false, Nat.zero_le _, rfl, rfl, rfl, by omega, by omega, Lib.hid rfl, Lib.hid rfl, Lib.hid fun _ => rfl⟩
 case round =>
   obtain ⟨k, N, ov, hk, rfl, rfl, rfl, hN0, hN1, HA, HO, HN⟩ := hrel
   by_cases hlt : k < s.size
   · have hnx := fun ty => run_next_any (P := Tryz.prog) w s k ty hlt
     have hle := decode_le s k
     by_cases hd : isDg s[k] = true
     · rw [dec_yes s k hlt hd] at hnx hle
       have hd1 := isDg_iff.1 hd
       have HDV := Lib.hid (dgV_int hd)
       have HD9 := dgV_le hd
       have HTA := Lib.hid (show ((bl s).take (k + 1)).all isDg = true by rw [bl_take s k hlt]; exact all_snoc _ _ HA.out hd)
       have HTV := Lib.hid (show valD ((bl s).take (k + 1)) = 10 * valD ((bl s).take k) + dgV s[k] by rw [bl_take s k hlt]; exact valD_snoc _ _)
       have HDI := Lib.hid (show digitI ((s[k].toNat : Nat) : Int) = (dgV s[k] : Nat) by unfold digitI; rw [if_neg (by omega), dgV_int hd])
       generalize dgV s[k] = d at *
       generalize s[k].toNat = c at *
       clear hd
       simp only at hnx hle
       cases ov
       · have hval := HN.out rfl
         have HVAL := Lib.hid hval
         clear hval
         by_cases hov : (2147483647 - (d : Int)) / 10 < N
         · have HOV2 := Lib.hid (show true = decide (2147483647 < valD ((bl s).take (k + 1))) by
             have h1 := HVAL.out
             rw [HTV.out, eq_comm, decide_eq_true_iff]; omega)
           go_wp2_with (go_at_call 143; refine (digit_any _ _ (by omega) (by omega)).mono ?_; rintro e w' ⟨rfl, rfl⟩; rw [HDI.out])
           go_roundw
           case rel => exact ⟨k + 1, N, true, by omega, rfl, rfl, rfl, hN0, hN1, HTA, HOV2, Lib.hid (fun h => by cases h)⟩
           case measure => simp; omega
         · have HOV2 := Lib.hid (show false = decide (2147483647 < valD ((bl s).take (k + 1))) by
             have h1 := HVAL.out
             rw [HTV.out, eq_comm, decide_eq_false_iff_not]; omega)
           have HVL2 := Lib.hid (show 10 * N + (d : Int) = ((valD ((bl s).take (k + 1)) : Nat) : Int) by rw [HTV.out, HVAL.out]; omega)
           have hovd : decide ((2147483647 - (d : Int)) / 10 < N) = false := by simpa using hov
           go_wp2_with (go_at_call 143; refine (digit_any _ _ (by omega) (by omega)).mono ?_; rintro e w' ⟨rfl, rfl⟩; rw [HDI.out])
           go_roundw
           case rel => exact ⟨k + 1, 10 * N + d, false, by omega, rfl, rfl, rfl, by omega, by omega, HTA, HOV2, Lib.hid (fun _ => HVL2.out)⟩
           case measure => simp; omega
       · have HOV2 := Lib.hid (show true = decide (2147483647 < valD ((bl s).take (k + 1))) by
           have h1 := HO.out
           rw [eq_comm, decide_eq_true_iff] at h1
           rw [HTV.out, eq_comm, decide_eq_true_iff]; omega)
         go_wp2_with (go_at_call 143; refine (digit_any _ _ (by omega) (by omega)).mono ?_; rintro e w' ⟨rfl, rfl⟩; rw [HDI.out])
         go_roundw
         case rel => exact ⟨k + 1, N, true, by omega, rfl, rfl, rfl, hN0, hN1, HTA, HOV2, Lib.hid (fun h => by cases h)⟩
         case measure => simp; omega
     · have hd2 : isDg s[k] = false := by simpa using hd
       have HDI := Lib.hid (dec_no s k hlt hd2)
       have h128 : 0 ≤ (Utf8.decode s k).1 := by omega
       have HF := Lib.hid (show V = (0, 11) by rw [HV.out]; exact digitsV_form (all_false (bl_mem s k hlt) hd2))
       clear hd hd2
       go_wp2_with (go_at_call 143; refine (digit_any _ _ (by omega) (by omega)).mono ?_; rintro e w' ⟨rfl, rfl⟩; rw [HDI.out])
       go_ret2
       exact ⟨by rw [HF.out]; rfl, below_iter _ _ _⟩
   · obtain rfl : k = s.size := by omega
     have hnx := fun ty => run_next_end (P := Tryz.prog) w s s.size ty hlt
     have htk : (bl s).take s.size = bl s := by rw [← bl_len]; exact List.take_length
     have HT := Lib.hid htk
     clear htk
     cases ov
     · have HR := Lib.hid (show V = (N, 0) by
         have h1 := HA.out; have h2 := HO.out; have h3 := HN.out rfl
         rw [HT.out] at h1 h2 h3
         rw [eq_comm, decide_eq_false_iff_not] at h2
         rw [HV.out, digitsV_ok HNE.out h1 (by omega), h3])
       go_wp2
       go_ret2
       exact ⟨by rw [HR.out]; rfl, below_iter _ _ _⟩
     · have HR := Lib.hid (show V = (0, 5) by
         have h1 := HA.out; have h2 := HO.out
         rw [HT.out] at h1 h2
         rw [eq_comm, decide_eq_true_iff] at h2
         rw [HV.out, digitsV_over HNE.out h1 h2])
       go_wp2
       go_ret2
       exact ⟨by rw [HR.out]; rfl, below_iter _ _ _⟩
theorem all_any (s : ByteArray) (w : World) :
   Calls Tryz.prog 125 #[.string s] w fun e w' => e = .returned (.bool ((bl s).all isDg)) ∧ Below w.heap.size w w' := by
 obtain ⟨V, hV⟩ : ∃ V, V = (bl s).all isDg := ⟨_, rfl⟩
 rw [← hV]
 have HV := Lib.hid hV
 clear hV
 go_enter Tryz.func125, Tryz.ntmps125
 go_wp2
 go_loopw [] (fun wr => ∃ k : Nat, k ≤ s.size ∧ wr = w.iter s k ∧ Hid (((bl s).take k).all isDg = true)) (fun wr => s.size - wr.iterPos w.heap.size)
 case atStart => exact ⟨0, Nat.zero_le _, rfl, Lib.hid rfl⟩
 case round =>
   obtain ⟨k, hk, rfl, HA⟩ := hrel
   by_cases hlt : k < s.size
   · have hnx := fun ty => run_next_any (P := Tryz.prog) w s k ty hlt
     have hle := decode_le s k
     by_cases hd : isDg s[k] = true
     · rw [dec_yes s k hlt hd] at hnx hle
       have hd1 := isDg_iff.1 hd
       have hd9 := dgV_le hd
       have HTA := Lib.hid (show ((bl s).take (k + 1)).all isDg = true by rw [bl_take s k hlt]; exact all_snoc _ _ HA.out hd)
       have HDI := Lib.hid (show digitI ((s[k].toNat : Nat) : Int) = (dgV s[k] : Nat) by unfold digitI; rw [if_neg (by omega), dgV_int hd])
       generalize dgV s[k] = d at *
       generalize s[k].toNat = c at *
       clear hd
       simp only at hnx hle
       go_wp2_with (go_at_call 143; refine (digit_any _ _ (by omega) (by omega)).mono ?_; rintro e w' ⟨rfl, rfl⟩; rw [HDI.out])
       go_roundw
       case rel => exact ⟨k + 1, by omega, rfl, HTA⟩
       case measure => simp; omega
     · have hd2 : isDg s[k] = false := by simpa using hd
       have HDI := Lib.hid (dec_no s k hlt hd2)
       have HF := Lib.hid (show V = false by rw [HV.out]; exact all_false (bl_mem s k hlt) hd2)
       clear hd hd2
       go_wp2_with (go_at_call 143; refine (digit_any _ _ (by omega) (by omega)).mono ?_; rintro e w' ⟨rfl, rfl⟩; rw [HDI.out])
       go_ret
       exact ⟨ret_bool (HF.out).symm, below_iter _ _ _⟩
   · obtain rfl : k = s.size := by omega
     have hnx := fun ty => run_next_end (P := Tryz.prog) w s s.size ty hlt
     have htk : (bl s).take s.size = bl s := by rw [← bl_len]; exact List.take_length
     have HR := Lib.hid (show V = true by rw [HV.out, ← htk]; exact HA.out)
     clear htk
     go_wp2
     go_ret
     exact ⟨ret_bool (HR.out).symm, below_iter _ _ _⟩
def mkB (l : List UInt8) : ByteArray := ⟨l.toArray⟩
theorem mkB_size (l : List UInt8) : (mkB l).size = l.length := by unfold mkB; simp [ByteArray.size]
def pvC (v : PV) (sl : Value) : List Value := [.int .i64 v.kind, .int .i64 v.n, .string (mkB v.s), sl]
def pvA (v : PV) (sl : Value) : Value := .agg #[.int .i64 v.kind, .int .i64 v.n, .string (mkB v.s), sl]
mutual
def IsV (w : World) (F : Nat → Prop) : PV → Value → Prop
 | .mk _ _ _ l, sl => ∃ a cap cs, sl = .slice a l.length cap ∧ Row w 4 a l.length cap cs ∧ (0 < l.length → ∀ x, a = some x → F x.block) ∧ IsVs w F l cs
def IsVs (w : World) (F : Nat → Prop) : List PV → List Value → Prop
 | [], cs => cs = []
 | v :: l, cs => ∃ sl t, cs = pvC v sl ++ t ∧ IsV w F v sl ∧ IsVs w F l t
end
theorem IsV.mk {w : World} {F : Nat → Prop} {v : PV} {a : Option Addr} {cap : Nat} {cs : List Value} (hr : Row w 4 a v.l.length cap cs) (hF : 0 < v.l.length → ∀ x, a = some x → F x.block) (h : IsVs w F v.l cs) : IsV w F v (.slice a v.l.length cap) := by
 cases v; exact ⟨a, cap, cs, rfl, hr, hF, h⟩
theorem IsV.out {w : World} {F : Nat → Prop} {v : PV} {sl : Value} (h : IsV w F v sl) : ∃ a cap cs, sl = .slice a v.l.length cap ∧ Row w 4 a v.l.length cap cs ∧ (0 < v.l.length → ∀ x, a = some x → F x.block) ∧ IsVs w F v.l cs := by
 cases v; exact h
theorem IsV.leaf (w : World) (F : Nat → Prop) (v : PV) (h : v.l = []) : IsV w F v (.slice none 0 0) := by
 have := IsV.mk (w := w) (F := F) (v := v) (a := none) (cap := 0) (cs := []) (by rw [h]; exact Row.nil w 4) (by rw [h]; intro h; cases h) (by rw [h]; rfl)
 rw [h] at this; exact this
theorem IsVs.length {w : World} {F : Nat → Prop} : ∀ {l : List PV} {cs : List Value}, IsVs w F l cs → cs.length = l.length * 4
 | [], _, h => by cases h; rfl
 | v :: l, _, ⟨sl, t, h, _, ht⟩ => by subst h; have := IsVs.length ht; simp [pvC]; omega
def Stays (F : Nat → Prop) (w w' : World) : Prop := w.heap.size ≤ w'.heap.size ∧ ∀ b, b < w.heap.size → F b → w'.heap[b]? = w.heap[b]?
theorem Row.stays {F : Nat → Prop} {w w' : World} {sz : Nat} {a : Option Addr} {n cap : Nat} {xs : List Value} (h : Row w sz a n cap xs) (hk : Stays F w w') (hne : 0 < n → ∀ x, a = some x → F x.block) : Row w' sz a n cap xs := by
 obtain ⟨h1, h2, h3, h4, h5⟩ := h
 refine ⟨h1, h2, h3, h4, fun hn => ?_⟩
 obtain ⟨b, off, ha, hlt, hc⟩ := h5 hn
 refine ⟨b, off, ha, Nat.lt_of_lt_of_le hlt hk.1, fun j u hj => ?_⟩
 rw [World.cell?_of_block (w := w) (a := ⟨b, off + j, none⟩) (hk.2 b hlt (hne hn _ ha))]
 exact hc j u hj
mutual
theorem IsV.keep {w w' : World} {F G : Nat → Prop} (hk : Stays F w w') (hG : ∀ b, F b → G b) : ∀ (v : PV) {sl : Value}, IsV w F v sl → IsV w' G v sl
 | .mk _ _ _ l, _, ⟨a, cap, cs, h, hr, hF, hs⟩ => ⟨a, cap, cs, h, hr.stays hk hF, fun h0 x hx => hG _ (hF h0 x hx), IsVs.keep hk hG l hs⟩
theorem IsVs.keep {w w' : World} {F G : Nat → Prop} (hk : Stays F w w') (hG : ∀ b, F b → G b) : ∀ (l : List PV) {cs : List Value}, IsVs w F l cs → IsVs w' G l cs
 | [], _, h => h
 | v :: l, _, ⟨sl, t, h, hv, ht⟩ => ⟨sl, t, h, IsV.keep hk hG v hv, IsVs.keep hk hG l ht⟩
end
theorem Stays.refl (F : Nat → Prop) (w : World) : Stays F w w := ⟨Nat.le_refl _, fun _ _ _ => rfl⟩
theorem Stays.of_below {F : Nat → Prop} {w w' : World} (h : Below w.heap.size w w') : Stays F w w' := ⟨h.size, fun b hb _ => h.block b hb⟩
theorem Stays.trans {F : Nat → Prop} {a b c : World} (h : Stays F a b) (k : Stays F b c) : Stays F a c := ⟨Nat.le_trans h.1 k.1, fun x hx hF => (k.2 x (Nat.lt_of_lt_of_le hx h.1) hF).trans (h.2 x hx hF)⟩
theorem IsV.below {w w' : World} {F : Nat → Prop} {v : PV} {sl : Value} (h : IsV w F v sl) (hb : Below w.heap.size w w') : IsV w' F v sl := IsV.keep (Stays.of_below hb) (fun _ h => h) v h
theorem IsVs.below {w w' : World} {F : Nat → Prop} {l : List PV} {cs : List Value} (h : IsVs w F l cs) (hb : Below w.heap.size w w') : IsVs w' F l cs := IsVs.keep (Stays.of_below hb) (fun _ h => h) l h
theorem IsV.weaken {w : World} {F G : Nat → Prop} {v : PV} {sl : Value} (h : IsV w F v sl) (hG : ∀ b, F b → G b) : IsV w G v sl := IsV.keep (Stays.refl F w) hG v h
theorem IsVs.weaken {w : World} {F G : Nat → Prop} {l : List PV} {cs : List Value} (h : IsVs w F l cs) (hG : ∀ b, F b → G b) : IsVs w G l cs := IsVs.keep (Stays.refl F w) hG l h
theorem IsVs.append {w : World} {F : Nat → Prop} : ∀ {l m : List PV} {cs ds : List Value}, IsVs w F l cs → IsVs w F m ds → IsVs w F (l ++ m) (cs ++ ds)
 | [], _, _, _, h, hm => by cases h; exact hm
 | v :: l, _, _, _, ⟨sl, t, h, hv, ht⟩, hm => ⟨sl, t ++ _, by subst h; simp, hv, IsVs.append ht hm⟩
theorem IsVs.one {w : World} {F : Nat → Prop} {v : PV} {sl : Value} (h : IsV w F v sl) : IsVs w F [v] (pvC v sl) := ⟨sl, [], by simp, h, rfl⟩
theorem IsVs.snoc {w : World} {F : Nat → Prop} {l : List PV} {cs : List Value} {v : PV} {sl : Value} (h : IsVs w F l cs) (hv : IsV w F v sl) : IsVs w F (l ++ [v]) (cs ++ pvC v sl) := h.append (IsVs.one hv)
theorem IsVs.get {w : World} {F : Nat → Prop} : ∀ {l : List PV} {cs : List Value}, IsVs w F l cs → ∀ (k : Nat) (v : PV), l[k]? = some v → ∃ sl, IsV w F v sl ∧ cs[k * 4]? = some (.int .i64 v.kind) ∧ cs[k * 4 + 1]? = some (.int .i64 v.n) ∧ cs[k * 4 + 2]? = some (.string (mkB v.s)) ∧ cs[k * 4 + 3]? = some sl
 | [], _, _, _, _, hk => by simp at hk
 | x :: l, _, ⟨sl, t, h, hv, ht⟩, 0, v, hk => by
   simp at hk; subst hk h
   exact ⟨sl, hv, rfl, rfl, rfl, rfl⟩
 | x :: l, _, ⟨sl, t, h, hv, ht⟩, k + 1, v, hk => by
   subst h
   obtain ⟨s2, h1, h2, h3, h4, h5⟩ := ht.get k v (by simpa using hk)
   refine ⟨s2, h1, ?_, ?_, ?_, ?_⟩
   · rw [show (k + 1) * 4 = 4 + k * 4 by omega, List.getElem?_append_right (by simp [pvC])]; simpa [pvC] using h2
   · rw [show (k + 1) * 4 + 1 = 4 + (k * 4 + 1) by omega, List.getElem?_append_right (by simp [pvC])]; simpa [pvC] using h3
   · rw [show (k + 1) * 4 + 2 = 4 + (k * 4 + 2) by omega, List.getElem?_append_right (by simp [pvC])]; simpa [pvC] using h4
   · rw [show (k + 1) * 4 + 3 = 4 + (k * 4 + 3) by omega, List.getElem?_append_right (by simp [pvC])]; simpa [pvC] using h5
theorem IsV.at {w : World} {F : Nat → Prop} {v : PV} {a : Option Addr} {n cap : Nat} (h : IsV w F v (.slice a n cap)) (hn : 0 < n) :
   n = v.l.length ∧ n ≤ cap ∧ cap ≤ maxLen ∧ ∃ b off, a = some ⟨b, off, none⟩ ∧ b < w.heap.size ∧ F b ∧ ∀ k x, v.l[k]? = some x → ∃ sl, IsV w F x sl ∧ w.cell? ⟨b, off + k * 4, none⟩ = some (.int .i64 x.kind) ∧
     w.cell? ⟨b, off + k * 4 + 1, none⟩ = some (.int .i64 x.n) ∧ w.cell? ⟨b, off + k * 4 + 2, none⟩ = some (.string (mkB x.s)) ∧ w.cell? ⟨b, off + k * 4 + 3, none⟩ = some sl := by
 obtain ⟨a', cap', cs, e, hr, hF, hs⟩ := h.out
 simp only [Value.slice.injEq] at e
 obtain ⟨rfl, rfl, rfl⟩ := e
 obtain ⟨b, off, rfl, hb, hc⟩ := hr.2.2.2.2 hn
 refine ⟨rfl, hr.2.1, hr.2.2.1, b, off, rfl, hb, hF hn _ rfl, fun k x hx => ?_⟩
 obtain ⟨sl, h1, h2, h3, h4, h5⟩ := hs.get k x hx
 exact ⟨sl, h1, hc _ _ h2, (Nat.add_assoc off (k * 4) 1).symm ▸ hc _ _ h3, (Nat.add_assoc off (k * 4) 2).symm ▸ hc _ _ h4, (Nat.add_assoc off (k * 4) 3).symm ▸ hc _ _ h5⟩
theorem IsV.len {w : World} {F : Nat → Prop} {v : PV} {sl : Value} (h : IsV w F v sl) : ∃ a cap, sl = .slice a v.l.length cap ∧ v.l.length ≤ cap ∧ cap ≤ maxLen ∧ (a = none → cap = 0) := by
 obtain ⟨a, cap, cs, e, hr, _⟩ := h.out
 exact ⟨a, cap, e, hr.2.1, hr.2.2.1, hr.2.2.2.1⟩
theorem idx_none : ∀ (l : List UInt8) (c : UInt8), Lib.indexByte l c = -1 → c ∉ l
 | [], _, _ => by simp
 | b :: l, c, h => by
   have hg := Lib.indexByte_ge l c
   unfold Lib.indexByte at h
   split at h
   · omega
   · rename_i hb
     split at h
     · rename_i h1
       have := idx_none l c (by simpa using h1)
       simp at hb
       simp [this, Ne.symm hb]
     · rename_i h1
       simp at h1; omega
theorem idx_some : ∀ (l : List UInt8) (c : UInt8) (i : Nat), Lib.indexByte l c = (i : Int) → ∃ w t, l = w ++ c :: t ∧ w.length = i ∧ c ∉ w
 | [], _, _, h => by unfold Lib.indexByte at h; omega
 | b :: l, c, i, h => by
   have hg := Lib.indexByte_ge l c
   unfold Lib.indexByte at h
   split at h
   · rename_i hb
     have : b = c := by simpa using hb
     exact ⟨[], l, by simp [this], by simp; omega, by simp⟩
   · rename_i hb
     split at h
     · omega
     · rename_i h1
       simp at h1
       obtain ⟨w, t, e1, e2, e3⟩ := idx_some l c (i - 1) (by omega)
       simp at hb
       exact ⟨b :: w, t, by simp [e1], by simp; omega, by simp [e3, Ne.symm hb]⟩
set_option maxRecDepth 100000 in
theorem sidx_any (s : ByteArray) (c : Int) (w : World) :
   Calls Tryz.prog 87 #[.string s, .int .u8 c] w fun e w' => e = .returned (.int .i64 (Lib.indexByte (bl s) c.toNat.toUInt8)) ∧ w = w' := by
 go_enter Tryz.func87, Tryz.ntmps87
 go_wp2
 rw [run_callFunc_extern Tryz.func110 (by kernel_rfl) (by kernel_rfl) (by kernel_rfl) (e := Extern.BytealgIndexByte.indexByte) (by kernel_rfl), Lib.run_indexByteString]
 simp only [Result.andThen]
 rw [Oper.upon_value]
 go_wp2
 go_ret
 exact ⟨rfl, rfl⟩
theorem sidx2_any (s : ByteArray) (c : Int) (w : World) :
   Calls Tryz.prog 56 #[.string s, .int .u8 c] w fun e w' => e = .returned (.int .i64 (Lib.indexByte (bl s) c.toNat.toUInt8)) ∧ w = w' := by
 go_enter Tryz.func56, Tryz.ntmps56
 go_wp2_with (go_at_call 87; refine (sidx_any _ _ _).mono ?_; rintro e w' ⟨rfl, rfl⟩)
 go_ret
 exact ⟨rfl, rfl⟩
theorem index46_any (s : ByteArray) (w : World) :
   Calls Tryz.prog 151 #[.string s, .string ⟨#[46]⟩] w fun e w' => e = .returned (.int .i64 (Lib.indexByte (bl s) 46)) ∧ w = w' := by
 obtain ⟨V, hV⟩ : ∃ V, V = Lib.indexByte (bl s) 46 := ⟨_, rfl⟩
 rw [← hV]
 have HV := Lib.hid hV
 clear hV
 by_cases h : s.toList = [46]
 · have HE := Lib.hid (show V = 0 by rw [HV.out, ← toL, h]; rfl)
   go_enter Tryz.func151, Tryz.ntmps151
   go_wp2
   go_ret
   exact ⟨ret_int HE.out.symm, rfl⟩
 · have h2 : ([46] == s.toList) = false := by rw [beq_eq_false_iff_ne]; exact fun e => h e.symm
   clear h
   go_enter Tryz.func151, Tryz.ntmps151
   go_wp2_with (go_at_call 87; refine (sidx_any _ _ _).mono ?_; rintro e w' ⟨rfl, rfl⟩)
   go_ret
   exact ⟨ret_int HV.out.symm, rfl⟩
def CutEnd (s : ByteArray) (w : World) (e : Ending) (w' : World) : Prop :=
 ∃ W R : ByteArray, e = .returned (.tuple #[.string W, .string R, .bool (hasPt (bl s))]) ∧ bl W = wholeOf (bl s) ∧ bl R = restOf (bl s) ∧ W.size ≤ s.size ∧ R.size ≤ s.size ∧ ∃ q, w' = w.drewN q
theorem bl_ext (s : ByteArray) (i j : Nat) : bl (s.extract i j) = ((bl s).drop i).take (j - i) := by
 unfold bl; rw [ByteArray.data_extract, Array.toList_extract]
theorem bl_to (s : ByteArray) (i : Nat) : bl (s.extract 0 i) = (bl s).take i := by rw [bl_ext]; rfl
theorem bl_from (s : ByteArray) (i : Nat) : bl (s.extract i s.size) = (bl s).drop i := by
 rw [bl_ext, List.take_of_length_le]
 rw [List.length_drop, bl_len]; exact Nat.le_refl _
theorem ret_tup3 {a b a' b' : ByteArray} {p p' : Bool} (h1 : a = a') (h2 : b = b') (h3 : p = p') : Ending.returned (.tuple #[.string a, .string b, .bool p]) = Ending.returned (.tuple #[.string a', .string b', .bool p']) := by rw [h1, h2, h3]
theorem cut1_any (s : ByteArray) (w : World) (hs : s.size ≤ 4611686018427387904) :
   Calls Tryz.prog 142 #[.string s, .string ⟨#[46]⟩] w (CutEnd s w) := by
 have hge := Lib.indexByte_ge (bl s) 46
 by_cases hneg : Lib.indexByte (bl s) 46 = -1
 · have hn := idx_none _ _ hneg
   obtain ⟨t1, t2, t3⟩ := tw_none (bl s) (fun x hx e => hn (e ▸ hx))
   have HT := Lib.hid (And.intro t1 (And.intro t2 t3))
   clear t1 t2 t3 hn hge
   go_enter Tryz.func142, Tryz.ntmps142
   go_wp2_with (go_at_call 151; refine (index46_any _ _).mono ?_; rintro e w' ⟨rfl, rfl⟩; rw [hneg])
   go_ret3
   exact ⟨s, ⟨#[]⟩, ret_tup3 rfl rfl HT.out.2.2.symm, HT.out.1.symm, HT.out.2.1.symm, Nat.le_refl _, Nat.zero_le _, 0, rfl⟩
 · obtain ⟨i, hi⟩ := Int.eq_ofNat_of_zero_le (show 0 ≤ Lib.indexByte (bl s) 46 by omega)
   obtain ⟨a, t, e1, e2, e3⟩ := idx_some _ _ _ hi
   have hlen := congrArg List.length e1
   rw [bl_len] at hlen
   simp only [List.length_append, List.length_cons, e2] at hlen
   have hlt : i < s.size := by omega
   obtain ⟨t1, t2, t3⟩ := tw_app a t (fun x hx e => e3 (e ▸ hx))
   have h1 : bl (s.extract 0 i) = wholeOf (bl s) := by rw [bl_to, e1, t1, ← e2]; simp
   have h2 : bl (s.extract (i + 1) s.size) = restOf (bl s) := by
     rw [bl_from, e1, t2, ← e2, List.drop_append, Nat.add_sub_cancel_left, List.drop_of_length_le (by omega)]; rfl
   have HT := Lib.hid (And.intro h1 (And.intro h2 (show hasPt (bl s) = true by rw [e1]; exact t3)))
   have HI := Lib.hid hi
   clear t1 t2 t3 h1 h2 e1 e2 e3 hlen hge hi hneg
   go_enter Tryz.func142, Tryz.ntmps142
   go_wp2_with (go_at_call 151; refine (index46_any _ _).mono ?_; rintro e w' ⟨rfl, rfl⟩; rw [HI.out])
   go_quiet (fail)
   go_wp2
   go_ret3
   exact ⟨_, _, ret_tup3 rfl rfl HT.out.2.2.symm, HT.out.1, HT.out.2.1, by rw [ByteArray.size_extract]; omega, by rw [ByteArray.size_extract]; omega, _, rfl⟩
theorem cut_any (s : ByteArray) (w : World) (hs : s.size ≤ 4611686018427387904) :
   Calls Tryz.prog 124 #[.string s, .string ⟨#[46]⟩] w (CutEnd s w) := by
 have HC := Lib.hid (fun W => cut1_any s W hs)
 go_enter Tryz.func124, Tryz.ntmps124
 go_wp2_with (go_at_call 142; refine (HC.out _).mono ?_; rintro e w' ⟨W, R, rfl, h1, h2, h3, h4, q, rfl⟩; have H1 := Lib.hid h1; have H2 := Lib.hid h2; clear h1 h2)
 go_ret3
 exact ⟨W, R, rfl, H1.out, H2.out, h3, h4, q, rfl⟩
def hd1 (s : ByteArray) (c : UInt8) : Bool := decide ((bl s).head? = some c)
theorem pre1_any (s : ByteArray) (c : UInt8) (w : World) (hs : s.size ≤ 4611686018427387904) :
   Calls Tryz.prog 133 #[.string s, .string ⟨#[c]⟩] w fun e w' => e = .returned (.bool (hd1 s c)) ∧ w = w' := by
 by_cases h0 : 0 < s.size
 · have hx : (s.extract 0 1).toList = [s[0]] := by
     rw [toL, bl_to]
     have := bl_take s 0 h0
     simpa using this
   have HV := Lib.hid (show hd1 s c = (s[0] == c) by
     unfold hd1
     have h1 := bl_drop s 0 h0
     rw [List.drop_zero] at h1
     rw [h1, List.head?_cons, Bool.eq_iff_iff]
     simp)
   have h1 : (1 : Int) ≤ s.size := by omega
   have h1d : decide (1 ≤ s.size) = true := decide_eq_true (by omega)
   go_enter Tryz.func133, Tryz.ntmps133
   go_wp2
   go_ret
   exact ⟨ret_bool HV.out.symm, rfl⟩
 · have h1 : ¬ (1 : Int) ≤ s.size := by omega
   have h1d : decide ((1 : Int) ≤ s.size) = false := by simpa using h1
   have h1e : decide (1 ≤ s.size) = false := decide_eq_false (by omega)
   have HV := Lib.hid (show hd1 s c = false by
     unfold hd1
     have h1 : bl s = [] := List.eq_nil_of_length_eq_zero (by rw [bl_len]; omega)
     rw [h1]; rfl)
   go_enter Tryz.func133, Tryz.ntmps133
   go_wp2
   go_ret
   exact ⟨ret_bool HV.out.symm, rfl⟩
theorem pre_any (s : ByteArray) (c : UInt8) (w : World) (hs : s.size ≤ 4611686018427387904) :
   Calls Tryz.prog 112 #[.string s, .string ⟨#[c]⟩] w fun e w' => e = .returned (.bool (hd1 s c)) ∧ w = w' := by
 have HC := Lib.hid (fun W => pre1_any s c W hs)
 go_enter Tryz.func112, Tryz.ntmps112
 go_wp2_with (go_at_call 133; refine (HC.out _).mono ?_; rintro e w' ⟨rfl, rfl⟩)
 go_ret
 exact ⟨rfl, rfl⟩
end Go.Proofs.YtnkodejgiabamaaGreatDoor
