/-
  Our texts ParT to Num2, in one.
-/
import Derived.Test.YtfafdeemfeaedaaGreatPkY1
import Derived.WalkKit
import Derived.WalkSpells
import Derived.WalkLawsBesides
import Derived.Lib.Hide
import Derived.Test.YtfafdeemfeaedaaGreatProg
import Derived.BigQuiet
import Derived.Deep.QuietTactic
import Derived.Laws.RangeAny
import Derived.IntWalk
import Derived.Lib.Bytealg
set_option maxRecDepth 8000
set_option maxHeartbeats 8000000
namespace Go.Proofs.YtfafdeemfeaedaaGreat
def refD (bs : List UInt8) (last : Bool) (at_ n : Int) : Bool × Int × Int :=
 let g := zaf bs at_ last
 if g.2.2.2 = 6 then (false, 0, 6) else
 if g.2.2.2 ≠ 0 ∨ zay g.1 = false then (false, 0, 0) else
 let r := zaf bs g.2.2.1 last
 if r.2.2.2 = 6 then (false, 0, 6) else
 if r.2.2.2 ≠ 0 ∨ r.1.kind ≠ 6 ∨ r.1.s ≠ [82] then (false, 0, 0) else
 if n < 1 ∨ 4096 < n ∨ g.1.vn ≠ 0 then (false, 0, 26) else (true, r.2.2.1, 0)
def zbz (bs : List UInt8) (last : Bool) (t : Tk) (to : Int) : PV × Int × Int :=
 if t.kind = 6 then (match zdK t.s with | none => (PV.none, 0, 11) | some v => (v, to, 0))
 else if zay t = true then
   (if (refD bs last to t.vn).2.2 ≠ 0 then (PV.none, 0, (refD bs last to t.vn).2.2) else if (refD bs last to t.vn).1 = true then (.mk 8 t.vn [] [], (refD bs last to t.vn).2.1, 0) else (tkV t, to, 0))
 else (tkV t, to, 0)
def arrD (bs : List UInt8) (last : Bool) (f : Tk → Int → PV × Int × Int) : Nat → List PV → Int → PV × Int × Int
 | 0, _, _ => (PV.none, 0, 10)
 | r + 1, l, at_ =>
   if (zaf bs at_ last).2.2.2 ≠ 0 then (PV.none, 0, (zaf bs at_ last).2.2.2)
   else if (zaf bs at_ last).1.kind = 3 then (.mk 6 0 [] l, (zaf bs at_ last).2.2.1, 0)
   else if (f (zaf bs at_ last).1 (zaf bs at_ last).2.2.1).2.2 ≠ 0 then (PV.none, 0, (f (zaf bs at_ last).1 (zaf bs at_ last).2.2.1).2.2)
   else arrD bs last f r (l ++ [(f (zaf bs at_ last).1 (zaf bs at_ last).2.2.1).1]) (f (zaf bs at_ last).1 (zaf bs at_ last).2.2.1).2.1
def zdL (bs : List UInt8) (last : Bool) (f : Tk → Int → PV × Int × Int) (d : Nat) : Nat → List (PV × PV) → Bool → Int → PV × Int × Int
 | 0, _, _, _ => (PV.none, 0, 10)
 | r + 1, ps, tw, at_ =>
   let t := zaf bs at_ last
   if t.2.2.2 ≠ 0 then (PV.none, 0, t.2.2.2)
   else if t.1.kind = 5 then (if tw = true then (PV.none, 0, 16) else (.mk 7 0 [] (zbM ps), t.2.2.1, 0))
   else if t.1.kind = 0 then (PV.none, 0, 10)
   else if t.1.kind ≠ 1 ∨ t.1.vk ≠ 5 then (PV.none, 0, 11)
   else if d = 0 then (PV.none, 0, 15)
   else
     let u := zaf bs t.2.2.1 last
     if u.2.2.2 ≠ 0 then (PV.none, 0, u.2.2.2)
     else if (f u.1 u.2.2.1).2.2 ≠ 0 then (PV.none, 0, (f u.1 u.2.2.1).2.2)
     else zdL bs last f d r (putK (.mk 5 0 t.1.vs [], (f u.1 u.2.2.1).1) ps) (tw || hasK t.1.vs ps) (f u.1 u.2.2.1).2.1
def vlD (bs : List UInt8) (last : Bool) : Nat → Tk → Int → PV × Int × Int
 | 0, t, to =>
   if t.kind = 0 then (PV.none, 0, 10) else if t.kind = 2 ∨ t.kind = 4 then (PV.none, 0, 15) else if t.kind = 3 ∨ t.kind = 5 then (PV.none, 0, 11)
   else if (zbz bs last t to).2.2 ≠ 0 then (PV.none, 0, (zbz bs last t to).2.2) else (PV.none, 0, 15)
 | d + 1, t, to =>
   if t.kind = 0 then (PV.none, 0, 10)
   else if t.kind = 2 then arrD bs last (vlD bs last d) (bs.length + 1) [] to
   else if t.kind = 4 then zdL bs last (vlD bs last d) d (bs.length + 1) [] false to
   else if t.kind = 3 ∨ t.kind = 5 then (PV.none, 0, 11)
   else zbz bs last t to
def zbb (bs : List UInt8) (last : Bool) (at_ : Int) : PV × Int × Int :=
 if (zaf bs at_ last).2.2.2 ≠ 0 then (PV.none, 0, (zaf bs at_ last).2.2.2) else vlD bs last 64 (zaf bs at_ last).1 (zaf bs at_ last).2.2.1
theorem refD_is {bs : List UInt8} {last : Bool} {k : Int} (v : PV) (n : Int) (hn : v.n = n) :
   (refV bs last k v).2.2 = (refD bs last k n).2.2 ∧ ((refD bs last k n).2.2 = 0 → (refV bs last k v).1 = (if (refD bs last k n).1 = true then .mk 8 n [] [] else v) ∧ (refV bs last k v).2.1 = if (refD bs last k n).1 = true then (refD bs last k n).2.1 else k) := by
 unfold refV refD
 simp only
 by_cases g6 : (zaf bs k last).2.2.2 = 6
 · rw [if_pos (.inl (by rw [g6]; decide)), if_pos g6, g6]
   exact ⟨rfl, fun h => by cases h⟩
 · rw [if_neg g6]
   by_cases hc : (zaf bs k last).2.2.2 ≠ 0 ∨ zay (zaf bs k last).1 = false
   · rw [if_pos hc, if_pos hc]
     have : moreV (zaf bs k last).2.2.2 = 0 := if_neg g6
     exact ⟨this, fun _ => ⟨rfl, rfl⟩⟩
   · rw [if_neg hc, if_neg hc]
     by_cases r6 : (zaf bs (zaf bs k last).2.2.1 last).2.2.2 = 6
     · rw [if_pos (.inl (by rw [r6]; decide)), if_pos r6, r6]
       exact ⟨rfl, fun h => by cases h⟩
     · rw [if_neg r6]
       by_cases hd : (zaf bs (zaf bs k last).2.2.1 last).2.2.2 ≠ 0 ∨ (zaf bs (zaf bs k last).2.2.1 last).1.kind ≠ 6 ∨ (zaf bs (zaf bs k last).2.2.1 last).1.s ≠ [82]
       · rw [if_pos hd, if_pos hd]
         have : moreV (zaf bs (zaf bs k last).2.2.1 last).2.2.2 = 0 := if_neg r6
         exact ⟨this, fun _ => ⟨rfl, rfl⟩⟩
       · rw [if_neg hd, if_neg hd, hn]
         by_cases he : n < 1 ∨ 4096 < n ∨ (zaf bs k last).1.vn ≠ 0
         · rw [if_pos he, if_pos he]
           exact ⟨rfl, fun h => by cases h⟩
         · rw [if_neg he, if_neg he]
           exact ⟨rfl, fun _ => ⟨rfl, rfl⟩⟩
theorem singD_is {bs : List UInt8} {last : Bool} {st : List Lv} {to : Int} {t : Tk} (hw : topW st = false) :
   ((zbz bs last t to).2.2 = 0 → zar bs last st to t = ((zbz bs last t to).1, (zbz bs last t to).2.1, 0)) ∧ ((zbz bs last t to).2.2 ≠ 0 → (zar bs last st to t).2.2 = (zbz bs last t to).2.2) := by
 have hs : zar bs last st to t = (if t.kind = 6 then (match zdK t.s with | none => (PV.none, to, 11) | some v => (v, to, 0)) else if zay t = true then refV bs last to (tkV t) else (tkV t, to, 0)) := by
   unfold zar
   rw [if_neg (by rintro ⟨h, -⟩; rw [hw] at h; cases h)]
   all_goals (try rfl)
 rw [hs]
 unfold zbz
 by_cases k6 : t.kind = 6
 · simp only [if_pos k6]
   cases hq : zdK t.s with
   | none => exact ⟨fun h => (by cases h), fun _ => rfl⟩
   | some v => exact ⟨fun _ => rfl, fun h => absurd rfl h⟩
 · simp only [if_neg k6]
   by_cases hq : zay t = true
   · simp only [if_pos hq]
     obtain ⟨r1, r2⟩ := refD_is (bs := bs) (last := last) (k := to) (tkV t) t.vn rfl
     by_cases he : (refD bs last to t.vn).2.2 ≠ 0
     · simp only [if_pos he]
       exact ⟨fun h => absurd h he, fun _ => r1⟩
     · simp only [if_neg he]
       have he0 : (refD bs last to t.vn).2.2 = 0 := by simpa using he
       obtain ⟨p1, p2⟩ := r2 he0
       rw [he0] at r1
       by_cases hb : (refD bs last to t.vn).1 = true
       · simp only [if_pos hb] at p1 p2 ⊢
         exact ⟨fun _ => Prod.ext p1 (Prod.ext p2 r1), fun h => absurd rfl h⟩
       · simp only [if_neg hb] at p1 p2 ⊢
         exact ⟨fun _ => Prod.ext p1 (Prod.ext p2 r1), fun h => absurd rfl h⟩
   · simp only [if_neg hq]
     exact ⟨fun _ => by trivial, fun h => absurd rfl h⟩
def contO (bs : List UInt8) (last : Bool) (g : Nat) (st : List Lv) (at_ : Int) (x : PV) : Option (PV × Int × Int) :=
 match st with
 | [] => some (x, at_, 0)
 | top :: rest => valO bs last g ({ top with l := top.l ++ [x] } :: rest) at_
def aftO (bs : List UInt8) (last : Bool) (g : Nat) (st : List Lv) (to : Int) (t : Tk) : Option (PV × Int × Int) :=
 if (zaA bs last st to t).2.2.2 ≠ 0 then some (PV.none, 0, (zaA bs last st to t).2.2.2) else
 match (zaA bs last st to t).1 with
 | none => valO bs last g (zaA bs last st to t).2.1 (zaA bs last st to t).2.2.1
 | some x => contO bs last g (zaA bs last st to t).2.1 (zaA bs last st to t).2.2.1 x
theorem zdh (bs : List UInt8) (last : Bool) (g : Nat) (st : List Lv) (k : Int) : valO bs last (g + 1) st k = if (zaf bs k last).2.2.2 ≠ 0 then some (PV.none, 0, (zaf bs k last).2.2.2) else aftO bs last g st (zaf bs k last).2.2.1 (zaf bs k last).1 := by
 unfold aftO contO
 rw [valO]
 all_goals (try rfl)
def AnsD (bs : List UInt8) (last : Bool) (st : List Lv) (R : PV × Int × Int) (P : PV × Int × Int → Prop) : Prop :=
 (R.2.2 = 0 → ∀ V, (∃ g, contO bs last g st R.2.1 R.1 = some V) → P V) ∧ (R.2.2 ≠ 0 → P (PV.none, 0, R.2.2))
theorem zbp {bs : List UInt8} {last : Bool} {st : List Lv} {to : Int} {t : Tk} {e : Int} (h : (zaA bs last st to t).2.2.2 = e) (he : e ≠ 0) : ∃ g, aftO bs last g st to t = some (PV.none, 0, e) := by
 refine ⟨0, ?_⟩
 unfold aftO
 rw [if_pos (by rw [h]; exact he), h]
theorem zdU {bs : List UInt8} {last : Bool} {st st2 : List Lv} {to at2 : Int} {t : Tk} (h : zaA bs last st to t = (none, st2, at2, 0)) (g : Nat) : aftO bs last g st to t = valO bs last g st2 at2 := by
 unfold aftO
 rw [h]
 simp only
 rw [if_neg (by decide)]
theorem zdO {bs : List UInt8} {last : Bool} {st st2 : List Lv} {to at2 : Int} {t : Tk} {x : PV} (h : zaA bs last st to t = (some x, st2, at2, 0)) (g : Nat) : aftO bs last g st to t = contO bs last g st2 at2 x := by
 unfold aftO
 rw [h]
 simp only
 rw [if_neg (by decide)]
theorem sing_ans {bs : List UInt8} {last : Bool} {st : List Lv} {to : Int} {t : Tk} (hw : topW st = false) (hk : t.kind = 1 ∨ t.kind = 6) :
   (st.length < 64 → AnsD bs last st (zbz bs last t to) fun V => ∃ g, aftO bs last g st to t = some V) ∧
   (64 ≤ st.length → ∃ g, aftO bs last g st to t = some (PV.none, 0, if (zbz bs last t to).2.2 ≠ 0 then (zbz bs last t to).2.2 else 15)) := by
 obtain ⟨s1, s2⟩ := singD_is (bs := bs) (last := last) (to := to) (t := t) hw
 have hst : zaA bs last st to t = (if (zar bs last st to t).2.2 ≠ 0 then (none, st, (zar bs last st to t).2.1, (zar bs last st to t).2.2) else if 64 ≤ st.length then (none, st, (zar bs last st to t).2.1, 15) else (some (zar bs last st to t).1, st, (zar bs last st to t).2.1, 0)) := by
   unfold zaA
   rw [if_neg (by omega), if_neg (by omega), if_neg (by omega)]
 by_cases he : (zbz bs last t to).2.2 = 0
 · have h1 := s1 he
   rw [h1] at hst
   simp only at hst
   rw [if_neg (by decide)] at hst
   refine ⟨fun hl => ⟨fun _ V hV => ?_, fun h => absurd he h⟩, fun hl => ?_⟩
   · rw [if_neg (by omega)] at hst
     obtain ⟨g, hg⟩ := hV
     exact ⟨g, by rw [zdO hst]; exact hg⟩
   · rw [if_pos hl] at hst
     rw [if_neg (by simp [he])]
     exact zbp (by rw [hst]) (by decide)
 · have h1 := s2 he
   rw [if_pos (by rw [h1]; exact he)] at hst
   refine ⟨fun hl => ⟨fun h => absurd h he, fun _ => ?_⟩, fun hl => ?_⟩
   · exact zbp (by rw [hst]; exact h1) he
   · rw [if_pos he]
     exact zbp (by rw [hst]; exact h1) he
def ValAt (bs : List UInt8) (last : Bool) (d : Nat) : Prop := ∀ (st : List Lv) (t : Tk) (to : Int), st.length + d = 64 → topW st = false → (t.kind = 3 → ∀ v rest, st = v :: rest → v.dict = true) → tkOk t → 0 ≤ to → to ≤ bs.length →
 AnsD bs last st (vlD bs last d t to) (fun V => ∃ g, aftO bs last g st to t = some V) ∧ ((vlD bs last d t to).2.2 = 0 → t.kind ≠ 0 ∧ to ≤ (vlD bs last d t to).2.1 ∧ (vlD bs last d t to).2.1 ≤ bs.length)
theorem arr_ans {bs : List UInt8} {last : Bool} {d : Nat} (hf : ValAt bs last d) (st : List Lv) (hd : st.length + 1 + d = 64) : ∀ (r : Nat) (l : List PV) (k : Int), 0 ≤ k → k ≤ bs.length → ((bs.length : Int) - k).toNat < r →
   AnsD bs last st (arrD bs last (vlD bs last d) r l k) (fun V => ∃ g, valO bs last g ({ dict := false, l := l } :: st) k = some V) ∧ ((arrD bs last (vlD bs last d) r l k).2.2 = 0 → k ≤ (arrD bs last (vlD bs last d) r l k).2.1 ∧ (arrD bs last (vlD bs last d) r l k).2.1 ≤ bs.length)
 | 0, _, _, _, _, h => by omega
 | r + 1, l, k, h, h2, hr => by
   obtain ⟨g1, g2⟩ := zaK last h h2
   have hok := zcN last h h2
   have hfar := zca (last := last) h h2
   have hval := zdh bs last
   simp only [arrD]
   by_cases he : (zaf bs k last).2.2.2 ≠ 0
   · rw [if_pos he]
     exact ⟨⟨fun h => absurd h he, fun _ => ⟨1, by rw [hval, if_pos he]⟩⟩, fun h => absurd h he⟩
   · rw [if_neg he]
     have he0 : (zaf bs k last).2.2.2 = 0 := by simpa using he
     have hfar2 := hfar he0
     have hgo : ∀ V, (∃ g, aftO bs last g ({ dict := false, l := l } :: st) (zaf bs k last).2.2.1 (zaf bs k last).1 = some V) → ∃ g, valO bs last g ({ dict := false, l := l } :: st) k = some V := fun V ⟨g, hg⟩ => ⟨g + 1, by rw [hval, if_neg he]; exact hg⟩
     generalize (zaf bs k last).2.2.1 = to at *
     generalize (zaf bs k last).1 = t at *
     by_cases k3 : t.kind = 3
     · rw [if_pos k3]
       have hst : zaA bs last ({ dict := false, l := l } :: st) to t = (some (.mk 6 0 [] l), st, to, 0) := by
         unfold zaA
         rw [if_neg (by omega), if_neg (by omega), if_pos (.inl k3)]
         have hk : (t.kind == 5) = false := by rw [beq_eq_false_iff_ne]; omega
         rw [hk]
         simp [zbe]
       exact ⟨⟨fun _ V ⟨g, hg⟩ => hgo V ⟨g, by rw [zdO hst]; exact hg⟩, fun h => absurd rfl h⟩, fun _ => ⟨g1, g2⟩⟩
     · rw [if_neg k3]
       obtain ⟨f1, f2⟩ := hf ({ dict := false, l := l } :: st) t to (by simpa using hd) rfl (fun h => absurd h k3) hok (by omega) g2
       by_cases hv : (vlD bs last d t to).2.2 ≠ 0
       · rw [if_pos hv]
         exact ⟨⟨fun h => absurd h hv, fun _ => hgo _ (f1.2 hv)⟩, fun h => absurd h hv⟩
       · rw [if_neg hv]
         have hv0 : (vlD bs last d t to).2.2 = 0 := by simpa using hv
         obtain ⟨q1, q2, q3⟩ := f2 hv0
         have hlt := hfar2 q1
         obtain ⟨r1, r2⟩ := arr_ans hf st hd r (l ++ [(vlD bs last d t to).1]) (vlD bs last d t to).2.1 (by omega) q3 (by omega)
         exact ⟨⟨fun h V hV => hgo V (f1.1 hv0 V (r1.1 h V hV)), fun h => hgo _ (f1.1 hv0 _ (r1.2 h))⟩, fun h => ⟨by have := (r2 h).1; omega, (r2 h).2⟩⟩
theorem name_tk {t : Tk} (ht : tkOk t) (h1 : t.kind = 1) (h5 : t.vk = 5) : tkV t = .mk 5 0 t.vs [] := by
 obtain ⟨o1, -, -⟩ := ht.2.2 h1
 have hn : t.vn = 0 := by
   unfold tkV at o1
   rw [h5] at o1
   simp only [ownC] at o1
   rw [if_neg (by decide), if_neg (by decide), if_neg (by decide), if_neg (by decide), if_pos (by trivial)] at o1
   split at o1
   · cases o1
   · split at o1
     · rename_i h; exact h.1
     · cases o1
 unfold tkV
 rw [h5, hn]
theorem step_name {bs : List UInt8} {last : Bool} {st : List Lv} {to : Int} {t : Tk} (ht : tkOk t) (h1 : t.kind = 1) (h5 : t.vk = 5) : zaA bs last st to t = if 64 ≤ st.length then (none, st, to, 15) else (some (.mk 5 0 t.vs []), st, to, 0) := by
 have hs : zar bs last st to t = (tkV t, to, 0) := by
   unfold zar
   rw [if_neg (by rintro ⟨-, h | h⟩; exact h h1; exact h h5), if_neg (by omega), if_neg (by unfold zay; rw [h5]; simp)]
 unfold zaA
 rw [if_neg (by omega), if_neg (by omega), if_neg (by omega), hs, name_tk ht h1 h5]
 simp only
 rw [if_neg (by decide)]
theorem dict_ans {bs : List UInt8} {last : Bool} {d : Nat} (hf : ValAt bs last d) (st : List Lv) (hd : st.length + 1 + d = 64) : ∀ (r : Nat) (l : List PV) (k : Int), l.length % 2 = 0 → 0 ≤ k → k ≤ bs.length → ((bs.length : Int) - k).toNat < r →
   AnsD bs last st (zdL bs last (vlD bs last d) d r (docS (twoV l) [] false).1 (docS (twoV l) [] false).2 k) (fun V => ∃ g, valO bs last g ({ dict := true, l := l } :: st) k = some V) ∧ ((zdL bs last (vlD bs last d) d r (docS (twoV l) [] false).1 (docS (twoV l) [] false).2 k).2.2 = 0 → k ≤ (zdL bs last (vlD bs last d) d r (docS (twoV l) [] false).1 (docS (twoV l) [] false).2 k).2.1 ∧ (zdL bs last (vlD bs last d) d r (docS (twoV l) [] false).1 (docS (twoV l) [] false).2 k).2.1 ≤ bs.length)
 | 0, _, _, _, _, _, h => by omega
 | r + 1, l, k, hl, h, h2, hr => by
   obtain ⟨g1, g2⟩ := zaK last h h2
   have hok := zcN last h h2
   have hfar := zca (last := last) h h2
   have hval := zdh bs last
   have hpd := pairs_doc l
   have htw := docS_snoc (twoV l)
   have hts := two_snoc l
   simp only [zdL]
   generalize hps : docS (twoV l) [] false = D at *
   obtain ⟨ps, tw⟩ := D
   simp only at hpd ⊢
   by_cases he : (zaf bs k last).2.2.2 ≠ 0
   · rw [if_pos he]
     exact ⟨⟨fun h => absurd h he, fun _ => ⟨1, by rw [hval, if_pos he]⟩⟩, fun h => absurd h he⟩
   · rw [if_neg he]
     have he0 : (zaf bs k last).2.2.2 = 0 := by simpa using he
     have hfar2 := hfar he0
     have hgo : ∀ V, (∃ g, aftO bs last g ({ dict := true, l := l } :: st) (zaf bs k last).2.2.1 (zaf bs k last).1 = some V) → ∃ g, valO bs last g ({ dict := true, l := l } :: st) k = some V := fun V ⟨g, hg⟩ => ⟨g + 1, by rw [hval, if_neg he]; exact hg⟩
     generalize (zaf bs k last).2.2.1 = to at *
     generalize (zaf bs k last).1 = t at *
     have hw : topW ({ dict := true, l := l } :: st) = true := by simp [topW, zcd, hl]
     by_cases k5 : t.kind = 5
     · rw [if_pos k5]
       have hst : zaA bs last ({ dict := true, l := l } :: st) to t = if tw = true then (none, { dict := true, l := l } :: st, to, 16) else (some (.mk 7 0 [] (zbM ps)), st, to, 0) := by
         have hww : zcd { dict := true, l := l } = true := hw
         unfold zaA
         rw [if_neg (by omega), if_neg (by omega), if_pos (.inr k5)]
         have hk : (t.kind == 5) = true := by rw [beq_iff_eq]; exact k5
         rw [hk]
         cases tw with
         | true => simp [zbe, hww, hpd]
         | false => simp [zbe, hww, hpd]
       cases tw with
       | true =>
         rw [if_pos rfl] at hst ⊢
         exact ⟨⟨fun h => (by cases h), fun _ => hgo _ (zbp (by rw [hst]) (by decide))⟩, fun h => by cases h⟩
       | false =>
         rw [if_neg (by decide)] at hst ⊢
         exact ⟨⟨fun _ V ⟨g, hg⟩ => hgo V ⟨g, by rw [zdO hst]; exact hg⟩, fun h => absurd rfl h⟩, fun _ => ⟨g1, g2⟩⟩
     · rw [if_neg k5]
       by_cases k0 : t.kind = 0
       · rw [if_pos k0]
         exact ⟨⟨fun h => (by cases h), fun _ => hgo _ (zbp (by unfold zaA; rw [if_pos k0]) (by decide))⟩, fun h => by cases h⟩
       · rw [if_neg k0]
         by_cases kv : t.kind ≠ 1 ∨ t.vk ≠ 5
         · rw [if_pos kv]
           have hst : (zaA bs last ({ dict := true, l := l } :: st) to t).2.2.2 = 11 := by
             unfold zaA
             rw [if_neg k0]
             by_cases k24 : t.kind = 2 ∨ t.kind = 4
             · rw [if_pos k24]
               unfold zbv
               rw [if_pos hw]
             · rw [if_neg k24]
               by_cases k3 : t.kind = 3
               · rw [if_pos (.inl k3)]
                 have hk : (t.kind == 5) = false := by rw [beq_eq_false_iff_ne]; omega
                 rw [hk]
                 simp [zbe]
               · rw [if_neg (by omega)]
                 have hs : zar bs last ({ dict := true, l := l } :: st) to t = (PV.none, to, 11) := by
                   unfold zar
                   rw [if_pos ⟨hw, kv⟩]
                 rw [hs]
                 rfl
           exact ⟨⟨fun h => (by cases h), fun _ => hgo _ (zbp hst (by decide))⟩, fun h => by cases h⟩
         · rw [if_neg kv]
           have k1 : t.kind = 1 := Decidable.byContradiction fun h => kv (.inl h)
           have v5 : t.vk = 5 := Decidable.byContradiction fun h => kv (.inr h)
           have hst := step_name (bs := bs) (last := last) (st := { dict := true, l := l } :: st) (to := to) hok k1 v5
           by_cases d0 : d = 0
           · rw [if_pos d0]
             rw [if_pos (by simp only [List.length_cons]; omega)] at hst
             exact ⟨⟨fun h => (by cases h), fun _ => hgo _ (zbp (by rw [hst]) (by decide))⟩, fun h => by cases h⟩
           · rw [if_neg d0]
             rw [if_neg (by simp only [List.length_cons]; omega)] at hst
             have hlt := hfar2 k0
             have hgo2 : ∀ V, (∃ g, valO bs last g ({ dict := true, l := l ++ [.mk 5 0 t.vs []] } :: st) to = some V) → ∃ g, valO bs last g ({ dict := true, l := l } :: st) k = some V := fun V ⟨g, hg⟩ => hgo V ⟨g, by rw [zdO hst]; exact hg⟩
             obtain ⟨u1, u2⟩ := zaK (bs := bs) (k := to) last (by omega) g2
             have uok := zcN (bs := bs) (k := to) last (by omega) g2
             by_cases ue : (zaf bs to last).2.2.2 ≠ 0
             · rw [if_pos ue]
               exact ⟨⟨fun h => absurd h ue, fun _ => hgo2 _ ⟨1, by rw [hval, if_pos ue]⟩⟩, fun h => absurd h ue⟩
             · rw [if_neg ue]
               have hgo3 : ∀ V, (∃ g, aftO bs last g ({ dict := true, l := l ++ [.mk 5 0 t.vs []] } :: st) (zaf bs to last).2.2.1 (zaf bs to last).1 = some V) → ∃ g, valO bs last g ({ dict := true, l := l } :: st) k = some V := fun V ⟨g, hg⟩ => hgo2 V ⟨g + 1, by rw [hval, if_neg ue]; exact hg⟩
               generalize (zaf bs to last).2.2.1 = uto at *
               generalize (zaf bs to last).1 = u at *
               obtain ⟨f1, f2⟩ := hf ({ dict := true, l := l ++ [.mk 5 0 t.vs []] } :: st) u uto (by simpa using hd) (by simp [topW, zcd]; omega) (fun _ v rest hv => by cases hv; rfl) uok (by omega) u2
               by_cases hv : (vlD bs last d u uto).2.2 ≠ 0
               · rw [if_pos hv]
                 exact ⟨⟨fun h => absurd h hv, fun _ => hgo3 _ (f1.2 hv)⟩, fun h => absurd h hv⟩
               · rw [if_neg hv]
                 have hv0 : (vlD bs last d u uto).2.2 = 0 := by simpa using hv
                 obtain ⟨q1, q2, q3⟩ := f2 hv0
                 obtain ⟨r1, r2⟩ := dict_ans hf st hd r (l ++ [.mk 5 0 t.vs [], (vlD bs last d u uto).1]) (vlD bs last d u uto).2.1 (by simp; omega) (by omega) q3 (by omega)
                 rw [hts _ _ hl, htw, hps] at r1 r2
                 have happ : ∀ x : PV, (l ++ [.mk 5 0 t.vs []]) ++ [x] = l ++ [.mk 5 0 t.vs [], x] := fun x => by simp
                 have hc : ∀ V, (∃ g, valO bs last g ({ dict := true, l := l ++ [.mk 5 0 t.vs [], (vlD bs last d u uto).1] } :: st) (vlD bs last d u uto).2.1 = some V) → ∃ g, contO bs last g ({ dict := true, l := l ++ [.mk 5 0 t.vs []] } :: st) (vlD bs last d u uto).2.1 (vlD bs last d u uto).1 = some V := fun V ⟨g, hg⟩ => ⟨g, by show valO bs last g ({ dict := true, l := (l ++ [.mk 5 0 t.vs []]) ++ [_] } :: st) _ = _; rw [happ]; exact hg⟩
                 exact ⟨⟨fun h V hV => hgo3 V (f1.1 hv0 V (hc V (r1.1 h V hV))), fun h => hgo3 _ (f1.1 hv0 _ (hc _ (r1.2 h)))⟩, fun h => ⟨Int.le_trans (show k ≤ (vlD bs last d u uto).2.1 by omega) (r2 h).1, (r2 h).2⟩⟩
theorem refD_at {bs : List UInt8} {last : Bool} {k n : Int} (h : 0 ≤ k) (h2 : k ≤ bs.length) (hb : (refD bs last k n).1 = true) : k ≤ (refD bs last k n).2.1 ∧ (refD bs last k n).2.1 ≤ bs.length := by
 obtain ⟨g1, g2⟩ := zaK last h h2
 obtain ⟨r1, r2⟩ := zaK (bs := bs) (k := (zaf bs k last).2.2.1) last (by omega) g2
 unfold refD at hb ⊢
 simp only at hb ⊢
 split at hb
 · cases hb
 · rename_i q1
   rw [if_neg q1]
   split at hb
   · cases hb
   · rename_i q2
     rw [if_neg q2]
     split at hb
     · cases hb
     · rename_i q3
       rw [if_neg q3]
       split at hb
       · cases hb
       · rename_i q4
         rw [if_neg q4]
         split at hb
         · cases hb
         · rename_i q5
           rw [if_neg q5]
           exact ⟨Int.le_trans g1 r1, r2⟩
theorem singD_at {bs : List UInt8} {last : Bool} {k : Int} {t : Tk} (h : 0 ≤ k) (h2 : k ≤ bs.length) (he : (zbz bs last t k).2.2 = 0) : k ≤ (zbz bs last t k).2.1 ∧ (zbz bs last t k).2.1 ≤ bs.length := by
 unfold zbz at he ⊢
 split
 · rename_i q
   rw [if_pos q] at he
   cases hw : zdK t.s with
   | none => rw [hw] at he; cases he
   | some v => exact ⟨Int.le_refl _, h2⟩
 · rename_i q
   rw [if_neg q] at he
   split
   · rename_i q2
     rw [if_pos q2] at he
     split
     · rename_i q3; rw [if_pos q3] at he; exact absurd he q3
     · split
       · rename_i q4; exact refD_at h h2 q4
       · exact ⟨Int.le_refl _, h2⟩
   · exact ⟨Int.le_refl _, h2⟩
theorem close_err {bs : List UInt8} {last : Bool} {st : List Lv} {t : Tk} {to : Int} (hw : topW st = false) (hn3 : t.kind = 3 → ∀ v rest, st = v :: rest → v.dict = true) (k : t.kind = 3 ∨ t.kind = 5) : (zaA bs last st to t).2.2.2 = 11 := by
 have he : (zbe st (t.kind == 5)).2.2 = 11 := by
   cases st with
   | nil => rfl
   | cons v rest =>
     unfold zbe
     simp only
     rw [if_pos]
     rcases k with k | k
     · left
       have hk : (t.kind == 5) = false := by rw [beq_eq_false_iff_ne]; omega
       rw [hk, hn3 k v rest rfl]
       decide
     · have hk : (t.kind == 5) = true := by rw [beq_iff_eq]; exact k
       rw [hk]
       exact .inr ⟨rfl, hw⟩
 unfold zaA
 rw [if_neg (by omega), if_neg (by omega), if_pos k]
 simp only
 rw [if_neg (by rw [he]; decide)]
 exact he
theorem val_ans {bs : List UInt8} {last : Bool} : ∀ d, ValAt bs last d
 | 0 => fun st t to hd hw hn3 ht h h2 => by
   unfold vlD
   by_cases k0 : t.kind = 0
   · rw [if_pos k0]
     exact ⟨⟨fun h => (by cases h), fun _ => zbp (by unfold zaA; rw [if_pos k0]) (by decide)⟩, fun h => by cases h⟩
   · rw [if_neg k0]
     by_cases k24 : t.kind = 2 ∨ t.kind = 4
     · rw [if_pos k24]
       exact ⟨⟨fun h => (by cases h), fun _ => zbp (by unfold zaA zbv; rw [if_neg k0, if_pos k24, if_neg (by rw [hw]; decide), if_pos (by omega)]) (by decide)⟩, fun h => by cases h⟩
     · rw [if_neg k24]
       by_cases k35 : t.kind = 3 ∨ t.kind = 5
       · rw [if_pos k35]
         exact ⟨⟨fun h => (by cases h), fun _ => zbp (close_err hw hn3 k35) (by decide)⟩, fun h => by cases h⟩
       · rw [if_neg k35]
         have hk : t.kind = 1 ∨ t.kind = 6 := by have := ht.1; have := ht.2.1; omega
         have hs := (sing_ans (bs := bs) (last := last) (to := to) hw hk).2 (by omega)
         by_cases he : (zbz bs last t to).2.2 ≠ 0
         · rw [if_pos he] at hs ⊢
           exact ⟨⟨fun h => absurd h he, fun _ => hs⟩, fun h => absurd h he⟩
         · rw [if_neg he] at hs ⊢
           exact ⟨⟨fun h => (by cases h), fun _ => hs⟩, fun h => by cases h⟩
 | d + 1 => fun st t to hd hw hn3 ht h h2 => by
   unfold vlD
   by_cases k0 : t.kind = 0
   · rw [if_pos k0]
     exact ⟨⟨fun h => (by cases h), fun _ => zbp (by unfold zaA; rw [if_pos k0]) (by decide)⟩, fun h => by cases h⟩
   · rw [if_neg k0]
     have hbeg : ∀ q : Bool, zbv st q = ({ dict := q, l := [] } :: st, 0) := fun q => by
       unfold zbv
       rw [if_neg (by rw [hw]; decide), if_neg (by omega)]
     by_cases k2 : t.kind = 2
     · rw [if_pos k2]
       have hst : zaA bs last st to t = (none, { dict := false, l := [] } :: st, to, 0) := by
         unfold zaA
         have hk : (t.kind == 4) = false := by rw [beq_eq_false_iff_ne]; omega
         rw [if_neg k0, if_pos (.inl k2), hk, hbeg]
       obtain ⟨r1, r2⟩ := arr_ans (val_ans (bs := bs) (last := last) d) st (by omega) (bs.length + 1) [] to h h2 (by omega)
       exact ⟨⟨fun h V hV => by obtain ⟨g, hg⟩ := r1.1 h V hV; exact ⟨g, by rw [zdU hst]; exact hg⟩, fun h => by obtain ⟨g, hg⟩ := r1.2 h; exact ⟨g, by rw [zdU hst]; exact hg⟩⟩, fun h => ⟨k0, r2 h⟩⟩
     · rw [if_neg k2]
       by_cases k4 : t.kind = 4
       · rw [if_pos k4]
         have hst : zaA bs last st to t = (none, { dict := true, l := [] } :: st, to, 0) := by
           unfold zaA
           have hk : (t.kind == 4) = true := by rw [beq_iff_eq]; exact k4
           rw [if_neg k0, if_pos (.inr k4), hk, hbeg]
         obtain ⟨r1, r2⟩ := dict_ans (val_ans (bs := bs) (last := last) d) st (by omega) (bs.length + 1) [] to rfl h h2 (by omega)
         exact ⟨⟨fun h V hV => by obtain ⟨g, hg⟩ := r1.1 h V hV; exact ⟨g, by rw [zdU hst]; exact hg⟩, fun h => by obtain ⟨g, hg⟩ := r1.2 h; exact ⟨g, by rw [zdU hst]; exact hg⟩⟩, fun h => ⟨k0, r2 h⟩⟩
       · rw [if_neg k4]
         by_cases k35 : t.kind = 3 ∨ t.kind = 5
         · rw [if_pos k35]
           exact ⟨⟨fun h => (by cases h), fun _ => zbp (close_err hw hn3 k35) (by decide)⟩, fun h => by cases h⟩
         · rw [if_neg k35]
           have hk : t.kind = 1 ∨ t.kind = 6 := by have := ht.1; have := ht.2.1; omega
           exact ⟨(sing_ans (bs := bs) (last := last) (to := to) hw hk).1 (by omega), fun he => ⟨k0, singD_at h h2 he⟩⟩
def ErrS (R : PV × Int × Int) : Prop := R.2.2 ≠ 0 → R = (PV.none, 0, R.2.2)
theorem sing_shape (bs : List UInt8) (last : Bool) (t : Tk) (to : Int) : ErrS (zbz bs last t to) := by
 unfold zbz ErrS
 split
 · split
   · exact fun _ => rfl
   · exact fun h => absurd rfl h
 · split
   · split
     · exact fun _ => rfl
     · split
       · exact fun h => absurd rfl h
       · exact fun h => absurd rfl h
   · exact fun h => absurd rfl h
theorem arr_shape (bs : List UInt8) (last : Bool) (f : Tk → Int → PV × Int × Int) : ∀ r l k, ErrS (arrD bs last f r l k)
 | 0, _, _ => fun _ => rfl
 | r + 1, l, k => by
   unfold ErrS
   simp only [arrD]
   split
   · exact fun _ => rfl
   · split
     · exact fun h => absurd rfl h
     · split
       · exact fun _ => rfl
       · exact arr_shape bs last f r _ _
theorem zeX (bs : List UInt8) (last : Bool) (f : Tk → Int → PV × Int × Int) (d : Nat) : ∀ r ps tw k, ErrS (zdL bs last f d r ps tw k)
 | 0, _, _, _ => fun _ => rfl
 | r + 1, ps, tw, k => by
   unfold ErrS
   simp only [zdL]
   split
   · exact fun _ => rfl
   · split
     · split
       · exact fun _ => rfl
       · exact fun h => absurd rfl h
     · split
       · exact fun _ => rfl
       · split
         · exact fun _ => rfl
         · split
           · exact fun _ => rfl
           · split
             · exact fun _ => rfl
             · split
               · exact fun _ => rfl
               · exact zeX bs last f d r _ _ _
theorem vl_shape (bs : List UInt8) (last : Bool) (d : Nat) (t : Tk) (to : Int) : ErrS (vlD bs last d t to) := by
 cases d with
 | zero =>
   unfold ErrS vlD
   split
   · exact fun _ => rfl
   · split
     · exact fun _ => rfl
     · split
       · exact fun _ => rfl
       · split
         · exact fun _ => rfl
         · exact fun _ => rfl
 | succ d =>
   unfold vlD
   split
   · exact fun _ => rfl
   · split
     · exact arr_shape _ _ _ _ _ _
     · split
       · exact zeX _ _ _ _ _ _ _ _
       · split
         · exact fun _ => rfl
         · exact sing_shape _ _ _ _
theorem wholeD_is {bs : List UInt8} {last : Bool} {k : Int} (h : 0 ≤ k) (h2 : k ≤ bs.length) : ∃ g, valO bs last g [] k = some (zbb bs last k) := by
 obtain ⟨g1, g2⟩ := zaK last h h2
 have hok := zcN last h h2
 unfold zbb
 by_cases he : (zaf bs k last).2.2.2 ≠ 0
 · rw [if_pos he]
   exact ⟨1, by rw [zdh, if_pos he]⟩
 · rw [if_neg he]
   obtain ⟨⟨a1, a2⟩, -⟩ := val_ans (bs := bs) (last := last) 64 [] (zaf bs k last).1 (zaf bs k last).2.2.1 rfl rfl (fun _ v rest hv => by cases hv) hok (by omega) g2
   by_cases hv : (vlD bs last 64 (zaf bs k last).1 (zaf bs k last).2.2.1).2.2 = 0
   · obtain ⟨g, hg⟩ := a1 hv (vlD bs last 64 (zaf bs k last).1 (zaf bs k last).2.2.1) ⟨0, by
       show some (_, _, (0 : Int)) = some _
       rw [← hv]⟩
     exact ⟨g + 1, by rw [zdh, if_neg he]; exact hg⟩
   · obtain ⟨g, hg⟩ := a2 hv
     refine ⟨g + 1, ?_⟩
     rw [zdh, if_neg he, hg]
     exact congrArg some (vl_shape bs last 64 _ _ hv).symm
theorem zei {bs : List UInt8} {last : Bool} : ∀ (g : Nat) (st : List Lv) (k : Int) (V : PV × Int × Int), valO bs last g st k = some V → valO bs last (g + 1) st k = some V
 | 0, _, _, _, h => by cases h
 | g + 1, st, k, V, h => by
   rw [zdh] at h ⊢
   by_cases he : (zaf bs k last).2.2.2 ≠ 0
   · rw [if_pos he] at h ⊢; exact h
   · rw [if_neg he] at h ⊢
     unfold aftO at h ⊢
     by_cases hs : (zaA bs last st (zaf bs k last).2.2.1 (zaf bs k last).1).2.2.2 ≠ 0
     · rw [if_pos hs] at h ⊢; exact h
     · rw [if_neg hs] at h ⊢
       generalize zaA bs last st (zaf bs k last).2.2.1 (zaf bs k last).1 = Z at *
       obtain ⟨v, st2, at2, e2⟩ := Z
       cases v with
       | none => exact zei g st2 at2 V h
       | some x =>
         cases st2 with
         | nil => exact h
         | cons top rest => exact zei g _ at2 V h
theorem zd7 {bs : List UInt8} {last : Bool} {g : Nat} {st : List Lv} {k : Int} {V : PV × Int × Int} (h : valO bs last g st k = some V) : ∀ j, valO bs last (g + j) st k = some V
 | 0 => h
 | j + 1 => zei _ _ _ _ (zd7 h j)
theorem zft {bs : List UInt8} {last : Bool} {g g2 : Nat} {st : List Lv} {k : Int} {V V2 : PV × Int × Int} (h : valO bs last g st k = some V) (h2 : valO bs last g2 st k = some V2) : V = V2 := by
 have a1 := zd7 h g2
 have a2 := zd7 h2 g
 rw [Nat.add_comm] at a2
 rw [a1] at a2
 exact Option.some.inj a2
theorem zce {bs : List UInt8} {last : Bool} {k : Int} (h : 0 ≤ k) (h2 : k ≤ bs.length) : valO bs last (bs.length + 2) [] k = some (zbb bs last k) := by
 obtain ⟨V, hV⟩ := zef bs last (bs.length + 2) [] k h h2 (by omega)
 obtain ⟨g, hg⟩ := wholeD_is (last := last) h h2
 rw [hV, zft hV hg]
structure Ent where
 at_ : Int := 0
 gen : Int := 0
 used : Bool := false
 deriving DecidableEq, Inhabited
structure Grp where
 first : Int
 es : List Ent
 deriving DecidableEq, Inhabited
structure Sec where
 gs : List Grp
 tr : PV
def Sec.none : Sec := ⟨[], PV.none⟩
theorem zck (l : List UInt8) : 0 ≤ (zav l).1 ∧ (zav l).1 ≤ 2147483647 := by
 unfold zav
 split
 · exact ⟨by decide, by decide⟩
 · split
   · exact ⟨by decide, by decide⟩
   · exact ⟨by show (0 : Int) ≤ (valD l : Nat); omega, by show ((valD l : Nat) : Int) ≤ 2147483647; omega⟩
def zbl (bs : List UInt8) (k : Nat) : Nat := k + ((bs.drop k).takeWhile isSp).length
def entS (s : List UInt8) : Option Ent :=
 if (zav (s.take 10)).2 ≠ 0 ∨ (zav ((s.drop 11).take 5)).2 ≠ 0 ∨ 65535 < (zav ((s.drop 11).take 5)).1 ∨ s.getD 10 0 ≠ 32 ∨ s.getD 16 0 ≠ 32 ∨ (s.getD 17 0 ≠ 110 ∧ s.getD 17 0 ≠ 102) ∨
   (s.getD 18 0 ≠ 32 ∧ s.getD 18 0 ≠ 10 ∧ s.getD 18 0 ≠ 13) then none
 else some { at_ := (zav (s.take 10)).1, gen := (zav ((s.drop 11).take 5)).1, used := s.getD 17 0 == 110 }
def entV (bs : List UInt8) (last : Bool) (k : Nat) : Ent × Nat × Int :=
 if bs.length < zbl bs k + 19 then ({}, 0, za5 last)
 else match entS ((bs.drop (zbl bs k)).take 19) with
   | none => ({}, 0, 20)
   | some x => (x, zbl bs k + 19, 0)
def zbo (bs : List UInt8) (last : Bool) : Nat → Nat → List Ent → List Ent × Nat × Int
 | 0, k, l => (l, k, 0)
 | n + 1, k, l => if (entV bs last k).2.2 ≠ 0 then ([], 0, (entV bs last k).2.2) else zbo bs last n (entV bs last k).2.1 (l ++ [(entV bs last k).1])
def nxtV (bs : List UInt8) (last : Bool) (k : Int) : Tk × Int × Int × Int :=
 if (zaf bs k last).2.2.2 = 0 ∧ (zaf bs k last).1.kind = 0 then ((zaf bs k last).1, (zaf bs k last).2.1, (zaf bs k last).2.2.1, 10) else zaf bs k last
def zd9 (f n : Int) : Bool := decide (0 ≤ f) && decide (f ≤ 4097) && decide (0 ≤ n) && decide (n ≤ 4097 - f)
def zc0 (t : Tk) : Bool := t.kind == 6 && t.s == [116, 114, 97, 105, 108, 101, 114]
def zcW (t : Tk) : Bool := t.kind == 6 && t.s == [120, 114, 101, 102]
def zaX (bs : List UInt8) (last : Bool) : Nat → List Grp → Int → List Grp × Int × Int
 | 0, _, _ => ([], 0, 20)
 | g + 1, gs, k =>
   let t := nxtV bs last k
   if t.2.2.2 ≠ 0 then ([], 0, t.2.2.2)
   else if zc0 t.1 = true then (gs, t.2.2.1, 0)
   else if zay t.1 = false then ([], 0, 20)
   else
     let u := nxtV bs last t.2.2.1
     if u.2.2.2 ≠ 0 then ([], 0, u.2.2.2)
     else if zay u.1 = false ∨ gs.length = 64 ∨ zd9 t.1.vn u.1.vn = false then ([], 0, 20)
     else
       let q := zbo bs last u.1.vn.toNat u.2.2.1.toNat []
       if q.2.2 ≠ 0 then ([], 0, q.2.2) else zaX bs last g (gs ++ [⟨t.1.vn, q.1⟩]) (q.2.1 : Int)
def oneX (p : Tk → Bool) (V : Tk × Int × Int × Int) : Int × Int :=
 if V.2.2.2 ≠ 0 then (0, V.2.2.2) else if V.1.kind = 0 then (0, 10) else if p V.1 = false then (0, 11) else (V.2.2.1, 0)
def secV (bs : List UInt8) (last : Bool) (k : Int) : Sec × Int × Int :=
 let o := oneX zcW (zaf bs k last)
 if o.2 ≠ 0 then (Sec.none, 0, o.2)
 else
   let g := zaX bs last 65 [] o.1
   if g.2.2 ≠ 0 then (Sec.none, 0, g.2.2)
   else
     let v := zbb bs last g.2.1
     if v.2.2 ≠ 0 then (Sec.none, 0, v.2.2) else if v.1.kind ≠ 7 then (Sec.none, 0, 20) else (⟨g.1, v.1⟩, v.2.1, 0)
theorem take_split (bs : List UInt8) {n k : Nat} (h : k ≤ n) (hn : n ≤ bs.length) : bs.drop k = (bs.take n).drop k ++ bs.drop n := by
 conv => lhs; rw [← List.take_append_drop n bs]
 rw [List.drop_append]
 have hl : (bs.take n).length = n := by rw [List.length_take]; omega
 rw [hl, show k - n = 0 by omega, List.drop_zero]
theorem skipS_take {bs : List UInt8} {n k : Nat} (h : k ≤ n) (hn : n ≤ bs.length) (hs : zbl (bs.take n) k < n) : zbl bs k = zbl (bs.take n) k := by
 have hl : (bs.take n).length = n := by rw [List.length_take]; omega
 unfold zbl at hs ⊢
 rw [take_split bs h hn]
 have hne : ((bs.take n).drop k).dropWhile isSp ≠ [] := by
   intro e
   have h1 : ((bs.take n).drop k).takeWhile isSp = (bs.take n).drop k := by
     have := List.takeWhile_append_dropWhile (p := isSp) (l := (bs.take n).drop k)
     rw [e, List.append_nil] at this
     exact this
   rw [h1, List.length_drop, hl] at hs
   omega
 rw [(zcq isSp (bs.drop n) _ hne).1]
theorem entV_stays {bs : List UInt8} {n k : Nat} (last : Bool) (h : k ≤ n) (hn : n ≤ bs.length) (h6 : (entV (bs.take n) false k).2.2 ≠ 6) :
   entV bs last k = entV (bs.take n) false k ∧ entV (bs.take n) true k = entV (bs.take n) false k ∧ (entV (bs.take n) false k).2.1 ≤ n := by
 have hl : (bs.take n).length = n := by rw [List.length_take]; omega
 unfold entV at h6 ⊢
 rw [hl] at h6 ⊢
 by_cases hc : n < zbl (bs.take n) k + 19
 · rw [if_pos hc] at h6
   exact absurd rfl h6
 · have hs := skipS_take h hn (by omega)
   rw [if_neg hc, if_neg (show ¬ bs.length < zbl bs k + 19 by omega), if_neg hc, hs]
   have he : ((bs.take n).drop (zbl (bs.take n) k)).take 19 = (bs.drop (zbl (bs.take n) k)).take 19 := by
     rw [List.drop_take, List.take_take, Nat.min_eq_left (by omega)]
   rw [he]
   refine ⟨rfl, rfl, ?_⟩
   cases entS ((bs.drop (zbl (bs.take n) k)).take 19) with
   | none => exact Nat.zero_le _
   | some x => show zbl (bs.take n) k + 19 ≤ n; omega
theorem zdW {bs : List UInt8} {n : Nat} (last : Bool) (hn : n ≤ bs.length) : ∀ (m k : Nat) (l : List Ent), k ≤ n → (zbo (bs.take n) false m k l).2.2 ≠ 6 →
   zbo bs last m k l = zbo (bs.take n) false m k l ∧ zbo (bs.take n) true m k l = zbo (bs.take n) false m k l ∧ (zbo (bs.take n) false m k l).2.1 ≤ n
 | 0, k, l, h, _ => ⟨rfl, rfl, h⟩
 | m + 1, k, l, h, h6 => by
   unfold zbo at h6 ⊢
   have g6 : (entV (bs.take n) false k).2.2 ≠ 6 := by
     intro e
     rw [if_pos (by rw [e]; decide)] at h6
     exact h6 e
   obtain ⟨a, b, c⟩ := entV_stays last h hn g6
   rw [a, b]
   by_cases he : (entV (bs.take n) false k).2.2 ≠ 0
   · simp only [if_pos he]; exact ⟨trivial, trivial, Nat.zero_le _⟩
   · simp only [if_neg he] at h6 ⊢
     exact zdW last hn m _ _ c h6
theorem zeD {bs : List UInt8} {n : Nat} (last : Bool) {k : Int} (h : 0 ≤ k) (h2 : k ≤ n) (hn : n ≤ bs.length) (h6 : (nxtV (bs.take n) false k).2.2.2 ≠ 6) :
   nxtV bs last k = nxtV (bs.take n) false k ∧ nxtV (bs.take n) true k = nxtV (bs.take n) false k ∧ 0 ≤ (nxtV (bs.take n) false k).2.2.1 ∧ (nxtV (bs.take n) false k).2.2.1 ≤ n := by
 have g6 : (zaf (bs.take n) k false).2.2.2 ≠ 6 := by
   intro e
   unfold nxtV at h6
   rw [if_neg (by rw [e]; simp)] at h6
   exact h6 e
 obtain ⟨a, b, c, d⟩ := same3 last h h2 hn g6
 unfold nxtV
 rw [a, b]
 refine ⟨rfl, rfl, ?_⟩
 split
 · exact ⟨by show (0 : Int) ≤ (zaf (bs.take n) k false).2.2.1; omega, d⟩
 · exact ⟨by omega, d⟩
theorem zdZ {bs : List UInt8} {n : Nat} (last : Bool) (hn : n ≤ bs.length) : ∀ (g : Nat) (gs : List Grp) (k : Int), 0 ≤ k → k ≤ n → (zaX (bs.take n) false g gs k).2.2 ≠ 6 →
   zaX bs last g gs k = zaX (bs.take n) false g gs k ∧ zaX (bs.take n) true g gs k = zaX (bs.take n) false g gs k ∧ 0 ≤ (zaX (bs.take n) false g gs k).2.1 ∧ (zaX (bs.take n) false g gs k).2.1 ≤ n
 | 0, gs, k, h, h2, _ => ⟨rfl, rfl, Int.le_refl _, by show (0 : Int) ≤ n; omega⟩
 | g + 1, gs, k, h, h2, h6 => by
   unfold zaX at h6 ⊢
   simp only at h6 ⊢
   have t6 : (nxtV (bs.take n) false k).2.2.2 ≠ 6 := by
     intro e
     rw [if_pos (by rw [e]; decide)] at h6
     exact h6 e
   obtain ⟨a, b, c, d⟩ := zeD last h h2 hn t6
   rw [a, b]
   generalize nxtV (bs.take n) false k = t at *
   by_cases he : t.2.2.2 ≠ 0
   · simp only [if_pos he]; exact ⟨trivial, trivial, Int.le_refl _, by omega⟩
   simp only [if_neg he] at h6 ⊢
   by_cases ht : zc0 t.1 = true
   · simp only [if_pos ht]; exact ⟨trivial, trivial, c, d⟩
   simp only [if_neg ht] at h6 ⊢
   by_cases hw : zay t.1 = false
   · simp only [if_pos hw]; exact ⟨trivial, trivial, Int.le_refl _, by omega⟩
   simp only [if_neg hw] at h6 ⊢
   have u6 : (nxtV (bs.take n) false t.2.2.1).2.2.2 ≠ 6 := by
     intro e
     rw [if_pos (by rw [e]; decide)] at h6
     exact h6 e
   obtain ⟨a2, b2, c2, d2⟩ := zeD last c d hn u6
   rw [a2, b2]
   generalize nxtV (bs.take n) false t.2.2.1 = u at *
   by_cases hu : u.2.2.2 ≠ 0
   · simp only [if_pos hu]; exact ⟨trivial, trivial, Int.le_refl _, by omega⟩
   simp only [if_neg hu] at h6 ⊢
   by_cases hx : zay u.1 = false ∨ gs.length = 64 ∨ zd9 t.1.vn u.1.vn = false
   · simp only [if_pos hx]; exact ⟨trivial, trivial, Int.le_refl _, by omega⟩
   simp only [if_neg hx] at h6 ⊢
   have q6 : (zbo (bs.take n) false u.1.vn.toNat u.2.2.1.toNat []).2.2 ≠ 6 := by
     intro e
     rw [if_pos (by rw [e]; decide)] at h6
     exact h6 e
   obtain ⟨a3, b3, c3⟩ := zdW last hn u.1.vn.toNat u.2.2.1.toNat [] (by omega) q6
   rw [a3, b3]
   generalize zbo (bs.take n) false u.1.vn.toNat u.2.2.1.toNat [] = q at *
   by_cases hq : q.2.2 ≠ 0
   · simp only [if_pos hq]; exact ⟨trivial, trivial, Int.le_refl _, by omega⟩
   simp only [if_neg hq] at h6 ⊢
   exact zdZ last hn g _ _ (by omega) (by omega) h6
theorem wholeD_stays {bs : List UInt8} {n : Nat} (last : Bool) (hn : n ≤ bs.length) {k : Int} (h : 0 ≤ k) (h2 : k ≤ n) (h6 : (zbb (bs.take n) false k).2.2 ≠ 6) :
   zbb bs last k = zbb (bs.take n) false k ∧ zbb (bs.take n) true k = zbb (bs.take n) false k := by
 have hl : (bs.take n).length = n := by rw [List.length_take]; omega
 have p := zce (bs := bs.take n) (last := false) h (by omega)
 obtain ⟨a, b⟩ := zdl last hn _ _ _ _ h h2 p h6
 exact ⟨zft (zce h (by omega)) a, zft (zce h (by omega)) b⟩
theorem oneX_stays {bs : List UInt8} {n : Nat} (last : Bool) (p : Tk → Bool) {k : Int} (h : 0 ≤ k) (h2 : k ≤ n) (hn : n ≤ bs.length) (h6 : (oneX p (zaf (bs.take n) k false)).2 ≠ 6) :
   oneX p (zaf bs k last) = oneX p (zaf (bs.take n) k false) ∧ oneX p (zaf (bs.take n) k true) = oneX p (zaf (bs.take n) k false) ∧ 0 ≤ (oneX p (zaf (bs.take n) k false)).1 ∧ (oneX p (zaf (bs.take n) k false)).1 ≤ n := by
 have g6 : (zaf (bs.take n) k false).2.2.2 ≠ 6 := by
   intro e
   unfold oneX at h6
   rw [if_pos (by rw [e]; decide)] at h6
   exact h6 e
 obtain ⟨a, b, c, d⟩ := same3 last h h2 hn g6
 rw [a, b]
 refine ⟨rfl, rfl, ?_⟩
 unfold oneX
 split
 · exact ⟨Int.le_refl _, by omega⟩
 · split
   · exact ⟨Int.le_refl _, by omega⟩
   · split
     · exact ⟨Int.le_refl _, by omega⟩
     · exact ⟨by omega, d⟩
theorem secV_stays {bs : List UInt8} {n : Nat} (last : Bool) {k : Int} (h : 0 ≤ k) (h2 : k ≤ n) (hn : n ≤ bs.length) (h6 : (secV (bs.take n) false k).2.2 ≠ 6) :
   secV bs last k = secV (bs.take n) false k ∧ secV (bs.take n) true k = secV (bs.take n) false k := by
 unfold secV at h6 ⊢
 simp only at h6 ⊢
 have o6 : (oneX zcW (zaf (bs.take n) k false)).2 ≠ 6 := by
   intro e
   rw [if_pos (by rw [e]; decide)] at h6
   exact h6 e
 obtain ⟨a, b, c, d⟩ := oneX_stays last zcW h h2 hn o6
 rw [a, b]
 generalize oneX zcW (zaf (bs.take n) k false) = o at *
 by_cases ho : o.2 ≠ 0
 · simp only [if_pos ho]; exact ⟨trivial, trivial⟩
 simp only [if_neg ho] at h6 ⊢
 have g6 : (zaX (bs.take n) false 65 [] o.1).2.2 ≠ 6 := by
   intro e
   rw [if_pos (by rw [e]; decide)] at h6
   exact h6 e
 obtain ⟨a2, b2, c2, d2⟩ := zdZ last hn 65 [] o.1 c d g6
 rw [a2, b2]
 generalize zaX (bs.take n) false 65 [] o.1 = g at *
 by_cases hg : g.2.2 ≠ 0
 · simp only [if_pos hg]; exact ⟨trivial, trivial⟩
 simp only [if_neg hg] at h6 ⊢
 have v6 : (zbb (bs.take n) false g.2.1).2.2 ≠ 6 := by
   intro e
   rw [if_pos (by rw [e]; decide)] at h6
   exact h6 e
 obtain ⟨a3, b3⟩ := wholeD_stays last hn c2 d2 v6
 rw [a3, b3]
 exact ⟨rfl, rfl⟩
def zcf : List Grp → Int → Option Ent
 | [], _ => none
 | g :: gs, n => if g.first ≤ n ∧ n - g.first < (g.es.length : Int) then some (g.es.getD (n - g.first).toNat {}) else zcf gs n
def findP (o : Option Ent) : Ent × Bool := match o with | none => ({}, false) | some e => (e, true)
theorem parse_six (s : List UInt8) : (zaL s).2.2 ≠ 6 := by
 unfold zaL zaY
 repeat' split
 all_goals (intro h; cases h)
theorem tok_six (c : UInt8) (t : List UInt8) : (tokV true c t).1 ≠ 6 := by
 unfold tokV
 simp only [Bool.true_eq_false, and_false, if_false]
 split
 · split
   · exact parse_six _
   · (intro h; cases h)
 split
 · (intro h; cases h)
 split
 · (intro h; cases h)
 split
 · split
   · (intro h; cases h)
   · repeat' split
     all_goals (intro h; cases h)
 split
 · split
   · (intro h; cases h)
   · split <;> (intro h; cases h)
 split
 · split <;> (intro h; cases h)
 split
 · split <;> (intro h; cases h)
 · (intro h; cases h)
theorem zbK (bs : List UInt8) (k : Int) : (zaf bs k true).2.2.2 ≠ 6 := by
 unfold zaf
 split
 · (intro h; cases h)
 · simp only
   split
   · (intro h; cases h)
   · rename_i c t _
     have h := tok_six c t
     generalize tokV true c t = V at *
     obtain ⟨e, x, r⟩ := V
     simp only at h ⊢
     split
     · (intro h; cases h)
     · exact h
theorem refD_six (bs : List UInt8) (k n : Int) : (refD bs true k n).2.2 ≠ 6 := by
 unfold refD
 simp only
 rw [if_neg (zbK _ _)]
 split
 · (intro h; cases h)
 rw [if_neg (zbK _ _)]
 split
 · (intro h; cases h)
 split <;> (intro h; cases h)
theorem sing_six (bs : List UInt8) (t : Tk) (to : Int) : (zbz bs true t to).2.2 ≠ 6 := by
 unfold zbz
 split
 · split <;> (intro h; cases h)
 split
 · split
   · exact refD_six _ _ _
   · split <;> (intro h; cases h)
 · (intro h; cases h)
theorem arr_six (bs : List UInt8) (f : Tk → Int → PV × Int × Int) (hf : ∀ t k, (f t k).2.2 ≠ 6) : ∀ (r : Nat) (l : List PV) (k : Int), (arrD bs true f r l k).2.2 ≠ 6
 | 0, _, _ => by unfold arrD; (intro h; cases h)
 | r + 1, l, k => by
   unfold arrD
   split
   · exact zbK _ _
   split
   · (intro h; cases h)
   split
   · exact hf _ _
   · exact arr_six bs f hf r _ _
theorem dict_six (bs : List UInt8) (f : Tk → Int → PV × Int × Int) (hf : ∀ t k, (f t k).2.2 ≠ 6) (d : Nat) : ∀ (r : Nat) (ps : List (PV × PV)) (tw : Bool) (k : Int), (zdL bs true f d r ps tw k).2.2 ≠ 6
 | 0, _, _, _ => by unfold zdL; (intro h; cases h)
 | r + 1, ps, tw, k => by
   unfold zdL
   simp only
   split
   · exact zbK _ _
   split
   · split <;> (intro h; cases h)
   split
   · (intro h; cases h)
   split
   · (intro h; cases h)
   split
   · (intro h; cases h)
   split
   · exact zbK _ _
   split
   · exact hf _ _
   · exact dict_six bs f hf d r _ _ _
theorem vl_six (bs : List UInt8) : ∀ (d : Nat) (t : Tk) (k : Int), (vlD bs true d t k).2.2 ≠ 6
 | 0, t, k => by
   unfold vlD
   repeat' split
   all_goals first
     | (intro h; cases h; done)
     | exact sing_six _ _ _
 | d + 1, t, k => by
   unfold vlD
   split
   · (intro h; cases h)
   split
   · exact arr_six _ _ (vl_six bs d) _ _ _
   split
   · exact dict_six _ _ (vl_six bs d) _ _ _ _ _
   split
   · (intro h; cases h)
   · exact sing_six _ _ _
theorem whole_six (bs : List UInt8) (k : Int) : (zbb bs true k).2.2 ≠ 6 := by
 unfold zbb
 split
 · exact zbK _ _
 · exact vl_six _ _ _ _
theorem nxt_six (bs : List UInt8) (k : Int) : (nxtV bs true k).2.2.2 ≠ 6 := by
 unfold nxtV
 split
 · (intro h; cases h)
 · exact zbK _ _
theorem ent_six (bs : List UInt8) (k : Nat) : (entV bs true k).2.2 ≠ 6 := by
 unfold entV
 split
 · (intro h; cases h)
 · split <;> (intro h; cases h)
theorem ents_six (bs : List UInt8) : ∀ (n k : Nat) (l : List Ent), (zbo bs true n k l).2.2 ≠ 6
 | 0, _, _ => by unfold zbo; (intro h; cases h)
 | n + 1, k, l => by
   unfold zbo
   split
   · exact ent_six _ _
   · exact ents_six bs n _ _
theorem grps_six (bs : List UInt8) : ∀ (g : Nat) (gs : List Grp) (k : Int), (zaX bs true g gs k).2.2 ≠ 6
 | 0, _, _ => by unfold zaX; (intro h; cases h)
 | g + 1, gs, k => by
   unfold zaX
   simp only
   split
   · exact nxt_six _ _
   split
   · (intro h; cases h)
   split
   · (intro h; cases h)
   split
   · exact nxt_six _ _
   split
   · (intro h; cases h)
   split
   · exact ents_six _ _ _ _
   · exact grps_six bs g _ _
theorem sec_six (bs : List UInt8) (k : Int) : (secV bs true k).2.2 ≠ 6 := by
 unfold secV
 simp only
 have ho : (oneX zcW (zaf bs k true)).2 ≠ 6 := by
   unfold oneX
   split
   · exact zbK _ _
   · repeat' split
     all_goals (intro h; cases h)
 split
 · exact ho
 split
 · exact grps_six _ _ _ _
 split
 · exact whole_six _ _
 · split <;> (intro h; cases h)
def fN (key : List UInt8) : List PV → Option Nat
 | [] => none
 | [x] => if x.kind = 5 ∧ x.s = key then some 0 else none
 | x :: _ :: l => if x.kind = 5 ∧ x.s = key then some 0 else (fN key l).map (· + 2)
def zfb (v : PV) (key : List UInt8) : Option Nat := if v.kind = 7 then fN key v.l else none
def getV (v : PV) (key : List UInt8) : Option PV := (zfb v key).map fun k => v.l.getD (k + 1) PV.none
def getP (o : Option PV) : PV × Bool := match o with | none => (PV.none, false) | some v => (v, true)
def kPrev : List UInt8 := [80, 114, 101, 118]
def zc7 : List UInt8 := [83, 105, 122, 101]
def kRoot : List UInt8 := [82, 111, 111, 116]
def zbG : List UInt8 := [115, 116, 97, 114, 116, 120, 114, 101, 102]
def zaw (kn : List Bool) (a : Nat) : Nat := a + ((kn.drop a).takeWhile id).length
theorem zcm {kn : List Bool} {a : Nat} (h : a ≤ kn.length) : a ≤ zaw kn a ∧ zaw kn a ≤ kn.length := by
 unfold zaw
 have h1 : ((kn.drop a).takeWhile id).length ≤ (kn.drop a).length := (List.takeWhile_sublist _).length_le
 rw [List.length_drop] at h1
 omega
theorem nextK_all {n a : Nat} (h : a ≤ n) : zaw (List.replicate n true) a = n := by
 unfold zaw
 rw [List.drop_replicate, List.takeWhile_replicate]
 simp
 omega
theorem drop_while (l : List Bool) : l.drop (l.takeWhile id).length = l.dropWhile id := by
 induction l with
 | nil => rfl
 | cons x l ih => cases x <;> simp [ih]
theorem zeV {kn : List Bool} {a : Nat} (h : zaw kn a < kn.length) : zaw kn (zaw kn a) = zaw kn a := by
 have hb : a ≤ kn.length := by unfold zaw at h; omega
 have h2 : (kn.drop (zaw kn a)) = (kn.drop a).dropWhile id := by
   unfold zaw
   rw [← List.drop_drop, drop_while]
 have h3 : ((kn.drop a).dropWhile id).takeWhile id = [] := by
   generalize kn.drop a = l
   induction l with
   | nil => rfl
   | cons x l ih => cases x <;> simp; simpa using ih
 show zaw kn a + _ = _
 rw [h2, h3]
 rfl
def zcL (w b : List UInt8) : Nat → Option Nat
 | 0 => if (b.drop 0).take w.length = w then some 0 else none
 | k + 1 => if (b.drop (k + 1)).take w.length = w then some (k + 1) else zcL w b k
def zcB (w b : List UInt8) : Option Nat := if b.length < w.length then none else zcL w b (b.length - w.length)
def zaE (bs : List UInt8) (kn : List Bool) : Int × Int × Int :=
 if zaw kn (bs.length - 64) < bs.length then (0, (zaw kn (bs.length - 64) : Int), 6)
 else match zcB zbG (bs.drop (bs.length - 64)) with
   | none => (0, 0, 22)
   | some k =>
     let V := zaf (bs.drop (bs.length - 64)) ((k : Int) + 9) true
     if V.2.2.2 ≠ 0 ∨ zay V.1 = false ∨ V.1.vn < 0 ∨ (bs.length : Int) ≤ V.1.vn then (0, 0, 22) else (V.1.vn, 0, 0)
def zbf (bs : List UInt8) (kn : List Bool) (a : Nat) : Sec × Int × Int := secV ((bs.drop a).take (zaw kn a - a)) (zaw kn a == bs.length) 0
def zba (bs : List UInt8) (kn : List Bool) : Nat → List Int → List Sec → Int → List Sec × Int × Int
 | 0, _, _, _ => ([], 0, 21)
 | g + 1, rd, l, a =>
   if a < 0 ∨ (bs.length : Int) ≤ a then ([], 0, 20)
   else if a ∈ rd ∨ 32 ≤ l.length then ([], 0, 21)
   else
     let s := zbf bs kn a.toNat
     if s.2.2 = 6 then ([], (zaw kn a.toNat : Int), 6)
     else if s.2.2 ≠ 0 then ([], 0, 20)
     else match getV s.1.tr kPrev with
       | none => (l ++ [s.1], 0, 0)
       | some v => if v.kind ≠ 2 then ([], 0, 20) else zba bs kn g (rd ++ [a]) (l ++ [s.1]) v.n
def zbR : List Sec → Int → Int
 | [], _ => -1
 | s :: l, n => match zcf s.gs n with
   | none => zbR l n
   | some e => if e.used = true ∧ e.gen = 0 then e.at_ else -1
structure Tab where
 ps : List Int := []
 root : Int := 0
def tabV (l : List Sec) : Tab × Int :=
 match l with
 | [] => ({}, 20)
 | s :: _ =>
   let size := (getP (getV s.tr zc7)).1
   let root := (getP (getV s.tr kRoot)).1
   if size.kind ≠ 2 ∨ size.n < 1 ∨ 4097 < size.n then ({}, 20)
   else if root.kind ≠ 8 then ({}, 23)
   else (⟨(List.range (size.n.toNat - 1)).map fun (i : Nat) => zbR l ((i : Int) + 1), root.n⟩, 0)
def zcH (bs : List UInt8) (kn : List Bool) : Tab × Int × Int :=
 if (zaE bs kn).2.2 ≠ 0 then ({}, (zaE bs kn).2.1, (zaE bs kn).2.2)
 else
   let q := zba bs kn 33 [] [] (zaE bs kn).1
   if q.2.2 ≠ 0 then ({}, q.2.1, q.2.2) else ((tabV q.1).1, 0, (tabV q.1).2)
def tabF (t : Tab) (n : Int) : Int × Bool := if n < 1 ∨ (t.ps.length : Int) < n ∨ t.ps.getD (n - 1).toNat 0 < 0 then (0, false) else (t.ps.getD (n - 1).toNat 0, true)
theorem sect_stays {bs : List UInt8} {kn : List Bool} (hk : kn.length = bs.length) {a : Nat} (ha : a < bs.length) :
   ((zbf bs kn a).2.2 = 6 → zaw kn a < bs.length) ∧ ((zbf bs kn a).2.2 ≠ 6 → zbf bs (List.replicate bs.length true) a = zbf bs kn a) := by
 obtain ⟨h1, h2⟩ := zcm (kn := kn) (a := a) (by omega)
 have hall : zbf bs (List.replicate bs.length true) a = secV (bs.drop a) true 0 := by
   unfold zbf
   rw [nextK_all (by omega), List.take_of_length_le (by rw [List.length_drop]; omega)]
   rw [beq_self_eq_true]
 by_cases hn : zaw kn a = bs.length
 · have hs : zbf bs kn a = secV (bs.drop a) true 0 := by
     unfold zbf
     rw [hn, List.take_of_length_le (by rw [List.length_drop]; omega), beq_self_eq_true]
   rw [hall, hs]
   exact ⟨fun h => absurd h (sec_six _ _), fun _ => rfl⟩
 · have hs : zbf bs kn a = secV ((bs.drop a).take (zaw kn a - a)) false 0 := by
     unfold zbf
     rw [show (zaw kn a == bs.length) = false by rw [beq_eq_false_iff_ne]; exact hn]
   refine ⟨fun _ => by omega, fun h6 => ?_⟩
   rw [hs] at h6
   rw [hall, hs]
   exact (secV_stays true (Int.le_refl 0) (by omega) (by rw [List.length_drop]; omega) h6).1
theorem zeR {bs : List UInt8} {kn : List Bool} (hk : kn.length = bs.length) : ∀ (g : Nat) (rd : List Int) (l : List Sec) (a : Int),
   ((zba bs kn g rd l a).2.2 = 6 → ∃ m : Nat, (zba bs kn g rd l a).2.1 = (m : Int) ∧ m < bs.length ∧ zaw kn m = m) ∧
   ((zba bs kn g rd l a).2.2 ≠ 6 → zba bs (List.replicate bs.length true) g rd l a = zba bs kn g rd l a)
 | 0, _, _, _ => ⟨fun h => (by unfold zba at h; cases h), fun _ => rfl⟩
 | g + 1, rd, l, a => by
   unfold zba
   by_cases h1 : a < 0 ∨ (bs.length : Int) ≤ a
   · rw [if_pos h1, if_pos h1]
     exact ⟨fun h => (by cases h), fun _ => rfl⟩
   rw [if_neg h1, if_neg h1]
   by_cases h2 : a ∈ rd ∨ 32 ≤ l.length
   · rw [if_pos h2, if_pos h2]
     exact ⟨fun h => (by cases h), fun _ => rfl⟩
   rw [if_neg h2, if_neg h2]
   simp only
   obtain ⟨s1, s2⟩ := sect_stays hk (a := a.toNat) (by omega)
   by_cases h6 : (zbf bs kn a.toNat).2.2 = 6
   · rw [if_pos h6]
     have := s1 h6
     exact ⟨fun _ => ⟨_, rfl, this, zeV (by omega)⟩, fun h => absurd rfl h⟩
   rw [s2 h6, if_neg h6, if_neg h6]
   by_cases h0 : (zbf bs kn a.toNat).2.2 ≠ 0
   · rw [if_pos h0, if_pos h0]
     exact ⟨fun h => (by cases h), fun _ => rfl⟩
   rw [if_neg h0, if_neg h0]
   cases getV (zbf bs kn a.toNat).1.tr kPrev with
   | none => exact ⟨fun h => (by cases h), fun _ => rfl⟩
   | some v =>
     simp only
     by_cases hv : v.kind ≠ 2
     · rw [if_pos hv, if_pos hv]
       exact ⟨fun h => (by cases h), fun _ => rfl⟩
     rw [if_neg hv, if_neg hv]
     exact zeR hk g _ _ _
theorem tab_six (l : List Sec) : (tabV l).2 ≠ 6 := by
 unfold tabV
 split
 · (intro h; cases h)
 · simp only
   repeat' split
   all_goals (intro h; cases h)
theorem load_stays {bs : List UInt8} {kn : List Bool} (hk : kn.length = bs.length) :
   ((zcH bs kn).2.2 = 6 → (zcH bs kn).1 = {} ∧ ∃ m : Nat, (zcH bs kn).2.1 = (m : Int) ∧ m < bs.length ∧ zaw kn m = m) ∧
   ((zcH bs kn).2.2 ≠ 6 → zcH bs (List.replicate bs.length true) = zcH bs kn ∧ (zcH bs kn).2.1 = 0) := by
 obtain ⟨b1, b2⟩ := zcm (kn := kn) (a := bs.length - 64) (by omega)
 by_cases hn : zaw kn (bs.length - 64) < bs.length
 · have hs : zaE bs kn = (0, (zaw kn (bs.length - 64) : Int), 6) := by unfold zaE; rw [if_pos hn]
   have hl : zcH bs kn = ({}, (zaw kn (bs.length - 64) : Int), 6) := by unfold zcH; rw [hs, if_pos (by simp)]
   rw [hl]
   exact ⟨fun _ => ⟨rfl, _, rfl, hn, zeV (by omega)⟩, fun h => absurd rfl h⟩
 · have hs : zaE bs (List.replicate bs.length true) = zaE bs kn := by
     unfold zaE
     rw [nextK_all (by omega), if_neg (by omega), if_neg hn]
   have hz : (zaE bs kn).2.1 = 0 ∧ (zaE bs kn).2.2 ≠ 6 := by
     unfold zaE
     rw [if_neg hn]
     split
     · exact ⟨rfl, by decide⟩
     · simp only
       split
       · exact ⟨rfl, by decide⟩
       · exact ⟨rfl, fun h => by cases h⟩
   obtain ⟨z1, z2⟩ := hz
   unfold zcH
   rw [hs]
   by_cases h0 : (zaE bs kn).2.2 ≠ 0
   · rw [if_pos h0, if_pos h0]
     exact ⟨fun h => absurd h z2, fun _ => ⟨rfl, z1⟩⟩
   rw [if_neg h0, if_neg h0]
   simp only
   obtain ⟨q1, q2⟩ := zeR hk 33 [] [] (zaE bs kn).1
   have q3 : ∀ (g : Nat) (rd : List Int) (l : List Sec) (a : Int), (zba bs kn g rd l a).2.2 ≠ 6 → (zba bs kn g rd l a).2.1 = 0 := by
     intro g
     induction g with
     | zero => intro _ _ _ _; rfl
     | succ g ih =>
       intro rd l a h
       unfold zba at h ⊢
       simp only at h ⊢
       split
       · rfl
       split
       · rfl
       split
       · rename_i _ _ h6
         rw [if_neg (by assumption), if_neg (by assumption), if_pos h6] at h
         exact absurd rfl h
       split
       · rfl
       rename_i h1 h2 h3 h4
       rw [if_neg h1, if_neg h2, if_neg h3, if_neg h4] at h
       split
       · rfl
       · rename_i v hv
         rw [hv] at h
         simp only at h
         split
         · rfl
         · rename_i h5
           rw [if_neg h5] at h
           exact ih _ _ _ h
   by_cases h6 : (zba bs kn 33 [] [] (zaE bs kn).1).2.2 = 6
   · refine ⟨fun _ => ?_, fun h => ?_⟩
     · rw [if_pos (by rw [h6]; decide)]
       exact ⟨rfl, q1 h6⟩
     · rw [if_pos (by rw [h6]; decide)] at h
       exact absurd h6 h
   · rw [q2 h6]
     have := q3 _ _ _ _ h6
     by_cases h7 : (zba bs kn 33 [] [] (zaE bs kn).1).2.2 ≠ 0
     · rw [if_pos h7]
       exact ⟨fun h => absurd h h6, fun _ => ⟨rfl, this⟩⟩
     · rw [if_neg h7]
       exact ⟨fun h => absurd h (tab_six _), fun _ => ⟨rfl, rfl⟩⟩
end Go.Proofs.YtfafdeemfeaedaaGreat
namespace Go.Proofs.YtfafdeemfeaedaaGreat
open Go.RowKit
def Row (w : World) (sz : Nat) (a : Option Addr) (n cap : Nat) (xs : List Value) : Prop :=
 xs.length = n * sz ∧ n ≤ cap ∧ cap ≤ maxLen ∧ (a = none → cap = 0) ∧
   (0 < n → ∃ b off, a = some ⟨b, off, none⟩ ∧ b < w.heap.size ∧ ∀ j u, xs[j]? = some u → w.cell? ⟨b, off + j, none⟩ = some u)
theorem cell?_keep {w w' : World} (hb : Below w.heap.size w w') {a : Addr} {v : Value} (h : w.cell? a = some v) : w'.cell? a = some v :=
 (hb.cell (World.block_lt_of_cell? w a h)).trans h
theorem Row.mono {w w' : World} {sz : Nat} {a : Option Addr} {n cap : Nat} {xs : List Value} (h : Row w sz a n cap xs) (hb : Below w.heap.size w w') : Row w' sz a n cap xs := by
 obtain ⟨h1, h2, h3, h4, h5⟩ := h
 refine ⟨h1, h2, h3, h4, fun hn => ?_⟩
 obtain ⟨b, off, ha, hlt, hc⟩ := h5 hn
 exact ⟨b, off, ha, Nat.lt_of_lt_of_le hlt hb.size, fun j u hj => cell?_keep hb (hc j u hj)⟩
theorem Row.i64 {w : World} {sz : Nat} {a : Option Addr} {n cap : Nat} {xs : List Value} (h : Row w sz a n cap xs) : (n : Int) ≤ 9223372036854775807 := by
 have := h.2.1; have := h.2.2.1; unfold maxLen at this; omega
theorem Row.i64c {w : World} {sz : Nat} {a : Option Addr} {n cap : Nat} {xs : List Value} (h : Row w sz a n cap xs) : (cap : Int) ≤ 9223372036854775807 := by
 have := h.2.2.1; unfold maxLen at this; omega
theorem Row.at {α : Type} {enc : α → Value} (d : α) {w : World} {a : Option Addr} {n cap : Nat} {l : List α} (h : Row w 1 a n cap (l.map enc)) (k : Nat) (hk : k < n) :
   ∃ b off, a = some ⟨b, off, none⟩ ∧ b < w.heap.size ∧ ∀ k, k < n → w.cell? ⟨b, off + k, none⟩ = some (enc (l.getD k d)) := by
 obtain ⟨h1, h2, h3, h4, h5⟩ := h
 obtain ⟨b, off, rfl, hb, hc⟩ := h5 (by omega)
 refine ⟨b, off, rfl, hb, fun k hk => hc k _ ?_⟩
 simp at h1 ⊢
 have : k < l.length := by omega
 simp [this]
theorem Row.len1 {α : Type} {enc : α → Value} {w : World} {a : Option Addr} {n cap : Nat} {l : List α} (h : Row w 1 a n cap (l.map enc)) : l.length = n := by
 have := h.1; simpa using this
theorem Row.nil (w : World) (sz : Nat) : Row w sz none 0 0 [] := ⟨by simp, Nat.le_refl _, by simp [maxLen], fun _ => rfl, fun h => by omega⟩
theorem Row.of_owns {w : World} {base e sz : Nat} {v : Value} {n : Nat} {xs : List Value} (h : w.ownsRow base e sz v n xs) :
   ∃ a cap, v = .slice a n cap ∧ Row w sz a n cap xs ∧ ∀ x, a = some x → base ≤ x.block := by
 obtain ⟨h1, h2⟩ := h
 rcases h2 with ⟨rfl, rfl⟩ | ⟨g, cap, cur, rfl, hb, hg, hn, hm, hs, ht⟩
 · have : xs = [] := List.eq_nil_of_length_eq_zero (by simpa using h1)
   subst this
   exact ⟨none, 0, rfl, Row.nil w sz, fun x hx => by cases hx⟩
 · refine ⟨some ⟨g, 0, none⟩, cap, rfl, ⟨h1, hn, hm, fun h => (by cases h), fun _ => ⟨g, 0, rfl, (Array.getElem?_eq_some_iff.1 hg).1, fun j u hj => ?_⟩⟩, fun x hx => by cases hx; exact hb⟩
   rw [Nat.zero_add, cell_of_row w g j cur e (0, 0) hg]
   rw [← ht, List.getElem?_take] at hj
   split at hj
   · simpa using hj
   · cases hj
theorem Row.of_own {w : World} {base e sz : Nat} {a : Option Addr} {n m cap : Nat} {xs : List Value} (h : w.ownsRow base e sz (.slice a n cap) m xs) : n = m ∧ Row w sz a n cap xs := by
 obtain ⟨a', cap', hv, hr, _⟩ := Row.of_owns h
 simp only [Value.slice.injEq] at hv
 obtain ⟨rfl, rfl, rfl⟩ := hv
 exact ⟨rfl, hr⟩
theorem zaF {w w' : World} {base e sz : Nat} {v : Value} {n : Nat} {xs : List Value} (h : w.ownsRow base e sz v n xs) (hb : Below w.heap.size w w') : w'.ownsRow base e sz v n xs := by
 obtain ⟨h1, h2⟩ := h
 refine ⟨h1, ?_⟩
 rcases h2 with h2 | ⟨g, cap, cur, hv, hg, hh, r⟩
 · exact .inl h2
 · exact .inr ⟨g, cap, cur, hv, hg, by rw [hb.block g (Array.getElem?_eq_some_iff.1 hh).1]; exact hh, r⟩
theorem zaZ {w : World} {base base' e sz : Nat} {v : Value} {n : Nat} {xs : List Value} (h : w.ownsRow base e sz v n xs) (hb : base' ≤ base) : w.ownsRow base' e sz v n xs := by
 obtain ⟨h1, h2⟩ := h
 refine ⟨h1, ?_⟩
 rcases h2 with h2 | ⟨g, cap, cur, hv, hg, r⟩
 · exact .inl h2
 · exact .inr ⟨g, cap, cur, hv, by omega, r⟩
theorem zab {w w' : World} (hb : Below w.heap.size w w') {b : Nat} {o : Obj} (h : w.heap[b]? = some o) : w'.heap[b]? = some o := by
 rw [hb.block b (Array.getElem?_eq_some_iff.1 h).1]; exact h
structure zdw (P : Program) (t e : TypeId) (z : Value) (size bytes : Nat) : Prop where
 und : P.underlying t = some (.slice e)
 info : (P.info? e).map (fun i => (i.zero, i.size, i.bytes)) = some (some z, size, bytes)
 cells : z.cells.size = size
 pos : 0 < size
theorem zaJ {k : IntKind} {a b : Int} (h : a = b) : Ending.returned (.int k a) = .returned (.int k b) := by rw [h]
theorem za0 {a b : Bool} (h : a = b) : Ending.returned (.bool a) = .returned (.bool b) := by rw [h]
theorem make_full {P : Program} {w : World} {ops : Array Oper} {rest : List Oper} {o : Oper} {a : Act} {Q : Exit → Act → World → Prop} {t e : TypeId} {z : Value} {size bytes : Nat} (T : zdw P t e z size bytes)
   (hg : o.guard = none) (l c : Operand) (hop : o.op = Op.makeSlice t l c)
   (kl kc : IntKind) (L C : Int) (n : Nat) (hl : a.eval l = .int kl L) (hc : a.eval c = .int kc C) (hL : L = (n : Int)) (hC : C = (n : Int)) (b2 : bytes * n ≤ 281474976710656) (b3 : n ≤ maxLen)
   (hK : ∀ w', w'.ownsRow w.heap.size e size (.slice (some ⟨w.heap.size, 0, none⟩) n n) n (madeCells z.cells (n * size)).toList → Below w.heap.size w w' → wpList P ops Q rest (a.put o.dst (.slice (some ⟨w.heap.size, 0, none⟩) n n)) w') :
   wpList P ops Q (o :: rest) a w := by
 obtain ⟨i, hi, hz, hs, hb⟩ := info_parts T.info
 subst hb
 exact wpList_make_full w hg l c t hop w.heap.size e i z size T.und hi hz hs kl kc L C n hl hc hL hC b2 b3 (Nat.le_refl _)
   fun w' h1 h2 => hK w' h1 ((Below.refl _ _).grown h2 (Nat.le_refl _) (fun k hk => by cases hk))
def fl (n : Nat) (enc : Nat → Value) : List Value := (List.range n).map enc
theorem zby (n : Nat) (enc : Nat → Value) : (fl n enc).length = n := by simp [fl]
theorem zeH {n : Nat} (enc : Nat → Value) {i : Nat} (h : i < n) : (fl n enc)[i]? = some (enc i) := by simp [fl, h]
theorem zfw {n : Nat} {f g : Nat → Value} (h : ∀ i, i < n → f i = g i) : fl n f = fl n g := by
 apply List.map_congr_left
 intro i hi
 exact h i (by simpa using hi)
theorem fl_replicate (n : Nat) (v : Value) : List.replicate n v = fl n (fun _ => v) := by
 apply List.ext_getElem?
 intro j
 by_cases hj : j < n <;> simp [fl, hj]
theorem zac {w : World} {b : Nat} (o : Obj) (h : b = w.heap.size) : (w.alloc o).heap[b]? = some o := by subst h; exact heap_alloc_new w o
theorem zak {w : World} {b : Nat} (o : Obj) {o' : Obj} (h : w.heap[b]? = some o') : (w.alloc o).heap[b]? = some o' := by
 rw [Below.heap_alloc w o b (Array.getElem?_eq_some_iff.1 h).1]; exact h
theorem zam (w : World) (o : Obj) : (w.alloc o).heap.size = w.heap.size + 1 := by
 show (w.heap.push o).size = _
 simp
theorem zah (w : World) (o : Obj) : Below w.heap.size w (w.alloc o) := (Below.refl _ _).alloc (Nat.le_refl _) o
theorem za6 (w : World) (o o2 : Obj) : Below w.heap.size w ((w.alloc o).alloc o2) := (zah w o).alloc (by rw [zam]; omega) o2
theorem belowA3 (w : World) (o o2 o3 : Obj) : Below w.heap.size w (((w.alloc o).alloc o2).alloc o3) := (za6 w o o2).alloc (by rw [zam, zam]; omega) o3
theorem za9 {P : Program} {w : World} {ops : Array Oper} {rest : List Oper} {o : Oper} {a : Act} {Q : Exit → Act → World → Prop} {t e : TypeId} {z : Value} {size bytes : Nat} (T : zdw P t e z size bytes)
   (hgd : o.guard = none) (s x : Operand) (ho : o.op = .call { callee := .builtin .append, args := #[s, x], argTypes := #[t, t] })
   (base : Nat) (v : Value) (n : Nat) (xs : List Value) (hs : a.eval s = v) (hown : w.ownsRow base e size v n xs)
   (ao : Option Addr) (m c : Nat) (news : List Value) (hx : a.eval x = .slice ao m c) (hr : Row w size ao m c news) (h1 : ∀ u ∈ news, u.oneCell' = true)
   (h63 : n + m ≤ maxLen) (hbytes : (n + m) * bytes ≤ 140737488355328) (hbase : base ≤ w.heap.size)
   (h : ∀ v' w', w'.ownsRow base e size v' (n + m) (xs ++ news) → w.grownBy w' v.ownBlock → (v' = .slice none 0 0 ↔ v = .slice none 0 0 ∧ m = 0) → wpList P ops Q rest (a.put o.dst v') w') : wpList P ops Q (o :: rest) a w := by
 obtain ⟨i, hi, hz, hs', hb⟩ := info_parts T.info
 subst hb
 obtain ⟨r1, r2, r3, r4, r5⟩ := hr
 cases ao with
 | some ad =>
   refine wpList_append_own w hgd s x t ho base e i z size i.bytes T.und hi hz hs' rfl T.cells T.pos v n xs hs hown ad m c news hx r1 (fun j u hj => ?_) h1 h63 hbytes hbase h
   by_cases hm : 0 < m
   · obtain ⟨b, off, hab, _, hc⟩ := r5 hm
     obtain rfl := Option.some.inj hab
     rw [Addr.add_lit]; exact hc j u hj
   · obtain rfl : m = 0 := by omega
     have : news = [] := List.eq_nil_of_length_eq_zero (by simpa using r1)
     subst this; simp at hj
 | none =>
   obtain rfl := r4 rfl
   obtain rfl : m = 0 := by omega
   have : news = [] := List.eq_nil_of_length_eq_zero (by simpa using r1)
   subst this
   refine wpList_plain hgd fun K hK => ?_
   have hrun := run_append_owned_none (P := P) w base t o.type e i size T.und hi v n xs hown
   unfold Oper.wp
   simp [execOp, ho, resolve, invoke, builtin, hs, hx, hrun, Result.andThen]
   exact hK _ _ (h v w (by simpa using hown) ⟨rfl, rfl, rfl, Nat.le_refl _, fun _ _ _ => rfl⟩ (by simp))
def NN (a : Option Addr) (v : Value) : Prop := a ≠ none → v ≠ .slice none 0 0
theorem below_grown {B : Nat} {w0 w w' : World} {row : Option Nat} (h : Below B w0 w) (hg : w.grownBy w' row) (hB : B ≤ w.heap.size) (hr : ∀ k, row = some k → B ≤ k) : Below B w0 w' := h.grown hg hB hr
theorem zdP (w : World) (x : Value) (e : TypeId) : Row (w.alloc (.cells #[x] e)) 1 (some ⟨w.heap.size, 0, none⟩) 1 1 [x] :=
 ⟨rfl, Nat.le_refl _, by simp [maxLen], fun h => (by cases h), fun _ => ⟨w.heap.size, 0, rfl, by rw [zam]; omega, fun j u hj => by
   rw [cell_of_row _ _ _ _ _ _ (zac _ rfl)]
   rcases j with _ | j
   · simpa using hj
   · simp at hj⟩⟩
theorem zfB {x : Value} (h : x.oneCell' = true) : ∀ u ∈ [x], u.oneCell' = true := by
 intro u hu; simp at hu; subst hu; exact h
theorem below_cell {B : Nat} {w w' : World} (h : Below B w w') {b o : Nat} {v : Value} (hb : b < B) (hc : w.cell? ⟨b, o, none⟩ = some v) : w'.cell? ⟨b, o, none⟩ = some v := (h.cell (p := ⟨b, o, none⟩) hb).trans hc
theorem Row.below {B : Nat} {w w' : World} {sz : Nat} {a : Option Addr} {n cap : Nat} {xs : List Value} (h : Row w sz a n cap xs) (hb : Below B w w') (ha : ∀ x, a = some x → x.block < B) : Row w' sz a n cap xs := by
 obtain ⟨h1, h2, h3, h4, h5⟩ := h
 refine ⟨h1, h2, h3, h4, fun hn => ?_⟩
 obtain ⟨b, off, ha', hlt, hc⟩ := h5 hn
 exact ⟨b, off, ha', Nat.lt_of_lt_of_le hlt hb.size, fun j u hj => below_cell hb (ha _ ha') (hc j u hj)⟩
theorem Row.lt {w : World} {sz : Nat} {a : Option Addr} {n cap : Nat} {xs : List Value} (h : Row w sz a n cap xs) (hn : 0 < n) : ∀ x, a = some x → x.block < w.heap.size := by
 obtain ⟨b, off, ha, hlt, _⟩ := h.2.2.2.2 hn
 intro x hx
 rw [ha] at hx; cases hx; exact hlt
theorem zew {w w' : World} {row : Option Nat} {B : Nat} (hg : w.grownBy w' row) (hB : B ≤ w.heap.size) (hr : ∀ k, row = some k → B ≤ k) : Below B w w' :=
 (Below.refl B w).grown hg hB hr
def NewAt (w : World) (v v' : Value) : Prop := ∀ b, v'.ownBlock = some b → v.ownBlock = some b ∨ w.heap.size ≤ b
theorem ze8 {P : Program} (w : World) (base : Nat) (t ty e : TypeId) (i : TypeInfo) (z : Value) (size bytes : Nat) (ht : P.underlying t = some (.slice e)) (hi : P.info? e = some i) (hz : i.zero = some z)
   (hsize : i.size = size) (hby : i.bytes = bytes) (hzs : z.cells.size = size) (hsz : 0 < size)
   (v : Value) (n : Nat) (xs : List Value) (hown : w.ownsRow base e size v n xs)
   (a : Addr) (m c : Nat) (news : List Value) (hl : news.length = m * size) (hnews : ∀ j u, news[j]? = some u → w.cell? (a.add j) = some u) (h1 : ∀ u ∈ news, u.oneCell' = true)
   (h63 : n + m ≤ maxLen) (hbytes : (n + m) * bytes ≤ 140737488355328) (hbase : base ≤ w.heap.size) :
   ∃ v' w', (Builtin.append_ #[t, t] ty #[v, .slice (some a) m c]).run P w = .ok v' w' ∧ w'.ownsRow base e size v' (n + m) (xs ++ news) ∧ w.grownBy w' v.ownBlock ∧
     (v' = .slice none 0 0 ↔ v = .slice none 0 0 ∧ m = 0) ∧ NewAt w v v' := by
 obtain ⟨v', w', hr, h2, h3, h4⟩ := run_append_own (P := P) w base t ty e i z size bytes ht hi hz hsize hby hzs hsz v n xs hown a m c news hl hnews h1 h63 hbytes hbase
 refine ⟨v', w', hr, h2, h3, h4, ?_⟩
 have hsmall : n + m ≤ 9223372036854775807 := by simp only [maxLen] at h63; omega
 rcases hown.2 with ⟨rfl, hx⟩ | ⟨g, cap, cur, rfl, hbg, hg, hnc, hcm, hcs, htake⟩
 · obtain ⟨v2, w2, hr2, g2, _, _⟩ := run_append_own (P := P) w w.heap.size t ty e i z size bytes ht hi hz hsize hby hzs hsz _ n xs ⟨hown.1, .inl ⟨rfl, hx⟩⟩ a m c news hl hnews h1 h63 hbytes (Nat.le_refl _)
   rw [hr] at hr2
   simp only [Result.ok.injEq] at hr2
   obtain ⟨rfl, rfl⟩ := hr2
   exact fun b hb => .inr (g2.lt b hb).1
 · subst hsize hby
   by_cases hroom : n + m ≤ cap
   · have hfit : n * i.size + news.length ≤ cur.size := by rw [hl, hcs, ← Nat.add_mul]; exact Nat.mul_le_mul_right _ hroom
     have hr2 := run_append_room (P := P) w t ty e i ht hi g n cap cur hg a m c news hl hnews h1 hroom hfit
     rw [hr] at hr2
     simp only [Result.ok.injEq] at hr2
     obtain ⟨rfl, rfl⟩ := hr2
     exact fun b hb => .inl hb
   · have hr2 := run_append_grow (P := P) w t ty e i z ht hi hz ⟨g, 0, none⟩ n cap xs hown.1 (hown.cells (g := g) rfl) a m c news hl hnews (by omega) (by omega) (growslice_fits (by omega) hbytes)
     rw [hr] at hr2
     simp only [Result.ok.injEq] at hr2
     obtain ⟨rfl, rfl⟩ := hr2
     intro b hb
     simp [Value.ownBlock] at hb
     right; omega
theorem append_at {P : Program} {w : World} {ops : Array Oper} {rest : List Oper} {o : Oper} {a : Act} {Q : Exit → Act → World → Prop} {t e : TypeId} {z : Value} {size bytes : Nat} (T : zdw P t e z size bytes)
   (hgd : o.guard = none) (s x : Operand) (ho : o.op = .call { callee := .builtin .append, args := #[s, x], argTypes := #[t, t] })
   (base : Nat) (v : Value) (n : Nat) (xs : List Value) (hs : a.eval s = v) (hown : w.ownsRow base e size v n xs)
   (ao : Option Addr) (m c : Nat) (news : List Value) (hx : a.eval x = .slice ao m c) (hr : Row w size ao m c news) (h1 : ∀ u ∈ news, u.oneCell' = true)
   (h63 : n + m ≤ maxLen) (hbytes : (n + m) * bytes ≤ 140737488355328) (hbase : base ≤ w.heap.size)
   (h : ∀ v' w', w'.ownsRow base e size v' (n + m) (xs ++ news) → w.grownBy w' v.ownBlock → NewAt w v v' → wpList P ops Q rest (a.put o.dst v') w') : wpList P ops Q (o :: rest) a w := by
 obtain ⟨i, hi, hz, hs', hb⟩ := info_parts T.info
 subst hb
 obtain ⟨r1, r2, r3, r4, r5⟩ := hr
 cases ao with
 | some ad =>
   refine wpList_plain hgd fun K hK => ?_
   obtain ⟨v', w', hrun, g2, g3, _, g5⟩ := ze8 (P := P) w base t o.type e i z size i.bytes T.und hi hz hs' rfl T.cells T.pos v n xs hown ad m c news r1 (fun j u hj => by
     by_cases hm : 0 < m
     · obtain ⟨b, off, hab, _, hc⟩ := r5 hm
       obtain rfl := Option.some.inj hab
       rw [Addr.add_lit]; exact hc j u hj
     · obtain rfl : m = 0 := by omega
       have : news = [] := List.eq_nil_of_length_eq_zero (by simpa using r1)
       subst this; simp at hj) h1 h63 hbytes hbase
   unfold Oper.wp
   simp [execOp, ho, resolve, invoke, builtin, hs, hx, hrun, Result.andThen]
   exact hK _ _ (h v' w' g2 g3 g5)
 | none =>
   obtain rfl := r4 rfl
   obtain rfl : m = 0 := by omega
   have : news = [] := List.eq_nil_of_length_eq_zero (by simpa using r1)
   subst this
   refine wpList_plain hgd fun K hK => ?_
   have hrun := run_append_owned_none (P := P) w base t o.type e i size T.und hi v n xs hown
   unfold Oper.wp
   simp [execOp, ho, resolve, invoke, builtin, hs, hx, hrun, Result.andThen]
   exact hK _ _ (h v w (by simpa using hown) ⟨rfl, rfl, rfl, Nat.le_refl _, fun _ _ _ => rfl⟩ (fun b hb => .inl hb))
structure zad (S : Nat → Prop) (w w' : World) : Prop where
 os : w'.os = w.os
 tape : w'.tape = w.tape
 output : w'.output = w.output
 size : w.heap.size ≤ w'.heap.size
 block : ∀ b, b < w.heap.size → ¬ S b → w'.heap[b]? = w.heap[b]?
theorem zad.refl (S : Nat → Prop) (w : World) : zad S w w := ⟨rfl, rfl, rfl, Nat.le_refl _, fun _ _ _ => rfl⟩
theorem zad.trans {S S' : Nat → Prop} {a b c : World} (h : zad S a b) (k : zad S' b c) (hS : ∀ x, S' x → S x ∨ a.heap.size ≤ x) : zad S a c :=
 ⟨k.os.trans h.os, k.tape.trans h.tape, k.output.trans h.output, Nat.le_trans h.size k.size, fun x hx hn => (k.block x (Nat.lt_of_lt_of_le hx h.size) (fun e => (hS x e).elim hn (fun h => by omega))).trans (h.block x hx hn)⟩
theorem zad.of_grown {S : Nat → Prop} {w w' : World} {row : Option Nat} (h : w.grownBy w' row) (hr : ∀ k, row = some k → S k) : zad S w w' :=
 ⟨h.os, h.tape, h.output, h.size, fun b hb hn => h.block b hb (fun e => hn (hr b e.symm))⟩
theorem zad.of_below {S : Nat → Prop} {w w' : World} {B : Nat} (h : Below B w w') (hS : ∀ b, B ≤ b → S b) : zad S w w' :=
 ⟨h.os, h.tape, h.output, h.size, fun b _ hn => h.block b (Nat.lt_of_not_le fun e => hn (hS b e))⟩
theorem zad.below {S : Nat → Prop} {w w' : World} {B : Nat} (h : zad S w w') (hB : B ≤ w.heap.size) (hS : ∀ b, S b → B ≤ b) : Below B w w' :=
 ⟨h.os, h.tape, h.output, h.size, fun b hb => h.block b (by omega) (fun e => by have := hS b e; omega)⟩
theorem zad.cell {S : Nat → Prop} {w w' : World} (h : zad S w w') {b o : Nat} {v : Value} (hc : w.cell? ⟨b, o, none⟩ = some v) (hn : ¬ S b) : w'.cell? ⟨b, o, none⟩ = some v := by
 have hlt : b < w.heap.size := World.block_lt_of_cell? w _ hc
 rw [World.cell?_of_block (w := w) (a := ⟨b, o, none⟩) (h.block b hlt hn)]; exact hc
theorem zad.obj {S : Nat → Prop} {w w' : World} (h : zad S w w') {b : Nat} {o : Obj} (hc : w.heap[b]? = some o) (hn : ¬ S b) : w'.heap[b]? = some o := by
 rw [h.block b (Array.getElem?_eq_some_iff.1 hc).1 hn]; exact hc
theorem Row.keeps {S : Nat → Prop} {w w' : World} {sz : Nat} {a : Option Addr} {n cap : Nat} {xs : List Value} (h : Row w sz a n cap xs) (hk : zad S w w') (hne : ∀ x, a = some x → ¬ S x.block) : Row w' sz a n cap xs := by
 obtain ⟨h1, h2, h3, h4, h5⟩ := h
 refine ⟨h1, h2, h3, h4, fun hn => ?_⟩
 obtain ⟨b, off, ha, hlt, hc⟩ := h5 hn
 exact ⟨b, off, ha, Nat.lt_of_lt_of_le hlt hk.size, fun j u hj => hk.cell (hc j u hj) (hne _ ha)⟩
theorem owns_keeps {S : Nat → Prop} {w w' : World} {base e sz : Nat} {v : Value} {n : Nat} {xs : List Value} (h : w.ownsRow base e sz v n xs) (hk : zad S w w') (hne : ∀ b, v.ownBlock = some b → ¬ S b) : w'.ownsRow base e sz v n xs := by
 obtain ⟨h1, h2⟩ := h
 refine ⟨h1, ?_⟩
 rcases h2 with h2 | ⟨g, cap, cur, hv, hg, hh, r⟩
 · exact .inl h2
 · exact .inr ⟨g, cap, cur, hv, hg, hk.obj hh (hne g (by rw [hv]; rfl)), r⟩
theorem zad.weaken {S S' : Nat → Prop} {w w' : World} (h : zad S w w') (hS : ∀ b, S b → S' b) : zad S' w w' := ⟨h.os, h.tape, h.output, h.size, fun b hb hn => h.block b hb (fun e => hn (hS b e))⟩
theorem zad.drewN {S : Nat → Prop} {w w' : World} (h : zad S w w') (q : Nat) : zad S w (w'.drewN q) := ⟨h.os, h.tape, h.output, h.size, h.block⟩
theorem zad.alloc {S : Nat → Prop} {w w' : World} (h : zad S w w') (o : Obj) : zad S w (w'.alloc o) :=
 ⟨h.os, h.tape, h.output, by rw [zam]; have := h.size; omega, fun b hb hn => (Below.heap_alloc w' o b (Nat.lt_of_lt_of_le hb h.size)).trans (h.block b hb hn)⟩
theorem zad.setCell {S : Nat → Prop} {w w' : World} (h : zad S w w') {a : Addr} (ha : S a.block ∨ w.heap.size ≤ a.block) (v : Value) : zad S w (w'.setCell a v) :=
 ⟨h.os, h.tape, h.output, by simpa [World.setCell] using h.size, fun b hb hn => (heap_setCell_other w' a b v (fun e => by rcases ha with h1 | h1; exact hn (e ▸ h1); omega)).trans (h.block b hb hn)⟩
theorem zad.grown {S : Nat → Prop} {w w' w2 : World} {row : Option Nat} (h : zad S w w') (hg : w'.grownBy w2 row) (hr : ∀ k, row = some k → S k ∨ w.heap.size ≤ k) : zad S w w2 :=
 h.trans (zad.of_grown (S := fun k => row = some k) hg fun _ hk => hk) hr
def zc3 (r : Int) : Int := if r < 48 ∨ 57 < r then -1 else r - 48
theorem zbZ (r : Int) (w : World) (h0 : 0 ≤ r) (h1 : r ≤ 2147483647) :
   Calls Tryz.prog 207 #[.int .i32 r] w fun e w' => e = .returned (.int .i64 (zc3 r)) ∧ w = w' := by
 obtain ⟨V, hV⟩ : ∃ V, V = zc3 r := ⟨_, rfl⟩
 rw [← hV]
 unfold zc3 at hV
 by_cases h2 : r < 48
 · rw [if_pos (.inl h2)] at hV
   have HV := Lib.hid hV
   clear hV
   go_enter Tryz.func207, Tryz.ntmps207
   go_wp2
   go_ret
   exact ⟨zaJ HV.out.symm, rfl⟩
 · have h2d : decide (r < 48) = false := by simpa using h2
   by_cases h3 : 57 < r
   · rw [if_pos (.inr h3)] at hV
     have HV := Lib.hid hV
     clear hV
     go_enter Tryz.func207, Tryz.ntmps207
     go_wp2
     go_ret
     exact ⟨zaJ HV.out.symm, rfl⟩
   · rw [if_neg (by omega)] at hV
     have HV := Lib.hid hV
     have h3d : decide (57 < r) = false := by simpa using h3
     have h2' : 48 ≤ r := by omega
     have h3' : r ≤ 57 := by omega
     clear hV h2 h3
     go_enter Tryz.func207, Tryz.ntmps207
     go_wp2
     go_ret
     exact ⟨zaJ HV.out.symm, rfl⟩
abbrev bl (s : ByteArray) : List UInt8 := s.data.toList
theorem zaT (s : ByteArray) : (bl s).length = s.size := Array.length_toList
theorem bl_get (s : ByteArray) (k : Nat) (h : k < s.size) : (bl s)[k]'(by rw [zaT]; exact h) = s[k] := rfl
theorem zfl (s : ByteArray) (k : Nat) (h : k < s.size) : (bl s).take (k + 1) = (bl s).take k ++ [s[k]] := by
 rw [List.take_succ_eq_append_getElem (by rw [zaT]; exact h)]; rfl
theorem bl_drop (s : ByteArray) (k : Nat) (h : k < s.size) : (bl s).drop k = s[k] :: (bl s).drop (k + 1) := by
 rw [List.drop_eq_getElem_cons (by rw [zaT]; exact h)]; rfl
theorem bl_mem (s : ByteArray) (k : Nat) (h : k < s.size) : s[k] ∈ bl s := by rw [← bl_get s k h]; exact List.getElem_mem _
theorem toL (s : ByteArray) : s.toList = bl s := ByteArray.toList_eq s
theorem dec_yes (s : ByteArray) (k : Nat) (h : k < s.size) (hd : isDg s[k] = true) : Utf8.decode s k = (s[k].toNat, 1) := by
 rw [zcr] at hd; exact decode_ascii s k h (by omega)
theorem dec_no (s : ByteArray) (k : Nat) (h : k < s.size) (hd : isDg s[k] = false) : zc3 (Utf8.decode s k).1 = -1 := by
 rw [isDg_no] at hd
 unfold zc3
 by_cases h2 : s[k].toNat < 128
 · rw [decode_ascii s k h h2, if_pos]
   simp only; omega
 · have := (decode_high s k h (by omega)).1
   rw [if_pos]; omega
theorem zbU (w : World) (s : ByteArray) (k : Nat) : Below w.heap.size w (w.iter s k) := zah w _
def DigEnd (V : Int × Int) (w : World) (e : Ending) (w' : World) : Prop := e = .returned (.tuple #[.int .i64 V.1, .int .i64 V.2]) ∧ Below w.heap.size w w'
theorem zbY (s : ByteArray) (w : World) :
   Calls Tryz.prog 184 #[.string s] w (DigEnd (zav (bl s)) w) := by
 obtain ⟨V, hV⟩ : ∃ V, V = zav (bl s) := ⟨_, rfl⟩
 rw [← hV]
 have HV := Lib.hid hV
 clear hV
 by_cases he : s.toList = []
 · have HE := Lib.hid (show V = (0, 11) by rw [HV.out, ← toL, he]; exact digitsV_nil)
   go_enter Tryz.func184, Tryz.ntmps184
   go_wp2
   go_ret2
   exact ⟨by rw [HE.out]; rfl, Below.refl _ _⟩
 have he2 : s.toList.isEmpty = false := by simpa using he
 have hne : bl s ≠ [] := by rw [← toL]; exact he
 have HNE := Lib.hid hne
 clear he hne
 go_enter Tryz.func184, Tryz.ntmps184
 go_wp2
 go_loopw [4, 5] (fun n o wr => ∃ (k : Nat) (N : Int) (ov : Bool), k ≤ s.size ∧ n = .int .i64 N ∧ o = .bool ov ∧ wr = w.iter s k ∧ 0 ≤ N ∧ N ≤ 2147483647 ∧ Hid (((bl s).take k).all isDg = true) ∧ Hid (ov = decide (2147483647 < valD ((bl s).take k))) ∧ Hid (ov = false → N = (valD ((bl s).take k) : Nat)))
   (fun _ _ wr => s.size - wr.iterPos w.heap.size)
 case atStart => exact ⟨0, 0, false, Nat.zero_le _, rfl, rfl, rfl, by omega, by omega, Lib.hid rfl, Lib.hid rfl, Lib.hid fun _ => rfl⟩
 case round =>
   obtain ⟨k, N, ov, hk, rfl, rfl, rfl, hN0, hN1, HA, HO, HN⟩ := hrel
   by_cases hlt : k < s.size
   · have hnx := fun ty => run_next_any (P := Tryz.prog) w s k ty hlt
     have hle := decode_le s k
     by_cases hd : isDg s[k] = true
     · rw [dec_yes s k hlt hd] at hnx hle
       have hd1 := zcr.1 hd
       have HDV := Lib.hid (zfe hd)
       have HD9 := dgV_le hd
       have HTA := Lib.hid (show ((bl s).take (k + 1)).all isDg = true by rw [zfl s k hlt]; exact zcV _ _ HA.out hd)
       have HTV := Lib.hid (show valD ((bl s).take (k + 1)) = 10 * valD ((bl s).take k) + dgV s[k] by rw [zfl s k hlt]; exact zb0 _ _)
       have HDI := Lib.hid (show zc3 ((s[k].toNat : Nat) : Int) = (dgV s[k] : Nat) by unfold zc3; rw [if_neg (by omega), zfe hd])
       generalize dgV s[k] = d at *
       generalize s[k].toNat = c at *
       clear hd
       simp only at hnx hle
       cases ov
       · have hval := HN.out rfl
         have HVAL := Lib.hid hval
         clear hval
         by_cases hov : (2147483647 - (d : Int)) / 10 < N
         · have HOV2 := Lib.hid (show true = decide (2147483647 < valD ((bl s).take (k + 1))) by
             have h1 := HVAL.out
             rw [HTV.out, eq_comm, decide_eq_true_iff]; omega)
           go_wp2_with (go_at_call 207; refine (zbZ _ _ (by omega) (by omega)).mono ?_; rintro e w' ⟨rfl, rfl⟩; rw [HDI.out])
           go_roundw
           case rel => exact ⟨k + 1, N, true, by omega, rfl, rfl, rfl, hN0, hN1, HTA, HOV2, Lib.hid (fun h => by cases h)⟩
           case measure => simp; omega
         · have HOV2 := Lib.hid (show false = decide (2147483647 < valD ((bl s).take (k + 1))) by
             have h1 := HVAL.out
             rw [HTV.out, eq_comm, decide_eq_false_iff_not]; omega)
           have HVL2 := Lib.hid (show 10 * N + (d : Int) = ((valD ((bl s).take (k + 1)) : Nat) : Int) by rw [HTV.out, HVAL.out]; omega)
           have hovd : decide ((2147483647 - (d : Int)) / 10 < N) = false := by simpa using hov
           go_wp2_with (go_at_call 207; refine (zbZ _ _ (by omega) (by omega)).mono ?_; rintro e w' ⟨rfl, rfl⟩; rw [HDI.out])
           go_roundw
           case rel => exact ⟨k + 1, 10 * N + d, false, by omega, rfl, rfl, rfl, by omega, by omega, HTA, HOV2, Lib.hid (fun _ => HVL2.out)⟩
           case measure => simp; omega
       · have HOV2 := Lib.hid (show true = decide (2147483647 < valD ((bl s).take (k + 1))) by
           have h1 := HO.out
           rw [eq_comm, decide_eq_true_iff] at h1
           rw [HTV.out, eq_comm, decide_eq_true_iff]; omega)
         go_wp2_with (go_at_call 207; refine (zbZ _ _ (by omega) (by omega)).mono ?_; rintro e w' ⟨rfl, rfl⟩; rw [HDI.out])
         go_roundw
         case rel => exact ⟨k + 1, N, true, by omega, rfl, rfl, rfl, hN0, hN1, HTA, HOV2, Lib.hid (fun h => by cases h)⟩
         case measure => simp; omega
     · have hd2 : isDg s[k] = false := by simpa using hd
       have HDI := Lib.hid (dec_no s k hlt hd2)
       have h128 : 0 ≤ (Utf8.decode s k).1 := by omega
       have HF := Lib.hid (show V = (0, 11) by rw [HV.out]; exact digitsV_form (all_false (bl_mem s k hlt) hd2))
       clear hd hd2
       go_wp2_with (go_at_call 207; refine (zbZ _ _ (by omega) (by omega)).mono ?_; rintro e w' ⟨rfl, rfl⟩; rw [HDI.out])
       go_ret2
       exact ⟨by rw [HF.out]; rfl, zbU _ _ _⟩
   · obtain rfl : k = s.size := by omega
     have hnx := fun ty => run_next_end (P := Tryz.prog) w s s.size ty hlt
     have htk : (bl s).take s.size = bl s := by rw [← zaT]; exact List.take_length
     have HT := Lib.hid htk
     clear htk
     cases ov
     · have HR := Lib.hid (show V = (N, 0) by
         have h1 := HA.out; have h2 := HO.out; have h3 := HN.out rfl
         rw [HT.out] at h1 h2 h3
         rw [eq_comm, decide_eq_false_iff_not] at h2
         rw [HV.out, zdk HNE.out h1 (by omega), h3])
       go_wp2
       go_ret2
       exact ⟨by rw [HR.out]; rfl, zbU _ _ _⟩
     · have HR := Lib.hid (show V = (0, 5) by
         have h1 := HA.out; have h2 := HO.out
         rw [HT.out] at h1 h2
         rw [eq_comm, decide_eq_true_iff] at h2
         rw [HV.out, zdH HNE.out h1 h2])
       go_wp2
       go_ret2
       exact ⟨by rw [HR.out]; rfl, zbU _ _ _⟩
theorem zdq (s : ByteArray) (w : World) :
   Calls Tryz.prog 224 #[.string s] w fun e w' => e = .returned (.bool ((bl s).all isDg)) ∧ Below w.heap.size w w' := by
 obtain ⟨V, hV⟩ : ∃ V, V = (bl s).all isDg := ⟨_, rfl⟩
 rw [← hV]
 have HV := Lib.hid hV
 clear hV
 go_enter Tryz.func224, Tryz.ntmps224
 go_wp2
 go_loopw [] (fun wr => ∃ k : Nat, k ≤ s.size ∧ wr = w.iter s k ∧ Hid (((bl s).take k).all isDg = true)) (fun wr => s.size - wr.iterPos w.heap.size)
 case atStart => exact ⟨0, Nat.zero_le _, rfl, Lib.hid rfl⟩
 case round =>
   obtain ⟨k, hk, rfl, HA⟩ := hrel
   by_cases hlt : k < s.size
   · have hnx := fun ty => run_next_any (P := Tryz.prog) w s k ty hlt
     have hle := decode_le s k
     by_cases hd : isDg s[k] = true
     · rw [dec_yes s k hlt hd] at hnx hle
       have hd1 := zcr.1 hd
       have hd9 := dgV_le hd
       have HTA := Lib.hid (show ((bl s).take (k + 1)).all isDg = true by rw [zfl s k hlt]; exact zcV _ _ HA.out hd)
       have HDI := Lib.hid (show zc3 ((s[k].toNat : Nat) : Int) = (dgV s[k] : Nat) by unfold zc3; rw [if_neg (by omega), zfe hd])
       generalize dgV s[k] = d at *
       generalize s[k].toNat = c at *
       clear hd
       simp only at hnx hle
       go_wp2_with (go_at_call 207; refine (zbZ _ _ (by omega) (by omega)).mono ?_; rintro e w' ⟨rfl, rfl⟩; rw [HDI.out])
       go_roundw
       case rel => exact ⟨k + 1, by omega, rfl, HTA⟩
       case measure => simp; omega
     · have hd2 : isDg s[k] = false := by simpa using hd
       have HDI := Lib.hid (dec_no s k hlt hd2)
       have HF := Lib.hid (show V = false by rw [HV.out]; exact all_false (bl_mem s k hlt) hd2)
       clear hd hd2
       go_wp2_with (go_at_call 207; refine (zbZ _ _ (by omega) (by omega)).mono ?_; rintro e w' ⟨rfl, rfl⟩; rw [HDI.out])
       go_ret
       exact ⟨za0 (HF.out).symm, zbU _ _ _⟩
   · obtain rfl : k = s.size := by omega
     have hnx := fun ty => run_next_end (P := Tryz.prog) w s s.size ty hlt
     have htk : (bl s).take s.size = bl s := by rw [← zaT]; exact List.take_length
     have HR := Lib.hid (show V = true by rw [HV.out, ← htk]; exact HA.out)
     clear htk
     go_wp2
     go_ret
     exact ⟨za0 (HR.out).symm, zbU _ _ _⟩
def mkB (l : List UInt8) : ByteArray := ⟨l.toArray⟩
theorem zbt (l : List UInt8) : (mkB l).size = l.length := by unfold mkB; simp [ByteArray.size]
def pvC (v : PV) (sl : Value) : List Value := [.int .i64 v.kind, .int .i64 v.n, .string (mkB v.s), sl]
def pvA (v : PV) (sl : Value) : Value := .agg #[.int .i64 v.kind, .int .i64 v.n, .string (mkB v.s), sl]
mutual
def IsV (w : World) (F : Nat → Prop) : PV → Value → Prop
 | .mk _ _ _ l, sl => ∃ a cap cs, sl = .slice a l.length cap ∧ Row w 4 a l.length cap cs ∧ (0 < l.length → ∀ x, a = some x → F x.block) ∧ IsVs w F l cs
def IsVs (w : World) (F : Nat → Prop) : List PV → List Value → Prop
 | [], cs => cs = []
 | v :: l, cs => ∃ sl t, cs = pvC v sl ++ t ∧ IsV w F v sl ∧ IsVs w F l t
end
theorem IsV.mk {w : World} {F : Nat → Prop} {v : PV} {a : Option Addr} {cap : Nat} {cs : List Value} (hr : Row w 4 a v.l.length cap cs) (hF : 0 < v.l.length → ∀ x, a = some x → F x.block) (h : IsVs w F v.l cs) : IsV w F v (.slice a v.l.length cap) := by
 cases v; exact ⟨a, cap, cs, rfl, hr, hF, h⟩
theorem IsV.out {w : World} {F : Nat → Prop} {v : PV} {sl : Value} (h : IsV w F v sl) : ∃ a cap cs, sl = .slice a v.l.length cap ∧ Row w 4 a v.l.length cap cs ∧ (0 < v.l.length → ∀ x, a = some x → F x.block) ∧ IsVs w F v.l cs := by
 cases v; exact h
theorem IsV.leaf (w : World) (F : Nat → Prop) (v : PV) (h : v.l = []) : IsV w F v (.slice none 0 0) := by
 have := IsV.mk (w := w) (F := F) (v := v) (a := none) (cap := 0) (cs := []) (by rw [h]; exact Row.nil w 4) (by rw [h]; intro h; cases h) (by rw [h]; rfl)
 rw [h] at this; exact this
theorem IsVs.length {w : World} {F : Nat → Prop} : ∀ {l : List PV} {cs : List Value}, IsVs w F l cs → cs.length = l.length * 4
 | [], _, h => by cases h; rfl
 | v :: l, _, ⟨sl, t, h, _, ht⟩ => by subst h; have := IsVs.length ht; simp [pvC]; omega
def zax (F : Nat → Prop) (w w' : World) : Prop := w.heap.size ≤ w'.heap.size ∧ ∀ b, b < w.heap.size → F b → w'.heap[b]? = w.heap[b]?
theorem Row.stays {F : Nat → Prop} {w w' : World} {sz : Nat} {a : Option Addr} {n cap : Nat} {xs : List Value} (h : Row w sz a n cap xs) (hk : zax F w w') (hne : 0 < n → ∀ x, a = some x → F x.block) : Row w' sz a n cap xs := by
 obtain ⟨h1, h2, h3, h4, h5⟩ := h
 refine ⟨h1, h2, h3, h4, fun hn => ?_⟩
 obtain ⟨b, off, ha, hlt, hc⟩ := h5 hn
 refine ⟨b, off, ha, Nat.lt_of_lt_of_le hlt hk.1, fun j u hj => ?_⟩
 rw [World.cell?_of_block (w := w) (a := ⟨b, off + j, none⟩) (hk.2 b hlt (hne hn _ ha))]
 exact hc j u hj
mutual
theorem IsV.keep {w w' : World} {F G : Nat → Prop} (hk : zax F w w') (hG : ∀ b, F b → G b) : ∀ (v : PV) {sl : Value}, IsV w F v sl → IsV w' G v sl
 | .mk _ _ _ l, _, ⟨a, cap, cs, h, hr, hF, hs⟩ => ⟨a, cap, cs, h, hr.stays hk hF, fun h0 x hx => hG _ (hF h0 x hx), IsVs.keep hk hG l hs⟩
theorem IsVs.keep {w w' : World} {F G : Nat → Prop} (hk : zax F w w') (hG : ∀ b, F b → G b) : ∀ (l : List PV) {cs : List Value}, IsVs w F l cs → IsVs w' G l cs
 | [], _, h => h
 | v :: l, _, ⟨sl, t, h, hv, ht⟩ => ⟨sl, t, h, IsV.keep hk hG v hv, IsVs.keep hk hG l ht⟩
end
theorem zax.refl (F : Nat → Prop) (w : World) : zax F w w := ⟨Nat.le_refl _, fun _ _ _ => rfl⟩
theorem zax.of_below {F : Nat → Prop} {w w' : World} (h : Below w.heap.size w w') : zax F w w' := ⟨h.size, fun b hb _ => h.block b hb⟩
theorem zax.trans {F : Nat → Prop} {a b c : World} (h : zax F a b) (k : zax F b c) : zax F a c := ⟨Nat.le_trans h.1 k.1, fun x hx hF => (k.2 x (Nat.lt_of_lt_of_le hx h.1) hF).trans (h.2 x hx hF)⟩
theorem IsV.below {w w' : World} {F : Nat → Prop} {v : PV} {sl : Value} (h : IsV w F v sl) (hb : Below w.heap.size w w') : IsV w' F v sl := IsV.keep (zax.of_below hb) (fun _ h => h) v h
theorem IsVs.below {w w' : World} {F : Nat → Prop} {l : List PV} {cs : List Value} (h : IsVs w F l cs) (hb : Below w.heap.size w w') : IsVs w' F l cs := IsVs.keep (zax.of_below hb) (fun _ h => h) l h
theorem IsV.weaken {w : World} {F G : Nat → Prop} {v : PV} {sl : Value} (h : IsV w F v sl) (hG : ∀ b, F b → G b) : IsV w G v sl := IsV.keep (zax.refl F w) hG v h
theorem IsVs.weaken {w : World} {F G : Nat → Prop} {l : List PV} {cs : List Value} (h : IsVs w F l cs) (hG : ∀ b, F b → G b) : IsVs w G l cs := IsVs.keep (zax.refl F w) hG l h
theorem IsVs.append {w : World} {F : Nat → Prop} : ∀ {l m : List PV} {cs ds : List Value}, IsVs w F l cs → IsVs w F m ds → IsVs w F (l ++ m) (cs ++ ds)
 | [], _, _, _, h, hm => by cases h; exact hm
 | v :: l, _, _, _, ⟨sl, t, h, hv, ht⟩, hm => ⟨sl, t ++ _, by subst h; simp, hv, IsVs.append ht hm⟩
theorem IsVs.one {w : World} {F : Nat → Prop} {v : PV} {sl : Value} (h : IsV w F v sl) : IsVs w F [v] (pvC v sl) := ⟨sl, [], by simp, h, rfl⟩
theorem IsVs.snoc {w : World} {F : Nat → Prop} {l : List PV} {cs : List Value} {v : PV} {sl : Value} (h : IsVs w F l cs) (hv : IsV w F v sl) : IsVs w F (l ++ [v]) (cs ++ pvC v sl) := h.append (IsVs.one hv)
theorem IsVs.get {w : World} {F : Nat → Prop} : ∀ {l : List PV} {cs : List Value}, IsVs w F l cs → ∀ (k : Nat) (v : PV), l[k]? = some v → ∃ sl, IsV w F v sl ∧ cs[k * 4]? = some (.int .i64 v.kind) ∧ cs[k * 4 + 1]? = some (.int .i64 v.n) ∧ cs[k * 4 + 2]? = some (.string (mkB v.s)) ∧ cs[k * 4 + 3]? = some sl
 | [], _, _, _, _, hk => by simp at hk
 | x :: l, _, ⟨sl, t, h, hv, ht⟩, 0, v, hk => by
   simp at hk; subst hk h
   exact ⟨sl, hv, rfl, rfl, rfl, rfl⟩
 | x :: l, _, ⟨sl, t, h, hv, ht⟩, k + 1, v, hk => by
   subst h
   obtain ⟨s2, h1, h2, h3, h4, h5⟩ := ht.get k v (by simpa using hk)
   refine ⟨s2, h1, ?_, ?_, ?_, ?_⟩
   · rw [show (k + 1) * 4 = 4 + k * 4 by omega, List.getElem?_append_right (by simp [pvC])]; simpa [pvC] using h2
   · rw [show (k + 1) * 4 + 1 = 4 + (k * 4 + 1) by omega, List.getElem?_append_right (by simp [pvC])]; simpa [pvC] using h3
   · rw [show (k + 1) * 4 + 2 = 4 + (k * 4 + 2) by omega, List.getElem?_append_right (by simp [pvC])]; simpa [pvC] using h4
   · rw [show (k + 1) * 4 + 3 = 4 + (k * 4 + 3) by omega, List.getElem?_append_right (by simp [pvC])]; simpa [pvC] using h5
theorem IsV.at {w : World} {F : Nat → Prop} {v : PV} {a : Option Addr} {n cap : Nat} (h : IsV w F v (.slice a n cap)) (hn : 0 < n) :
   n = v.l.length ∧ n ≤ cap ∧ cap ≤ maxLen ∧ ∃ b off, a = some ⟨b, off, none⟩ ∧ b < w.heap.size ∧ F b ∧ ∀ k x, v.l[k]? = some x → ∃ sl, IsV w F x sl ∧ w.cell? ⟨b, off + k * 4, none⟩ = some (.int .i64 x.kind) ∧
     w.cell? ⟨b, off + k * 4 + 1, none⟩ = some (.int .i64 x.n) ∧ w.cell? ⟨b, off + k * 4 + 2, none⟩ = some (.string (mkB x.s)) ∧ w.cell? ⟨b, off + k * 4 + 3, none⟩ = some sl := by
 obtain ⟨a', cap', cs, e, hr, hF, hs⟩ := h.out
 simp only [Value.slice.injEq] at e
 obtain ⟨rfl, rfl, rfl⟩ := e
 obtain ⟨b, off, rfl, hb, hc⟩ := hr.2.2.2.2 hn
 refine ⟨rfl, hr.2.1, hr.2.2.1, b, off, rfl, hb, hF hn _ rfl, fun k x hx => ?_⟩
 obtain ⟨sl, h1, h2, h3, h4, h5⟩ := hs.get k x hx
 exact ⟨sl, h1, hc _ _ h2, (Nat.add_assoc off (k * 4) 1).symm ▸ hc _ _ h3, (Nat.add_assoc off (k * 4) 2).symm ▸ hc _ _ h4, (Nat.add_assoc off (k * 4) 3).symm ▸ hc _ _ h5⟩
theorem IsV.len {w : World} {F : Nat → Prop} {v : PV} {sl : Value} (h : IsV w F v sl) : ∃ a cap, sl = .slice a v.l.length cap ∧ v.l.length ≤ cap ∧ cap ≤ maxLen ∧ (a = none → cap = 0) := by
 obtain ⟨a, cap, cs, e, hr, _⟩ := h.out
 exact ⟨a, cap, e, hr.2.1, hr.2.2.1, hr.2.2.2.1⟩
theorem zcY : ∀ (l : List UInt8) (c : UInt8), Lib.indexByte l c = -1 → c ∉ l
 | [], _, _ => by simp
 | b :: l, c, h => by
   have hg := Lib.indexByte_ge l c
   unfold Lib.indexByte at h
   split at h
   · omega
   · rename_i hb
     split at h
     · rename_i h1
       have := zcY l c (by simpa using h1)
       simp at hb
       simp [this, Ne.symm hb]
     · rename_i h1
       simp at h1; omega
theorem zcS : ∀ (l : List UInt8) (c : UInt8) (i : Nat), Lib.indexByte l c = (i : Int) → ∃ w t, l = w ++ c :: t ∧ w.length = i ∧ c ∉ w
 | [], _, _, h => by unfold Lib.indexByte at h; omega
 | b :: l, c, i, h => by
   have hg := Lib.indexByte_ge l c
   unfold Lib.indexByte at h
   split at h
   · rename_i hb
     have : b = c := by simpa using hb
     exact ⟨[], l, by simp [this], by simp; omega, by simp⟩
   · rename_i hb
     split at h
     · omega
     · rename_i h1
       simp at h1
       obtain ⟨w, t, e1, e2, e3⟩ := zcS l c (i - 1) (by omega)
       simp at hb
       exact ⟨b :: w, t, by simp [e1], by simp; omega, by simp [e3, Ne.symm hb]⟩
set_option maxRecDepth 100000 in
theorem sidx_any (s : ByteArray) (c : Int) (w : World) :
   Calls Tryz.prog 236 #[.string s, .int .u8 c] w fun e w' => e = .returned (.int .i64 (Lib.indexByte (bl s) c.toNat.toUInt8)) ∧ w = w' := by
 go_enter Tryz.func236, Tryz.ntmps236
 go_wp2
 rw [run_callFunc_extern Tryz.func240 (by kernel_rfl) (by kernel_rfl) (by kernel_rfl) (e := Extern.BytealgIndexByte.indexByte) (by kernel_rfl), Lib.run_indexByteString]
 simp only [Result.andThen]
 rw [Oper.upon_value]
 go_wp2
 go_ret
 exact ⟨rfl, rfl⟩
theorem sidx2_any (s : ByteArray) (c : Int) (w : World) :
   Calls Tryz.prog 222 #[.string s, .int .u8 c] w fun e w' => e = .returned (.int .i64 (Lib.indexByte (bl s) c.toNat.toUInt8)) ∧ w = w' := by
 go_enter Tryz.func222, Tryz.ntmps222
 go_wp2_with (go_at_call 236; refine (sidx_any _ _ _).mono ?_; rintro e w' ⟨rfl, rfl⟩)
 go_ret
 exact ⟨rfl, rfl⟩
theorem zeo (s : ByteArray) (w : World) :
   Calls Tryz.prog 241 #[.string s, .string ⟨#[46]⟩] w fun e w' => e = .returned (.int .i64 (Lib.indexByte (bl s) 46)) ∧ w = w' := by
 obtain ⟨V, hV⟩ : ∃ V, V = Lib.indexByte (bl s) 46 := ⟨_, rfl⟩
 rw [← hV]
 have HV := Lib.hid hV
 clear hV
 by_cases h : s.toList = [46]
 · have HE := Lib.hid (show V = 0 by rw [HV.out, ← toL, h]; rfl)
   go_enter Tryz.func241, Tryz.ntmps241
   go_wp2
   go_ret
   exact ⟨zaJ HE.out.symm, rfl⟩
 · have h2 : ([46] == s.toList) = false := by rw [beq_eq_false_iff_ne]; exact fun e => h e.symm
   clear h
   go_enter Tryz.func241, Tryz.ntmps241
   go_wp2_with (go_at_call 236; refine (sidx_any _ _ _).mono ?_; rintro e w' ⟨rfl, rfl⟩)
   go_ret
   exact ⟨zaJ HV.out.symm, rfl⟩
def CutEnd (s : ByteArray) (w : World) (e : Ending) (w' : World) : Prop :=
 ∃ W R : ByteArray, e = .returned (.tuple #[.string W, .string R, .bool (zdt (bl s))]) ∧ bl W = za7 (bl s) ∧ bl R = zbT (bl s) ∧ W.size ≤ s.size ∧ R.size ≤ s.size ∧ ∃ q, w' = w.drewN q
theorem bl_ext (s : ByteArray) (i j : Nat) : bl (s.extract i j) = ((bl s).drop i).take (j - i) := by
 unfold bl; rw [ByteArray.data_extract, Array.toList_extract]
theorem bl_to (s : ByteArray) (i : Nat) : bl (s.extract 0 i) = (bl s).take i := by rw [bl_ext]; rfl
theorem bl_from (s : ByteArray) (i : Nat) : bl (s.extract i s.size) = (bl s).drop i := by
 rw [bl_ext, List.take_of_length_le]
 rw [List.length_drop, zaT]; exact Nat.le_refl _
theorem ret_tup3 {a b a' b' : ByteArray} {p p' : Bool} (h1 : a = a') (h2 : b = b') (h3 : p = p') : Ending.returned (.tuple #[.string a, .string b, .bool p]) = Ending.returned (.tuple #[.string a', .string b', .bool p']) := by rw [h1, h2, h3]
theorem cut1_any (s : ByteArray) (w : World) (hs : s.size ≤ 4611686018427387904) :
   Calls Tryz.prog 237 #[.string s, .string ⟨#[46]⟩] w (CutEnd s w) := by
 have hge := Lib.indexByte_ge (bl s) 46
 by_cases hneg : Lib.indexByte (bl s) 46 = -1
 · have hn := zcY _ _ hneg
   obtain ⟨t1, t2, t3⟩ := tw_none (bl s) (fun x hx e => hn (e ▸ hx))
   have HT := Lib.hid (And.intro t1 (And.intro t2 t3))
   clear t1 t2 t3 hn hge
   go_enter Tryz.func237, Tryz.ntmps237
   go_wp2_with (go_at_call 241; refine (zeo _ _).mono ?_; rintro e w' ⟨rfl, rfl⟩; rw [hneg])
   go_ret3
   exact ⟨s, ⟨#[]⟩, ret_tup3 rfl rfl HT.out.2.2.symm, HT.out.1.symm, HT.out.2.1.symm, Nat.le_refl _, Nat.zero_le _, 0, rfl⟩
 · obtain ⟨i, hi⟩ := Int.eq_ofNat_of_zero_le (show 0 ≤ Lib.indexByte (bl s) 46 by omega)
   obtain ⟨a, t, e1, e2, e3⟩ := zcS _ _ _ hi
   have hlen := congrArg List.length e1
   rw [zaT] at hlen
   simp only [List.length_append, List.length_cons, e2] at hlen
   have hlt : i < s.size := by omega
   obtain ⟨t1, t2, t3⟩ := tw_app a t (fun x hx e => e3 (e ▸ hx))
   have h1 : bl (s.extract 0 i) = za7 (bl s) := by rw [bl_to, e1, t1, ← e2]; simp
   have h2 : bl (s.extract (i + 1) s.size) = zbT (bl s) := by
     rw [bl_from, e1, t2, ← e2, List.drop_append, Nat.add_sub_cancel_left, List.drop_of_length_le (by omega)]; rfl
   have HT := Lib.hid (And.intro h1 (And.intro h2 (show zdt (bl s) = true by rw [e1]; exact t3)))
   have HI := Lib.hid hi
   clear t1 t2 t3 h1 h2 e1 e2 e3 hlen hge hi hneg
   go_enter Tryz.func237, Tryz.ntmps237
   go_wp2_with (go_at_call 241; refine (zeo _ _).mono ?_; rintro e w' ⟨rfl, rfl⟩; rw [HI.out])
   go_quiet (fail)
   go_wp2
   go_ret3
   exact ⟨_, _, ret_tup3 rfl rfl HT.out.2.2.symm, HT.out.1, HT.out.2.1, by rw [ByteArray.size_extract]; omega, by rw [ByteArray.size_extract]; omega, _, rfl⟩
theorem cut_any (s : ByteArray) (w : World) (hs : s.size ≤ 4611686018427387904) :
   Calls Tryz.prog 223 #[.string s, .string ⟨#[46]⟩] w (CutEnd s w) := by
 have HC := Lib.hid (fun W => cut1_any s W hs)
 go_enter Tryz.func223, Tryz.ntmps223
 go_wp2_with (go_at_call 237; refine (HC.out _).mono ?_; rintro e w' ⟨W, R, rfl, h1, h2, h3, h4, q, rfl⟩; have H1 := Lib.hid h1; have H2 := Lib.hid h2; clear h1 h2)
 go_ret3
 exact ⟨W, R, rfl, H1.out, H2.out, h3, h4, q, rfl⟩
def hd1 (s : ByteArray) (c : UInt8) : Bool := decide ((bl s).head? = some c)
theorem pre1_any (s : ByteArray) (c : UInt8) (w : World) (hs : s.size ≤ 4611686018427387904) :
   Calls Tryz.prog 172 #[.string s, .string ⟨#[c]⟩] w fun e w' => e = .returned (.bool (hd1 s c)) ∧ w = w' := by
 by_cases h0 : 0 < s.size
 · have hx : (s.extract 0 1).toList = [s[0]] := by
     rw [toL, bl_to]
     have := zfl s 0 h0
     simpa using this
   have HV := Lib.hid (show hd1 s c = (s[0] == c) by
     unfold hd1
     have h1 := bl_drop s 0 h0
     rw [List.drop_zero] at h1
     rw [h1, List.head?_cons, Bool.eq_iff_iff]
     simp)
   have h1 : (1 : Int) ≤ s.size := by omega
   have h1d : decide (1 ≤ s.size) = true := decide_eq_true (by omega)
   go_enter Tryz.func172, Tryz.ntmps172
   go_wp2
   go_ret
   exact ⟨za0 HV.out.symm, rfl⟩
 · have h1 : ¬ (1 : Int) ≤ s.size := by omega
   have h1d : decide ((1 : Int) ≤ s.size) = false := by simpa using h1
   have h1e : decide (1 ≤ s.size) = false := decide_eq_false (by omega)
   have HV := Lib.hid (show hd1 s c = false by
     unfold hd1
     have h1 : bl s = [] := List.eq_nil_of_length_eq_zero (by rw [zaT]; omega)
     rw [h1]; rfl)
   go_enter Tryz.func172, Tryz.ntmps172
   go_wp2
   go_ret
   exact ⟨za0 HV.out.symm, rfl⟩
theorem pre_any (s : ByteArray) (c : UInt8) (w : World) (hs : s.size ≤ 4611686018427387904) :
   Calls Tryz.prog 143 #[.string s, .string ⟨#[c]⟩] w fun e w' => e = .returned (.bool (hd1 s c)) ∧ w = w' := by
 have HC := Lib.hid (fun W => pre1_any s c W hs)
 go_enter Tryz.func143, Tryz.ntmps143
 go_wp2_with (go_at_call 172; refine (HC.out _).mono ?_; rintro e w' ⟨rfl, rfl⟩)
 go_ret
 exact ⟨rfl, rfl⟩
end Go.Proofs.YtfafdeemfeaedaaGreat
