/-
  Our texts ParT to LtP, in one.
-/
import Derived.Test.YtkhcjoomijkfbaaGreatDoorPkT1
import Derived.Deep.QuietTactic
import Derived.BigQuiet
import Derived.Test.YtkhcjoomijkfbaaGreatDoorProg
import Derived.Laws.RangeAny
import Derived.IntWalk
import Derived.Deep.Cut
set_option maxRecDepth 8000
set_option maxHeartbeats 8000000
namespace Go.Proofs.YtkhcjoomijkfbaaGreatDoor
def refD (bs:List UInt8) (last:Bool) (at_ n:Int):Bool×Int×Int :=
 let g:=zae bs at_ last
 if g.2.2.2=6 then (false,0,6) else
 if g.2.2.2≠0∨zaH g.1=false then (false,0,0) else
 let r:=zae bs g.2.2.1 last
 if r.2.2.2=6 then (false,0,6) else
 if r.2.2.2≠0∨r.1.kind≠6∨r.1.s≠[82] then (false,0,0) else
 if n<1∨4096<n∨g.1.vn≠0 then (false,0,26) else (true,r.2.2.1,0)
def zcy (bs:List UInt8) (last:Bool) (t:Tk) (tto:Int):PV×Int×Int :=
 if t.kind=6 then (match zeM t.s with|none=>(PV.none,0,11)|some v=>(v,tto,0))
 else if zaH t=true then
   (if (refD bs last tto t.vn).2.2≠0 then (PV.none,0,(refD bs last tto t.vn).2.2) else if (refD bs last tto t.vn).1=true then (.mk 8 t.vn [] [],(refD bs last tto t.vn).2.1,0) else (tkV t,tto,0))
 else (tkV t,tto,0)
def arrD (bs:List UInt8) (last:Bool) (f:Tk→Int→PV×Int×Int):Nat→List PV→Int→PV×Int×Int
 | 0,_,_=>(PV.none,0,10)
 | r+1,l,at_ =>
   if (zae bs at_ last).2.2.2≠0 then (PV.none,0,(zae bs at_ last).2.2.2)
   else if (zae bs at_ last).1.kind=3 then (.mk 6 0 [] l,(zae bs at_ last).2.2.1,0)
   else if (f (zae bs at_ last).1 (zae bs at_ last).2.2.1).2.2≠0 then (PV.none,0,(f (zae bs at_ last).1 (zae bs at_ last).2.2.1).2.2)
   else arrD bs last f r (l++[(f (zae bs at_ last).1 (zae bs at_ last).2.2.1).1]) (f (zae bs at_ last).1 (zae bs at_ last).2.2.1).2.1
def zdS (bs:List UInt8) (last:Bool) (f:Tk→Int→PV×Int×Int) (d:Nat):Nat→List (PV×PV)→Bool→Int→PV×Int×Int
 | 0,_,_,_=>(PV.none,0,10)
 | r+1,ps,tw,at_ =>
   let t:=zae bs at_ last
   if t.2.2.2≠0 then (PV.none,0,t.2.2.2)
   else if t.1.kind=5 then (if tw=true then (PV.none,0,16) else (.mk 7 0 [] (zb5 ps),t.2.2.1,0))
   else if t.1.kind=0 then (PV.none,0,10)
   else if t.1.kind≠1∨t.1.vk≠5 then (PV.none,0,11)
   else if d=0 then (PV.none,0,15)
   else
     let u:=zae bs t.2.2.1 last
     if u.2.2.2≠0 then (PV.none,0,u.2.2.2)
     else if (f u.1 u.2.2.1).2.2≠0 then (PV.none,0,(f u.1 u.2.2.1).2.2)
     else zdS bs last f d r (putK (.mk 5 0 t.1.vs [],(f u.1 u.2.2.1).1) ps) (tw||hasK t.1.vs ps) (f u.1 u.2.2.1).2.1
def vlD (bs:List UInt8) (last:Bool):Nat→Tk→Int→PV×Int×Int
 | 0,t,tto =>
   if t.kind=0 then (PV.none,0,10) else if t.kind=2∨t.kind=4 then (PV.none,0,15) else if t.kind=3∨t.kind=5 then (PV.none,0,11)
   else if (zcy bs last t tto).2.2≠0 then (PV.none,0,(zcy bs last t tto).2.2) else (PV.none,0,15)
 | d+1,t,tto =>
   if t.kind=0 then (PV.none,0,10)
   else if t.kind=2 then arrD bs last (vlD bs last d) (bs.length+1) [] tto
   else if t.kind=4 then zdS bs last (vlD bs last d) d (bs.length+1) [] false tto
   else if t.kind=3∨t.kind=5 then (PV.none,0,11)
   else zcy bs last t tto
def zbF (bs:List UInt8) (last:Bool) (at_:Int):PV×Int×Int :=
 if (zae bs at_ last).2.2.2≠0 then (PV.none,0,(zae bs at_ last).2.2.2) else vlD bs last 64 (zae bs at_ last).1 (zae bs at_ last).2.2.1
theorem refD_is {bs:List UInt8} {last:Bool} {k:Int} (v:PV) (n:Int) (hn:v.n=n) :
   (refV bs last k v).2.2=(refD bs last k n).2.2∧((refD bs last k n).2.2=0→(refV bs last k v).1=(if (refD bs last k n).1=true then .mk 8 n [] [] else v)∧(refV bs last k v).2.1=if (refD bs last k n).1=true then (refD bs last k n).2.1 else k):=by
 unfold refV refD
 simp only
 by_cases g6:(zae bs k last).2.2.2=6
 · rw [if_pos (.inl (by rw [g6]; decide)), if_pos g6, g6]
   exact ⟨rfl,fun h=>by cases h⟩
 · rw [if_neg g6]
   by_cases hc:(zae bs k last).2.2.2≠0∨zaH (zae bs k last).1=false
   · rw [if_pos hc,if_pos hc]
     have:moreV (zae bs k last).2.2.2=0:=if_neg g6
     exact ⟨this,fun _=>⟨rfl,rfl⟩⟩
   · rw [if_neg hc,if_neg hc]
     by_cases r6:(zae bs (zae bs k last).2.2.1 last).2.2.2=6
     · rw [if_pos (.inl (by rw [r6]; decide)), if_pos r6, r6]
       exact ⟨rfl,fun h=>by cases h⟩
     · rw [if_neg r6]
       by_cases hd:(zae bs (zae bs k last).2.2.1 last).2.2.2≠0∨(zae bs (zae bs k last).2.2.1 last).1.kind≠6∨(zae bs (zae bs k last).2.2.1 last).1.s≠[82]
       · rw [if_pos hd,if_pos hd]
         have:moreV (zae bs (zae bs k last).2.2.1 last).2.2.2=0:=if_neg r6
         exact ⟨this,fun _=>⟨rfl,rfl⟩⟩
       · rw [if_neg hd,if_neg hd,hn]
         by_cases he:n<1∨4096<n∨(zae bs k last).1.vn≠0
         · rw [if_pos he,if_pos he]
           exact ⟨rfl,fun h=>by cases h⟩
         · rw [if_neg he,if_neg he]
           exact ⟨rfl,fun _=>⟨rfl,rfl⟩⟩
theorem singD_is {bs:List UInt8} {last:Bool} {st:List Lv} {tto:Int} {t:Tk} (hw:topW st=false) :
   ((zcy bs last t tto).2.2=0→zao bs last st tto t=((zcy bs last t tto).1,(zcy bs last t tto).2.1,0))∧((zcy bs last t tto).2.2≠0→(zao bs last st tto t).2.2=(zcy bs last t tto).2.2):=by
 have hs : zao bs last st tto t = (if t.kind = 6 then (match zeM t.s with | none => (PV.none, tto, 11) | some v => (v, tto, 0)) else if zaH t = true then refV bs last tto (tkV t) else (tkV t, tto, 0)) := by
   unfold zao
   rw [if_neg (by rintro ⟨h,-⟩;rw [hw] at h;cases h)]
   all_goals (try rfl)
 rw [hs]
 unfold zcy
 by_cases k6:t.kind=6
 · simp only [if_pos k6]
   cases hq:zeM t.s with
   | none=>exact ⟨fun h=>(by cases h),fun _=>rfl⟩
   | some v=>exact ⟨fun _=>rfl,fun h=>absurd rfl h⟩
 · simp only [if_neg k6]
   by_cases hq:zaH t=true
   · simp only [if_pos hq]
     obtain ⟨r1,r2⟩:=refD_is (bs:=bs) (last:=last) (k:=tto) (tkV t) t.vn rfl
     by_cases he:(refD bs last tto t.vn).2.2≠0
     · simp only [if_pos he]
       exact ⟨fun h=>absurd h he,fun _=>r1⟩
     · simp only [if_neg he]
       have he0:(refD bs last tto t.vn).2.2=0:=by simpa using he
       obtain ⟨p1,p2⟩:=r2 he0
       rw [he0] at r1
       by_cases hb:(refD bs last tto t.vn).1=true
       · simp only [if_pos hb] at p1 p2 ⊢
         exact ⟨fun _=>Prod.ext p1 (Prod.ext p2 r1),fun h=>absurd rfl h⟩
       · simp only [if_neg hb] at p1 p2 ⊢
         exact ⟨fun _=>Prod.ext p1 (Prod.ext p2 r1),fun h=>absurd rfl h⟩
   · simp only [if_neg hq]
     exact ⟨fun _=>by trivial,fun h=>absurd rfl h⟩
def contO (bs:List UInt8) (last:Bool) (g:Nat) (st:List Lv) (at_:Int) (x:PV):Option (PV×Int×Int) :=
 match st with
 | []=>some (x,at_,0)
 | top::rest=>valO bs last g ({ top with l:=top.l++[x] }::rest) at_
def aftO (bs:List UInt8) (last:Bool) (g:Nat) (st:List Lv) (tto:Int) (t:Tk):Option (PV×Int×Int) :=
 if (zau bs last st tto t).2.2.2≠0 then some (PV.none,0,(zau bs last st tto t).2.2.2) else
 match (zau bs last st tto t).1 with
 | none=>valO bs last g (zau bs last st tto t).2.1 (zau bs last st tto t).2.2.1
 | some x=>contO bs last g (zau bs last st tto t).2.1 (zau bs last st tto t).2.2.1 x
theorem ze8 (bs:List UInt8) (last:Bool) (g:Nat) (st:List Lv) (k:Int):valO bs last (g+1) st k=if (zae bs k last).2.2.2≠0 then some (PV.none,0,(zae bs k last).2.2.2) else aftO bs last g st (zae bs k last).2.2.1 (zae bs k last).1:=by
 unfold aftO contO
 rw [valO]
 all_goals (try rfl)
def AnsD (bs:List UInt8) (last:Bool) (st:List Lv) (R:PV×Int×Int) (P:PV×Int×Int→Prop):Prop :=
 (R.2.2=0→∀V,(∃g,contO bs last g st R.2.1 R.1=some V)→P V)∧(R.2.2≠0→P (PV.none,0,R.2.2))
theorem zbX {bs:List UInt8} {last:Bool} {st:List Lv} {tto:Int} {t:Tk} {e:Int} (h:(zau bs last st tto t).2.2.2=e) (he:e≠0):∃g,aftO bs last g st tto t=some (PV.none,0,e):=by
 refine ⟨0,?_⟩
 unfold aftO
 rw [if_pos (by rw [h];exact he),h]
theorem zfF {bs:List UInt8} {last:Bool} {st st2:List Lv} {tto at2:Int} {t:Tk} (h:zau bs last st tto t=(none,st2,at2,0)) (g:Nat):aftO bs last g st tto t=valO bs last g st2 at2:=by
 unfold aftO
 rw [h]
 simp only
 rw [if_neg (by decide)]
theorem zfx {bs:List UInt8} {last:Bool} {st st2:List Lv} {tto at2:Int} {t:Tk} {x:PV} (h:zau bs last st tto t=(some x,st2,at2,0)) (g:Nat):aftO bs last g st tto t=contO bs last g st2 at2 x:=by
 unfold aftO
 rw [h]
 simp only
 rw [if_neg (by decide)]
theorem sing_ans {bs:List UInt8} {last:Bool} {st:List Lv} {tto:Int} {t:Tk} (hw:topW st=false) (hk:t.kind=1∨t.kind=6) :
   (st.length<64→AnsD bs last st (zcy bs last t tto) fun V=>∃g,aftO bs last g st tto t=some V) ∧
   (64≤st.length→∃g,aftO bs last g st tto t=some (PV.none,0,if (zcy bs last t tto).2.2≠0 then (zcy bs last t tto).2.2 else 15)):=by
 obtain ⟨s1,s2⟩:=singD_is (bs:=bs) (last:=last) (tto:=tto) (t:=t) hw
 have hst:zau bs last st tto t=(if (zao bs last st tto t).2.2≠0 then (none,st,(zao bs last st tto t).2.1,(zao bs last st tto t).2.2) else if 64≤st.length then (none,st,(zao bs last st tto t).2.1,15) else (some (zao bs last st tto t).1,st,(zao bs last st tto t).2.1,0)):=by
   unfold zau
   rw [if_neg (by omega),if_neg (by omega),if_neg (by omega)]
 by_cases he:(zcy bs last t tto).2.2=0
 · have h1:=s1 he
   rw [h1] at hst
   simp only at hst
   rw [if_neg (by decide)] at hst
   refine ⟨fun hl=>⟨fun _ V hV=>?_,fun h=>absurd he h⟩,fun hl=>?_⟩
   · rw [if_neg (by omega)] at hst
     obtain ⟨g,hg⟩:=hV
     exact ⟨g,by rw [zfx hst];exact hg⟩
   · rw [if_pos hl] at hst
     rw [if_neg (by simp [he])]
     exact zbX (by rw [hst]) (by decide)
 · have h1:=s2 he
   rw [if_pos (by rw [h1];exact he)] at hst
   refine ⟨fun hl=>⟨fun h=>absurd h he,fun _=>?_⟩,fun hl=>?_⟩
   · exact zbX (by rw [hst];exact h1) he
   · rw [if_pos he]
     exact zbX (by rw [hst];exact h1) he
def ValAt (bs:List UInt8) (last:Bool) (d:Nat):Prop:=∀(st:List Lv) (t:Tk) (tto:Int),st.length+d=64→topW st=false→(t.kind=3→∀v rest,st=v::rest→v.dict=true)→tkOk t→0≤tto→tto≤bs.length →
 AnsD bs last st (vlD bs last d t tto) (fun V=>∃g,aftO bs last g st tto t=some V)∧((vlD bs last d t tto).2.2=0→t.kind≠0∧tto≤(vlD bs last d t tto).2.1∧(vlD bs last d t tto).2.1≤bs.length)
theorem arr_ans {bs:List UInt8} {last:Bool} {d:Nat} (hf:ValAt bs last d) (st:List Lv) (hd:st.length+1+d=64):∀(r:Nat) (l:List PV) (k:Int),0≤k→k≤bs.length→((bs.length:Int)-k).toNat<r →
   AnsD bs last st (arrD bs last (vlD bs last d) r l k) (fun V=>∃g,valO bs last g ({ dict:=false,l:=l }::st) k=some V)∧((arrD bs last (vlD bs last d) r l k).2.2=0→k≤(arrD bs last (vlD bs last d) r l k).2.1∧(arrD bs last (vlD bs last d) r l k).2.1≤bs.length)
 | 0,_,_,_,_,h=>by omega
 | r + 1, l, k, h, h2, hr => by
   obtain ⟨g1,g2⟩:=zaR last h h2
   have hok:=zd5 last h h2
   have hfar:=zcR (last:=last) h h2
   have hval:=ze8 bs last
   simp only [arrD]
   by_cases he:(zae bs k last).2.2.2≠0
   · rw [if_pos he]
     exact ⟨⟨fun h=>absurd h he,fun _=>⟨1,by rw [hval,if_pos he]⟩⟩,fun h=>absurd h he⟩
   · rw [if_neg he]
     have he0:(zae bs k last).2.2.2=0:=by simpa using he
     have hfar2:=hfar he0
     have hgo:∀V,(∃g,aftO bs last g ({ dict:=false,l:=l }::st) (zae bs k last).2.2.1 (zae bs k last).1=some V)→∃g,valO bs last g ({ dict:=false,l:=l }::st) k=some V:=fun V ⟨g,hg⟩=>⟨g+1,by rw [hval,if_neg he];exact hg⟩
     generalize (zae bs k last).2.2.1=tto at *
     generalize (zae bs k last).1=t at *
     by_cases k3:t.kind=3
     · rw [if_pos k3]
       have hst:zau bs last ({ dict:=false,l:=l }::st) tto t=(some (.mk 6 0 [] l),st,tto,0):=by
         unfold zau
         rw [if_neg (by omega),if_neg (by omega),if_pos (.inl k3)]
         have hk:(t.kind==5)=false:=by rw [beq_eq_false_iff_ne];omega
         rw [hk]
         simp [zbr]
       exact ⟨⟨fun _ V ⟨g,hg⟩=>hgo V ⟨g,by rw [zfx hst];exact hg⟩,fun h=>absurd rfl h⟩,fun _=>⟨g1,g2⟩⟩
     · rw [if_neg k3]
       obtain ⟨f1,f2⟩:=hf ({ dict:=false,l:=l }::st) t tto (by simpa using hd) rfl (fun h=>absurd h k3) hok (by omega) g2
       by_cases hv:(vlD bs last d t tto).2.2≠0
       · rw [if_pos hv]
         exact ⟨⟨fun h=>absurd h hv,fun _=>hgo _ (f1.2 hv)⟩,fun h=>absurd h hv⟩
       · rw [if_neg hv]
         have hv0:(vlD bs last d t tto).2.2=0:=by simpa using hv
         obtain ⟨q1,q2,q3⟩:=f2 hv0
         have hlt:=hfar2 q1
         obtain ⟨r1,r2⟩:=arr_ans hf st hd r (l++[(vlD bs last d t tto).1]) (vlD bs last d t tto).2.1 (by omega) q3 (by omega)
         exact ⟨⟨fun h V hV=>hgo V (f1.1 hv0 V (r1.1 h V hV)),fun h=>hgo _ (f1.1 hv0 _ (r1.2 h))⟩,fun h=>⟨by have:=(r2 h).1;omega,(r2 h).2⟩⟩
theorem name_tk {t:Tk} (ht:tkOk t) (h1:t.kind=1) (h5:t.vk=5):tkV t=.mk 5 0 t.vs []:=by
 obtain ⟨o1,-,-⟩:=ht.2.2 h1
 have hn:t.vn=0:=by
   unfold tkV at o1
   rw [h5] at o1
   simp only [ownC] at o1
   rw [if_neg (by decide),if_neg (by decide),if_neg (by decide),if_neg (by decide),if_pos (by trivial)] at o1
   split at o1
   · cases o1
   · split at o1
     · rename_i h;exact h.1
     · cases o1
 unfold tkV
 rw [h5,hn]
theorem step_name {bs:List UInt8} {last:Bool} {st:List Lv} {tto:Int} {t:Tk} (ht:tkOk t) (h1:t.kind=1) (h5:t.vk=5):zau bs last st tto t=if 64≤st.length then (none,st,tto,15) else (some (.mk 5 0 t.vs []),st,tto,0):=by
 have hs:zao bs last st tto t=(tkV t,tto,0):=by
   unfold zao
   rw [if_neg (by rintro ⟨-,h|h⟩;exact h h1;exact h h5),if_neg (by omega),if_neg (by unfold zaH;rw [h5];simp)]
 unfold zau
 rw [if_neg (by omega),if_neg (by omega),if_neg (by omega),hs,name_tk ht h1 h5]
 simp only
 rw [if_neg (by decide)]
theorem dict_ans {bs:List UInt8} {last:Bool} {d:Nat} (hf:ValAt bs last d) (st:List Lv) (hd:st.length+1+d=64):∀(r:Nat) (l:List PV) (k:Int),l.length % 2=0→0≤k→k≤bs.length→((bs.length:Int)-k).toNat<r →
   AnsD bs last st (zdS bs last (vlD bs last d) d r (docS (twoV l) [] false).1 (docS (twoV l) [] false).2 k) (fun V=>∃g,valO bs last g ({ dict:=true,l:=l }::st) k=some V)∧((zdS bs last (vlD bs last d) d r (docS (twoV l) [] false).1 (docS (twoV l) [] false).2 k).2.2=0→k≤(zdS bs last (vlD bs last d) d r (docS (twoV l) [] false).1 (docS (twoV l) [] false).2 k).2.1∧(zdS bs last (vlD bs last d) d r (docS (twoV l) [] false).1 (docS (twoV l) [] false).2 k).2.1≤bs.length)
 | 0,_,_,_,_,_,h=>by omega
 | r + 1, l, k, hl, h, h2, hr => by
   obtain ⟨g1,g2⟩:=zaR last h h2
   have hok:=zd5 last h h2
   have hfar:=zcR (last:=last) h h2
   have hval:=ze8 bs last
   have hpd:=pairs_doc l
   have htw:=docS_snoc (twoV l)
   have hts:=two_snoc l
   simp only [zdS]
   generalize hps:docS (twoV l) [] false=D at *
   obtain ⟨ps,tw⟩:=D
   simp only at hpd ⊢
   by_cases he:(zae bs k last).2.2.2≠0
   · rw [if_pos he]
     exact ⟨⟨fun h=>absurd h he,fun _=>⟨1,by rw [hval,if_pos he]⟩⟩,fun h=>absurd h he⟩
   · rw [if_neg he]
     have he0:(zae bs k last).2.2.2=0:=by simpa using he
     have hfar2:=hfar he0
     have hgo:∀V,(∃g,aftO bs last g ({ dict:=true,l:=l }::st) (zae bs k last).2.2.1 (zae bs k last).1=some V)→∃g,valO bs last g ({ dict:=true,l:=l }::st) k=some V:=fun V ⟨g,hg⟩=>⟨g+1,by rw [hval,if_neg he];exact hg⟩
     generalize (zae bs k last).2.2.1=tto at *
     generalize (zae bs k last).1=t at *
     have hw:topW ({ dict:=true,l:=l }::st)=true:=by simp [topW,zdd,hl]
     by_cases k5:t.kind=5
     · rw [if_pos k5]
       have hst:zau bs last ({ dict:=true,l:=l }::st) tto t=if tw=true then (none,{ dict:=true,l:=l }::st,tto,16) else (some (.mk 7 0 [] (zb5 ps)),st,tto,0):=by
         have hww:zdd { dict:=true,l:=l }=true:=hw
         unfold zau
         rw [if_neg (by omega),if_neg (by omega),if_pos (.inr k5)]
         have hk:(t.kind==5)=true:=by rw [beq_iff_eq];exact k5
         rw [hk]
         cases tw with
         | true=>simp [zbr,hww,hpd]
         | false=>simp [zbr,hww,hpd]
       cases tw with
       | true =>
         rw [if_pos rfl] at hst ⊢
         exact ⟨⟨fun h=>(by cases h),fun _=>hgo _ (zbX (by rw [hst]) (by decide))⟩,fun h=>by cases h⟩
       | false =>
         rw [if_neg (by decide)] at hst ⊢
         exact ⟨⟨fun _ V ⟨g,hg⟩=>hgo V ⟨g,by rw [zfx hst];exact hg⟩,fun h=>absurd rfl h⟩,fun _=>⟨g1,g2⟩⟩
     · rw [if_neg k5]
       by_cases k0:t.kind=0
       · rw [if_pos k0]
         exact ⟨⟨fun h=>(by cases h),fun _=>hgo _ (zbX (by unfold zau;rw [if_pos k0]) (by decide))⟩,fun h=>by cases h⟩
       · rw [if_neg k0]
         by_cases kv:t.kind≠1∨t.vk≠5
         · rw [if_pos kv]
           have hst:(zau bs last ({ dict:=true,l:=l }::st) tto t).2.2.2=11:=by
             unfold zau
             rw [if_neg k0]
             by_cases k24:t.kind=2∨t.kind=4
             · rw [if_pos k24]
               unfold zch
               rw [if_pos hw]
             · rw [if_neg k24]
               by_cases k3:t.kind=3
               · rw [if_pos (.inl k3)]
                 have hk:(t.kind==5)=false:=by rw [beq_eq_false_iff_ne];omega
                 rw [hk]
                 simp [zbr]
               · rw [if_neg (by omega)]
                 have hs:zao bs last ({ dict:=true,l:=l }::st) tto t=(PV.none,tto,11):=by
                   unfold zao
                   rw [if_pos ⟨hw,kv⟩]
                 rw [hs]
                 rfl
           exact ⟨⟨fun h=>(by cases h),fun _=>hgo _ (zbX hst (by decide))⟩,fun h=>by cases h⟩
         · rw [if_neg kv]
           have k1:t.kind=1:=Decidable.byContradiction fun h=>kv (.inl h)
           have v5:t.vk=5:=Decidable.byContradiction fun h=>kv (.inr h)
           have hst:=step_name (bs:=bs) (last:=last) (st:={ dict:=true,l:=l }::st) (tto:=tto) hok k1 v5
           by_cases d0:d=0
           · rw [if_pos d0]
             rw [if_pos (by simp only [List.length_cons];omega)] at hst
             exact ⟨⟨fun h=>(by cases h),fun _=>hgo _ (zbX (by rw [hst]) (by decide))⟩,fun h=>by cases h⟩
           · rw [if_neg d0]
             rw [if_neg (by simp only [List.length_cons];omega)] at hst
             have hlt:=hfar2 k0
             have hgo2:∀V,(∃g,valO bs last g ({ dict:=true,l:=l++[.mk 5 0 t.vs []] }::st) tto=some V)→∃g,valO bs last g ({ dict:=true,l:=l }::st) k=some V:=fun V ⟨g,hg⟩=>hgo V ⟨g,by rw [zfx hst];exact hg⟩
             obtain ⟨u1,u2⟩:=zaR (bs:=bs) (k:=tto) last (by omega) g2
             have uok:=zd5 (bs:=bs) (k:=tto) last (by omega) g2
             by_cases ue:(zae bs tto last).2.2.2≠0
             · rw [if_pos ue]
               exact ⟨⟨fun h=>absurd h ue,fun _=>hgo2 _ ⟨1,by rw [hval,if_pos ue]⟩⟩,fun h=>absurd h ue⟩
             · rw [if_neg ue]
               have hgo3:∀V,(∃g,aftO bs last g ({ dict:=true,l:=l++[.mk 5 0 t.vs []] }::st) (zae bs tto last).2.2.1 (zae bs tto last).1=some V)→∃g,valO bs last g ({ dict:=true,l:=l }::st) k=some V:=fun V ⟨g,hg⟩=>hgo2 V ⟨g+1,by rw [hval,if_neg ue];exact hg⟩
               generalize (zae bs tto last).2.2.1=uto at *
               generalize (zae bs tto last).1=u at *
               obtain ⟨f1,f2⟩:=hf ({ dict:=true,l:=l++[.mk 5 0 t.vs []] }::st) u uto (by simpa using hd) (by simp [topW,zdd];omega) (fun _ v rest hv=>by cases hv;rfl) uok (by omega) u2
               by_cases hv:(vlD bs last d u uto).2.2≠0
               · rw [if_pos hv]
                 exact ⟨⟨fun h=>absurd h hv,fun _=>hgo3 _ (f1.2 hv)⟩,fun h=>absurd h hv⟩
               · rw [if_neg hv]
                 have hv0:(vlD bs last d u uto).2.2=0:=by simpa using hv
                 obtain ⟨q1,q2,q3⟩:=f2 hv0
                 obtain ⟨r1,r2⟩:=dict_ans hf st hd r (l++[.mk 5 0 t.vs [],(vlD bs last d u uto).1]) (vlD bs last d u uto).2.1 (by simp;omega) (by omega) q3 (by omega)
                 rw [hts _ _ hl,htw,hps] at r1 r2
                 have happ:∀x:PV,(l++[.mk 5 0 t.vs []])++[x]=l++[.mk 5 0 t.vs [],x]:=fun x=>by simp
                 have hc:∀V,(∃g,valO bs last g ({ dict:=true,l:=l++[.mk 5 0 t.vs [],(vlD bs last d u uto).1] }::st) (vlD bs last d u uto).2.1=some V)→∃g,contO bs last g ({ dict:=true,l:=l++[.mk 5 0 t.vs []] }::st) (vlD bs last d u uto).2.1 (vlD bs last d u uto).1=some V:=fun V ⟨g,hg⟩=>⟨g,by show valO bs last g ({ dict:=true,l:=(l++[.mk 5 0 t.vs []])++[_] }::st) _=_;rw [happ];exact hg⟩
                 exact ⟨⟨fun h V hV=>hgo3 V (f1.1 hv0 V (hc V (r1.1 h V hV))),fun h=>hgo3 _ (f1.1 hv0 _ (hc _ (r1.2 h)))⟩,fun h=>⟨Int.le_trans (show k≤(vlD bs last d u uto).2.1 by omega) (r2 h).1,(r2 h).2⟩⟩
theorem refD_at {bs:List UInt8} {last:Bool} {k n:Int} (h:0≤k) (h2:k≤bs.length) (hb:(refD bs last k n).1=true):k≤(refD bs last k n).2.1∧(refD bs last k n).2.1≤bs.length:=by
 obtain ⟨g1,g2⟩:=zaR last h h2
 obtain ⟨r1,r2⟩:=zaR (bs:=bs) (k:=(zae bs k last).2.2.1) last (by omega) g2
 unfold refD at hb ⊢
 simp only at hb ⊢
 split at hb
 · cases hb
 · rename_i q1
   rw [if_neg q1]
   split at hb
   · cases hb
   · rename_i q2
     rw [if_neg q2]
     split at hb
     · cases hb
     · rename_i q3
       rw [if_neg q3]
       split at hb
       · cases hb
       · rename_i q4
         rw [if_neg q4]
         split at hb
         · cases hb
         · rename_i q5
           rw [if_neg q5]
           exact ⟨Int.le_trans g1 r1,r2⟩
theorem singD_at {bs:List UInt8} {last:Bool} {k:Int} {t:Tk} (h:0≤k) (h2:k≤bs.length) (he:(zcy bs last t k).2.2=0):k≤(zcy bs last t k).2.1∧(zcy bs last t k).2.1≤bs.length:=by
 unfold zcy at he ⊢
 split
 · rename_i q
   rw [if_pos q] at he
   cases hw:zeM t.s with
   | none=>rw [hw] at he;cases he
   | some v=>exact ⟨Int.le_refl _,h2⟩
 · rename_i q
   rw [if_neg q] at he
   split
   · rename_i q2
     rw [if_pos q2] at he
     split
     · rename_i q3;rw [if_pos q3] at he;exact absurd he q3
     · split
       · rename_i q4;exact refD_at h h2 q4
       · exact ⟨Int.le_refl _,h2⟩
   · exact ⟨Int.le_refl _,h2⟩
theorem close_err {bs:List UInt8} {last:Bool} {st:List Lv} {t:Tk} {tto:Int} (hw:topW st=false) (hn3:t.kind=3→∀v rest,st=v::rest→v.dict=true) (k:t.kind=3∨t.kind=5):(zau bs last st tto t).2.2.2=11:=by
 have he:(zbr st (t.kind==5)).2.2=11:=by
   cases st with
   | nil=>rfl
   | cons v rest =>
     unfold zbr
     simp only
     rw [if_pos]
     rcases k with k|k
     · left
       have hk:(t.kind==5)=false:=by rw [beq_eq_false_iff_ne];omega
       rw [hk,hn3 k v rest rfl]
       decide
     · have hk : (t.kind == 5) = true := by rw [beq_iff_eq]; exact k
       rw [hk]
       exact .inr ⟨rfl,hw⟩
 unfold zau
 rw [if_neg (by omega),if_neg (by omega),if_pos k]
 simp only
 rw [if_neg (by rw [he];decide)]
 exact he
theorem val_ans {bs:List UInt8} {last:Bool}:∀d,ValAt bs last d
 | 0 => fun st t tto hd hw hn3 ht h h2 => by
   unfold vlD
   by_cases k0:t.kind=0
   · rw [if_pos k0]
     exact ⟨⟨fun h=>(by cases h),fun _=>zbX (by unfold zau;rw [if_pos k0]) (by decide)⟩,fun h=>by cases h⟩
   · rw [if_neg k0]
     by_cases k24:t.kind=2∨t.kind=4
     · rw [if_pos k24]
       exact ⟨⟨fun h=>(by cases h),fun _=>zbX (by unfold zau zch;rw [if_neg k0,if_pos k24,if_neg (by rw [hw];decide),if_pos (by omega)]) (by decide)⟩,fun h=>by cases h⟩
     · rw [if_neg k24]
       by_cases k35:t.kind=3∨t.kind=5
       · rw [if_pos k35]
         exact ⟨⟨fun h=>(by cases h),fun _=>zbX (close_err hw hn3 k35) (by decide)⟩,fun h=>by cases h⟩
       · rw [if_neg k35]
         have hk:t.kind=1∨t.kind=6:=by have:=ht.1;have:=ht.2.1;omega
         have hs:=(sing_ans (bs:=bs) (last:=last) (tto:=tto) hw hk).2 (by omega)
         by_cases he:(zcy bs last t tto).2.2≠0
         · rw [if_pos he] at hs ⊢
           exact ⟨⟨fun h=>absurd h he,fun _=>hs⟩,fun h=>absurd h he⟩
         · rw [if_neg he] at hs ⊢
           exact ⟨⟨fun h=>(by cases h),fun _=>hs⟩,fun h=>by cases h⟩
 | d + 1 => fun st t tto hd hw hn3 ht h h2 => by
   unfold vlD
   by_cases k0:t.kind=0
   · rw [if_pos k0]
     exact ⟨⟨fun h=>(by cases h),fun _=>zbX (by unfold zau;rw [if_pos k0]) (by decide)⟩,fun h=>by cases h⟩
   · rw [if_neg k0]
     have hbeg : ∀ q : Bool, zch st q = ({ dict := q, l := [] } :: st, 0) := fun q => by
       unfold zch
       rw [if_neg (by rw [hw];decide),if_neg (by omega)]
     by_cases k2:t.kind=2
     · rw [if_pos k2]
       have hst:zau bs last st tto t=(none,{ dict:=false,l:=[] }::st,tto,0):=by
         unfold zau
         have hk:(t.kind==4)=false:=by rw [beq_eq_false_iff_ne];omega
         rw [if_neg k0,if_pos (.inl k2),hk,hbeg]
       obtain ⟨r1,r2⟩:=arr_ans (val_ans (bs:=bs) (last:=last) d) st (by omega) (bs.length+1) [] tto h h2 (by omega)
       exact ⟨⟨fun h V hV=>by obtain ⟨g,hg⟩:=r1.1 h V hV;exact ⟨g,by rw [zfF hst];exact hg⟩,fun h=>by obtain ⟨g,hg⟩:=r1.2 h;exact ⟨g,by rw [zfF hst];exact hg⟩⟩,fun h=>⟨k0,r2 h⟩⟩
     · rw [if_neg k2]
       by_cases k4:t.kind=4
       · rw [if_pos k4]
         have hst:zau bs last st tto t=(none,{ dict:=true,l:=[] }::st,tto,0):=by
           unfold zau
           have hk:(t.kind==4)=true:=by rw [beq_iff_eq];exact k4
           rw [if_neg k0,if_pos (.inr k4),hk,hbeg]
         obtain ⟨r1,r2⟩:=dict_ans (val_ans (bs:=bs) (last:=last) d) st (by omega) (bs.length+1) [] tto rfl h h2 (by omega)
         exact ⟨⟨fun h V hV=>by obtain ⟨g,hg⟩:=r1.1 h V hV;exact ⟨g,by rw [zfF hst];exact hg⟩,fun h=>by obtain ⟨g,hg⟩:=r1.2 h;exact ⟨g,by rw [zfF hst];exact hg⟩⟩,fun h=>⟨k0,r2 h⟩⟩
       · rw [if_neg k4]
         by_cases k35:t.kind=3∨t.kind=5
         · rw [if_pos k35]
           exact ⟨⟨fun h=>(by cases h),fun _=>zbX (close_err hw hn3 k35) (by decide)⟩,fun h=>by cases h⟩
         · rw [if_neg k35]
           have hk:t.kind=1∨t.kind=6:=by have:=ht.1;have:=ht.2.1;omega
           exact ⟨(sing_ans (bs:=bs) (last:=last) (tto:=tto) hw hk).1 (by omega),fun he=>⟨k0,singD_at h h2 he⟩⟩
def ErrS (R:PV×Int×Int):Prop:=R.2.2≠0→R=(PV.none,0,R.2.2)
theorem sing_shape (bs:List UInt8) (last:Bool) (t:Tk) (tto:Int):ErrS (zcy bs last t tto):=by
 unfold zcy ErrS
 split
 · split
   · exact fun _=>rfl
   · exact fun h=>absurd rfl h
 · split
   · split
     · exact fun _=>rfl
     · split
       · exact fun h=>absurd rfl h
       · exact fun h=>absurd rfl h
   · exact fun h=>absurd rfl h
theorem arr_shape (bs:List UInt8) (last:Bool) (f:Tk→Int→PV×Int×Int):∀r l k,ErrS (arrD bs last f r l k)
 | 0,_,_=>fun _=>rfl
 | r + 1, l, k => by
   unfold ErrS
   simp only [arrD]
   split
   · exact fun _=>rfl
   · split
     · exact fun h=>absurd rfl h
     · split
       · exact fun _=>rfl
       · exact arr_shape bs last f r _ _
theorem zgI (bs:List UInt8) (last:Bool) (f:Tk→Int→PV×Int×Int) (d:Nat):∀r ps tw k,ErrS (zdS bs last f d r ps tw k)
 | 0,_,_,_=>fun _=>rfl
 | r + 1, ps, tw, k => by
   unfold ErrS
   simp only [zdS]
   split
   · exact fun _=>rfl
   · split
     · split
       · exact fun _=>rfl
       · exact fun h=>absurd rfl h
     · split
       · exact fun _=>rfl
       · split
         · exact fun _=>rfl
         · split
           · exact fun _=>rfl
           · split
             · exact fun _=>rfl
             · split
               · exact fun _=>rfl
               · exact zgI bs last f d r _ _ _
theorem vl_shape (bs:List UInt8) (last:Bool) (d:Nat) (t:Tk) (tto:Int):ErrS (vlD bs last d t tto):=by
 cases d with
 | zero =>
   unfold ErrS vlD
   split
   · exact fun _=>rfl
   · split
     · exact fun _=>rfl
     · split
       · exact fun _=>rfl
       · split
         · exact fun _=>rfl
         · exact fun _=>rfl
 | succ d =>
   unfold vlD
   split
   · exact fun _=>rfl
   · split
     · exact arr_shape _ _ _ _ _ _
     · split
       · exact zgI _ _ _ _ _ _ _ _
       · split
         · exact fun _=>rfl
         · exact sing_shape _ _ _ _
theorem wholeD_is {bs:List UInt8} {last:Bool} {k:Int} (h:0≤k) (h2:k≤bs.length):∃g,valO bs last g [] k=some (zbF bs last k):=by
 obtain ⟨g1,g2⟩:=zaR last h h2
 have hok:=zd5 last h h2
 unfold zbF
 by_cases he:(zae bs k last).2.2.2≠0
 · rw [if_pos he]
   exact ⟨1,by rw [ze8,if_pos he]⟩
 · rw [if_neg he]
   obtain ⟨⟨a1,a2⟩,-⟩:=val_ans (bs:=bs) (last:=last) 64 [] (zae bs k last).1 (zae bs k last).2.2.1 rfl rfl (fun _ v rest hv=>by cases hv) hok (by omega) g2
   by_cases hv:(vlD bs last 64 (zae bs k last).1 (zae bs k last).2.2.1).2.2=0
   · obtain ⟨g,hg⟩:=a1 hv (vlD bs last 64 (zae bs k last).1 (zae bs k last).2.2.1) ⟨0,by
       show some (_,_,(0:Int))=some _
       rw [←hv]⟩
     exact ⟨g+1,by rw [ze8,if_neg he];exact hg⟩
   · obtain ⟨g,hg⟩:=a2 hv
     refine ⟨g+1,?_⟩
     rw [ze8,if_neg he,hg]
     exact congrArg some (vl_shape bs last 64 _ _ hv).symm
theorem zfO {bs:List UInt8} {last:Bool}:∀(g:Nat) (st:List Lv) (k:Int) (V:PV×Int×Int),valO bs last g st k=some V→valO bs last (g+1) st k=some V
 | 0,_,_,_,h=>by cases h
 | g + 1, st, k, V, h => by
   rw [ze8] at h ⊢
   by_cases he:(zae bs k last).2.2.2≠0
   · rw [if_pos he] at h ⊢;exact h
   · rw [if_neg he] at h ⊢
     unfold aftO at h ⊢
     by_cases hs:(zau bs last st (zae bs k last).2.2.1 (zae bs k last).1).2.2.2≠0
     · rw [if_pos hs] at h ⊢;exact h
     · rw [if_neg hs] at h ⊢
       generalize zau bs last st (zae bs k last).2.2.1 (zae bs k last).1=Z at *
       obtain ⟨v,st2,at2,e2⟩:=Z
       cases v with
       | none=>exact zfO g st2 at2 V h
       | some x =>
         cases st2 with
         | nil=>exact h
         | cons top rest=>exact zfO g _ at2 V h
theorem zgg {bs:List UInt8} {last:Bool} {g:Nat} {st:List Lv} {k:Int} {V:PV×Int×Int} (h:valO bs last g st k=some V):∀j,valO bs last (g+j) st k=some V
 | 0=>h
 | j+1=>zfO _ _ _ _ (zgg h j)
theorem zhR {bs:List UInt8} {last:Bool} {g g2:Nat} {st:List Lv} {k:Int} {V V2:PV×Int×Int} (h:valO bs last g st k=some V) (h2:valO bs last g2 st k=some V2):V=V2:=by
 have a1:=zgg h g2
 have a2:=zgg h2 g
 rw [Nat.add_comm] at a2
 rw [a1] at a2
 exact Option.some.inj a2
theorem zcG {bs:List UInt8} {last:Bool} {k:Int} (h:0≤k) (h2:k≤bs.length):valO bs last (bs.length+2) [] k=some (zbF bs last k):=by
 obtain ⟨V,hV⟩:=zgp bs last (bs.length+2) [] k h h2 (by omega)
 obtain ⟨g,hg⟩:=wholeD_is (last:=last) h h2
 rw [hV,zhR hV hg]
structure Ent where
 at_:Int:=0
 gen:Int:=0
 used:Bool:=false
 deriving DecidableEq,Inhabited
structure Grp where
 first:Int
 es:List Ent
 deriving DecidableEq,Inhabited
structure Sec where
 gs:List Grp
 tr:PV
def Sec.none:Sec:=⟨[],PV.none⟩
theorem wholeD_stays {bs:List UInt8} {n:Nat} (last:Bool) (hn:n≤bs.length) {k:Int} (h:0≤k) (h2:k≤n) (h6:(zbF (bs.take n) false k).2.2≠6) :
   zbF bs last k=zbF (bs.take n) false k∧zbF (bs.take n) true k=zbF (bs.take n) false k:=by
 have hl:(bs.take n).length=n:=by rw [List.length_take];omega
 have p:=zcG (bs:=bs.take n) (last:=false) h (by omega)
 obtain ⟨a,b⟩:=ze5 last hn _ _ _ _ h h2 p h6
 exact ⟨zhR (zcG h (by omega)) a,zhR (zcG h (by omega)) b⟩
def findV:List Grp→Int→Option Ent
 | [],_=>none
 | g::gs,n=>if g.first≤n∧n-g.first<(g.es.length:Int) then some (g.es.getD (n-g.first).toNat {}) else findV gs n
def fN (key:List UInt8):List PV→Option Nat
 | []=>none
 | [x]=>if x.kind=5∧x.s=key then some 0 else none
 | x::_::l=>if x.kind=5∧x.s=key then some 0 else (fN key l).map (· + 2)
def zdi (v:PV) (key:List UInt8):Option Nat:=if v.kind=7 then fN key v.l else none
def getV (v:PV) (key:List UInt8):Option PV:=(zdi v key).map fun k=>v.l.getD (k+1) PV.none
def getP (o:Option PV):PV×Bool:=match o with|none=>(PV.none,false)|some v=>(v,true)
def kSize:List UInt8:=[83,105,122,101]
def kRoot:List UInt8:=[82,111,111,116]
def placeV:List Sec→Int→Int
 | [],_=>-1
 | s :: l, n => match findV s.gs n with
   | none=>placeV l n
   | some e=>if e.used=true∧e.gen=0 then e.at_ else -1
structure Tab where
 ps:List Int:=[]
 root:Int:=0
def tabV (l:List Sec):Tab×Int :=
 match l with
 | []=>({},20)
 | s::_ =>
   let size:=(getP (getV s.tr kSize)).1
   let root:=(getP (getV s.tr kRoot)).1
   if size.kind≠2∨size.n<1∨4097<size.n then ({},20)
   else if root.kind≠8 then ({},23)
   else (⟨(List.range (size.n.toNat-1)).map fun (i:Nat)=>placeV l ((i:Int)+1),root.n⟩,0)
def oneW (p:Tk→Bool) (V:Tk×Int×Int×Int):Tk×Int×Int×Int :=
 if V.2.2.2≠0 then ({ kind:=0 },0,0,V.2.2.2) else if V.1.kind=0 then ({ kind:=0 },0,0,10) else if p V.1=false then ({ kind:=0 },0,0,11) else (V.1,V.2.1,V.2.2.1,0)
def zfY (s:List UInt8) (t:Tk):Bool:=t.kind==6&&t.s==s
end Go.Proofs.YtkhcjoomijkfbaaGreatDoor
namespace Go.Proofs.YtkhcjoomijkfbaaGreatDoor
def kObj:List UInt8:=[111,98,106]
def zck:List UInt8:=[101,110,100,111,98,106]
def zcw:List UInt8:=[115,116,114,101,97,109]
def zdz:List UInt8:=[101,110,100,115,116,114,101,97,109]
def zbg:List UInt8:=[76,101,110,103,116,104]
def za1:List UInt8:=[70,105,108,116,101,114]
def kParms:List UInt8:=[68,101,99,111,100,101,80,97,114,109,115]
def zdh:List UInt8:=[70,108,97,116,101,68,101,99,111,100,101]
def numS (bs:List UInt8) (last:Bool) (lo hi:Int) (s:Int×Int):Int×Int×Int :=
 if s.2≠0 then (0,s) else
   ((oneW zaH (zae bs s.1 last)).1.vn,(oneW zaH (zae bs s.1 last)).2.2.1,
     if (oneW zaH (zae bs s.1 last)).2.2.2=0∧((oneW zaH (zae bs s.1 last)).1.vn<lo∨hi<(oneW zaH (zae bs s.1 last)).1.vn) then 18 else (oneW zaH (zae bs s.1 last)).2.2.2)
def zbV (bs:List UInt8) (last:Bool) (w:List UInt8) (s:Int×Int):Int×Int :=
 if s.2≠0 then s else ((oneW (zfY w) (zae bs s.1 last)).2.2.1,(oneW (zfY w) (zae bs s.1 last)).2.2.2)
noncomputable def valS (bs:List UInt8) (last:Bool) (s:Int×Int):PV×Int×Int:=if s.2≠0 then (PV.none,s) else zbF bs last s.1
def strT (t:Tk):Int:=if t.kind=0 then 10 else if t.kind=6∧(t.s=zck∨t.s=zcw) then 0 else 18
def strE (V:Tk×Int×Int×Int):Int:=if V.2.2.2≠0 then V.2.2.2 else strT V.1
def zek (bs:List UInt8) (last:Bool) (s:Int×Int):Bool×Int×Int :=
 if s.2≠0 then (false,s) else (decide (strE (zae bs s.1 last)=0∧(zae bs s.1 last).1.s=zcw),(zae bs s.1 last).2.2.1,strE (zae bs s.1 last))
def crS (bs:List UInt8) (a:Int):Int:=if a<bs.length∧bs.getD a.toNat 0=13 then a+1 else a
def zbR (bs:List UInt8) (last:Bool) (s:Int×Int):Int×Int :=
 if s.2≠0 then (crS bs s.1,s.2) else if (bs.length:Int)≤crS bs s.1 then (crS bs s.1,zbb last) else if bs.getD (crS bs s.1).toNat 0≠10 then (crS bs s.1,18) else (crS bs s.1+1,0)
def bytS (bs:List UInt8) (last:Bool) (n:Int) (s:Int×Int):Int×Int :=
 if s.2≠0 then s else if (bs.length:Int)-s.1<n then (s.1,zbb last) else (s.1+n,0)
def filtV (v:PV):PV:=if (getP (getV v za1)).1.kind=6∧(getP (getV v za1)).1.l.length=1 then (getP (getV v za1)).1.l.getD 0 PV.none else (getP (getV v za1)).1
def mayV (v:PV):Bool:=!(getP (getV v za1)).2||(decide ((filtV v).kind=5)&&decide ((filtV v).s=zdh))
def lenV (v:PV):PV:=(getP (getV v zbg)).1
def okS (v:PV):Bool:=decide (v.kind=7)&&(decide ((lenV v).kind=2)&&(decide (0≤(lenV v).n)&&(decide ((lenV v).n≤16777216)&&(!(getP (getV v kParms)).2&&mayV v))))
def zb9 (bs:List UInt8) (last:Bool) (v:PV) (a:Int):Int×Int:=zbR bs last (a,if okS v=true then 0 else 18)
def zez (bs:List UInt8) (last:Bool) (v:PV) (a:Int):Int×Int:=bytS bs last (lenV v).n (zb9 bs last v a)
def zfc (bs:List UInt8) (last:Bool) (v:PV) (a:Int):Int×Int:=zbV bs last zck (zbV bs last zdz (zez bs last v a))
noncomputable def frA (bs:List UInt8) (last:Bool):Int×Int×Int:=numS bs last 1 4096 (0,0)
noncomputable def frB (bs:List UInt8) (last:Bool):Int×Int×Int:=numS bs last 0 0 (frA bs last).2
noncomputable def frC (bs:List UInt8) (last:Bool):Int×Int:=zbV bs last kObj (frB bs last).2
noncomputable def frD (bs:List UInt8) (last:Bool):PV×Int×Int:=valS bs last (frC bs last)
noncomputable def frE (bs:List UInt8) (last:Bool):Bool×Int×Int:=zek bs last (frD bs last).2
noncomputable def frR (bs:List UInt8) (last:Bool):Int×Bool :=
 if (frE bs last).1=true then ((zfc bs last (frD bs last).1 (frE bs last).2.1).2,true) else ((frE bs last).2.2,false)
def InB (n:Nat) (s:Int×Int):Prop:=s.2=0→0≤s.1∧s.1≤n
theorem oneW_in {bs:List UInt8} {last:Bool} {k:Int} {p:Tk→Bool} (h0:0≤k) (h1:k≤bs.length):0≤(oneW p (zae bs k last)).2.2.1∧(oneW p (zae bs k last)).2.2.1≤bs.length:=by
 obtain ⟨a,b⟩:=zaR (bs:=bs) last h0 h1
 unfold oneW
 split
 · exact ⟨Int.le_refl _,by show (0:Int)≤_;omega⟩
 · split
   · exact ⟨Int.le_refl _,by show (0:Int)≤_;omega⟩
   · split
     · exact ⟨Int.le_refl _,by show (0:Int)≤_;omega⟩
     · exact ⟨by show (0:Int)≤(zae bs k last).2.2.1;omega,b⟩
theorem ze7 {bs:List UInt8} {last:Bool} {lo hi:Int} {s:Int×Int} (h:InB bs.length s):InB bs.length (numS bs last lo hi s).2:=by
 unfold numS
 split
 · exact h
 · rename_i hs
   intro _
   obtain ⟨a,b⟩:=h (by omega)
   exact oneW_in a b
theorem zfw {bs:List UInt8} {last:Bool} {w:List UInt8} {s:Int×Int} (h:InB bs.length s):InB bs.length (zbV bs last w s):=by
 unfold zbV
 split
 · exact h
 · rename_i hs
   intro _
   obtain ⟨a,b⟩:=h (by omega)
   exact oneW_in a b
theorem even_of {v:PV} (f0:zbI v=0) (h7:v.kind=7):v.l.length % 2=0:=by
 obtain ⟨kk,n,s,l⟩:=v
 have h8:kk=7:=h7
 subst h8
 unfold zbI at f0
 by_cases hoc:ownC (.mk 7 n s l)≠0
 · rw [if_pos hoc] at f0;exact absurd f0 hoc
 · have hz : ownC (.mk 7 n s l) = 0 := by omega
   unfold ownC at hz
   simp only [show ((7:Int)=0)=False by simp,show ((7:Int)=1)=False by simp,show ((7:Int)=2∨(7:Int)=3)=False by simp,show ((7:Int)=4)=False by simp,show ((7:Int)=5)=False by simp,show ((7:Int)=6)=False by simp,if_false,if_true] at hz
   by_cases hb:n≠0∨s≠[]∨l.length % 2≠0
   · rw [if_pos hb] at hz;cases hz
   · show l.length % 2=0
     omega
theorem wholeD_in {bs:List UInt8} {last:Bool} {k:Int} (h0:0≤k) (h1:k≤bs.length):((zbF bs last k).2.2=0→0≤(zbF bs last k).2.1∧(zbF bs last k).2.1≤bs.length)∧((zbF bs last k).1.kind=7→(zbF bs last k).1.l.length % 2=0):=by
 have hd:=zcG (bs:=bs) (last:=last) h0 h1
 obtain ⟨m1,m2⟩:=valO_may _ _ _ _ h0 h1 (show stOk [] from trivial) hd
 refine ⟨fun he=>?_,fun h7=>?_⟩
 · obtain ⟨-,-,a,b⟩:=m1 he
   exact ⟨by omega,b⟩
 · by_cases he:(zbF bs last k).2.2=0
   · exact even_of (m1 he).1 h7
   · rw [(m2 he).1] at h7
     exact absurd h7 (by show ¬(0:Int)=7;omega)
theorem valS_in {bs:List UInt8} {last:Bool} {s:Int×Int} (h:InB bs.length s):InB bs.length (valS bs last s).2∧((valS bs last s).1.kind=7→(valS bs last s).1.l.length % 2=0):=by
 unfold valS
 split
 · exact ⟨h,fun h7=>absurd h7 (by show ¬(0:Int)=7;omega)⟩
 · rename_i hs
   obtain ⟨a,b⟩:=h (by omega)
   exact wholeD_in a b
theorem strmS_in {bs:List UInt8} {last:Bool} {s:Int×Int} (h:InB bs.length s):InB bs.length (zek bs last s).2∧((zek bs last s).1=true→(zek bs last s).2.2=0):=by
 unfold zek
 split
 · exact ⟨h,fun e=>by cases e⟩
 · rename_i hs
   obtain ⟨a,b⟩:=h (by omega)
   obtain ⟨c,d⟩:=zaR (bs:=bs) last a b
   exact ⟨fun _=>⟨by show (0:Int)≤(zae bs s.1 last).2.2.1;omega,d⟩,fun e=>(by simpa using e:strE (zae bs s.1 last)=0∧_).1⟩
theorem crS_in {bs:List UInt8} {a:Int} (h0:0≤a) (h1:a≤bs.length):0≤crS bs a∧crS bs a≤bs.length:=by
 unfold crS
 split<;>omega
theorem zeC {v:PV} (h:okS v=true) {bs:List UInt8} {last:Bool} {a:Int}:zb9 bs last v a=if (bs.length:Int)≤crS bs a then (crS bs a,zbb last) else if bs.getD (crS bs a).toNat 0≠10 then (crS bs a,18) else (crS bs a+1,0):=by
 unfold zb9 zbR
 rw [if_pos h]
 dsimp only
 rw [if_neg (by decide)]
theorem zhL {v:PV} (h:¬okS v=true) {bs:List UInt8} {last:Bool} {a:Int}:zb9 bs last v a=(crS bs a,18):=by
 unfold zb9 zbR
 rw [if_neg h]
 dsimp only
 rw [if_pos (by decide)]
theorem strmL_in {bs:List UInt8} {last:Bool} {v:PV} {a:Int} (h0:0≤a) (h1:a≤bs.length):InB bs.length (zb9 bs last v a):=by
 obtain ⟨c,d⟩:=crS_in h0 h1
 intro he
 by_cases ho:okS v=true
 · rw [zeC ho]
   split
   · exact ⟨c,d⟩
   · split
     · exact ⟨c,d⟩
     · exact ⟨by show 0≤crS bs a+1;omega,by show crS bs a+1≤(bs.length:Int);omega⟩
 · rw [zhL ho]
   exact ⟨c,d⟩
theorem okS_len {v:PV} (h:okS v=true):0≤(lenV v).n∧(lenV v).n≤16777216:=by
 unfold okS at h
 simp only [Bool.and_eq_true,decide_eq_true_eq] at h
 exact ⟨h.2.2.1,h.2.2.2.1⟩
theorem strmL_ok {bs:List UInt8} {last:Bool} {v:PV} {a:Int} (h:(zb9 bs last v a).2=0):okS v=true:=by
 unfold zb9 zbR at h
 dsimp only at h
 by_cases ho:okS v=true
 · exact ho
 · rw [if_neg ho, if_pos (by decide)] at h
   cases h
theorem strmB_in {bs:List UInt8} {last:Bool} {v:PV} {a:Int} (h0:0≤a) (h1:a≤bs.length):InB bs.length (zez bs last v a):=by
 intro he
 unfold zez bytS at he ⊢
 split
 · rename_i hs
   rw [if_pos hs] at he
   exact absurd he hs
 · rename_i hs
   have hz:(zb9 bs last v a).2=0:=by omega
   obtain ⟨c,d⟩:=strmL_in (bs:=bs) (last:=last) (v:=v) h0 h1 hz
   obtain ⟨e,-⟩:=okS_len (strmL_ok hz)
   rw [if_neg hs] at he
   split
   · exact ⟨c,d⟩
   · exact ⟨by show (0:Int)≤(zb9 bs last v a).1+(lenV v).n;omega,by show (zb9 bs last v a).1+(lenV v).n≤_;omega⟩
section
variable {bs : List UInt8} {n : Nat} (last : Bool) (hn : n ≤ bs.length)
include hn
theorem zg7 (p:Tk→Bool) {k:Int} (h0:0≤k) (h1:k≤n) (h6:(oneW p (zae (bs.take n) k false)).2.2.2≠6) :
   oneW p (zae bs k last)=oneW p (zae (bs.take n) k false):=by
 have g6:(zae (bs.take n) k false).2.2.2≠6:=by
   intro e
   unfold oneW at h6
   rw [if_pos (by rw [e];decide)] at h6
   exact h6 e
 rw [(same3 last h0 h1 hn g6).a]
theorem zg8 {lo hi:Int} {s:Int×Int} (hs:InB n s) (h6:(numS (bs.take n) false lo hi s).2.2≠6):numS bs last lo hi s=numS (bs.take n) false lo hi s∧s.2≠6:=by
 unfold numS at h6 ⊢
 by_cases he:s.2≠0
 · rw [if_pos he] at h6
   rw [if_pos he,if_pos he];exact ⟨rfl,h6⟩
 · rw [if_neg he] at h6
   rw [if_neg he,if_neg he]
   obtain ⟨a,b⟩:=hs (by omega)
   dsimp only at h6
   have g6:(oneW zaH (zae (bs.take n) s.1 false)).2.2.2≠6:=by
     intro e
     rw [e,if_neg (by omega)] at h6
     exact h6 rfl
   rw [zg7 last hn zaH a b g6]
   exact ⟨rfl,by omega⟩
theorem zgx {w:List UInt8} {s:Int×Int} (hs:InB n s) (h6:(zbV (bs.take n) false w s).2≠6):zbV bs last w s=zbV (bs.take n) false w s∧s.2≠6:=by
 unfold zbV at h6 ⊢
 by_cases he:s.2≠0
 · rw [if_pos he] at h6
   rw [if_pos he,if_pos he];exact ⟨rfl,h6⟩
 · rw [if_neg he] at h6
   rw [if_neg he,if_neg he]
   obtain ⟨a,b⟩:=hs (by omega)
   rw [zg7 last hn (zfY w) a b h6]
   exact ⟨rfl,by omega⟩
theorem valS_stays {s:Int×Int} (hs:InB n s) (h6:(valS (bs.take n) false s).2.2≠6):valS bs last s=valS (bs.take n) false s∧s.2≠6:=by
 unfold valS at h6 ⊢
 by_cases he:s.2≠0
 · rw [if_pos he] at h6
   rw [if_pos he,if_pos he];exact ⟨rfl,h6⟩
 · rw [if_neg he] at h6
   rw [if_neg he,if_neg he]
   obtain ⟨a,b⟩:=hs (by omega)
   exact ⟨(wholeD_stays last hn a b h6).1,by omega⟩
theorem strmS_stays {s:Int×Int} (hs:InB n s) (h6:(zek (bs.take n) false s).2.2≠6):zek bs last s=zek (bs.take n) false s∧s.2≠6:=by
 unfold zek at h6 ⊢
 by_cases he:s.2≠0
 · rw [if_pos he] at h6
   rw [if_pos he,if_pos he];exact ⟨rfl,h6⟩
 · rw [if_neg he] at h6
   rw [if_neg he,if_neg he]
   obtain ⟨a,b⟩:=hs (by omega)
   dsimp only at h6
   have g6:(zae (bs.take n) s.1 false).2.2.2≠6:=by
     intro e
     unfold strE at h6
     rw [if_pos (by rw [e];decide)] at h6
     exact h6 e
   rw [(same3 last a b hn g6).a]
   exact ⟨rfl,by omega⟩
omit hn in
theorem getD_take {k:Int} (h0:0≤k) (h1:k<n):(bs.take n).getD k.toNat 0=bs.getD k.toNat 0:=by
 rw [List.getD_eq_getElem?_getD,List.getD_eq_getElem?_getD,List.getElem?_take,if_pos (by omega)]
theorem zgB {v:PV} {a:Int} (h0:0≤a) (h1:a≤n) (h6:(zb9 (bs.take n) false v a).2≠6):(zb9 bs last v a).2=(zb9 (bs.take n) false v a).2∧((zb9 (bs.take n) false v a).2=0→(zb9 bs last v a).1=(zb9 (bs.take n) false v a).1):=by
 have hl:(bs.take n).length=n:=by rw [List.length_take];omega
 by_cases ho:okS v=true
 · rw [zeC ho,hl] at h6
   rw [zeC ho,zeC ho,hl]
   have hcr:crS (bs.take n) a<n→crS bs a=crS (bs.take n) a:=by
     intro hc
     unfold crS at hc ⊢
     rw [hl] at hc ⊢
     by_cases han:a<n
     · rw [getD_take h0 han]
       by_cases h13:bs.getD a.toNat 0=13
       · rw [if_pos ⟨by omega,h13⟩,if_pos ⟨han,h13⟩]
       · rw [if_neg (fun h=>h13 h.2),if_neg (fun h=>h13 h.2)]
     · rw [if_neg (fun h => han h.1)] at hc
       omega
   by_cases hc:(n:Int)≤crS (bs.take n) a
   · rw [if_pos hc] at h6
     exact absurd rfl h6
   · have hc0 := (crS_in (bs := bs.take n) h0 (by rw [hl]; exact h1)).1
     rw [hcr (by omega),if_neg hc,if_neg (show ¬(bs.length:Int)≤crS (bs.take n) a by omega),getD_take hc0 (by omega)]
     exact ⟨rfl,fun _=>rfl⟩
 · rw [zhL ho,zhL ho]
   exact ⟨rfl,fun h=>by cases h⟩
theorem strmB_stays {v:PV} {a:Int} (h0:0≤a) (h1:a≤n) (h6:(zez (bs.take n) false v a).2≠6):(zez bs last v a).2=(zez (bs.take n) false v a).2∧((zez (bs.take n) false v a).2=0→(zez bs last v a).1=(zez (bs.take n) false v a).1):=by
 have hl:(bs.take n).length=n:=by rw [List.length_take];omega
 unfold zez bytS at h6 ⊢
 by_cases he:(zb9 (bs.take n) false v a).2≠0
 · rw [if_pos he] at h6
   obtain ⟨e1,-⟩:=zgB last hn h0 h1 h6
   rw [if_pos he,if_pos (by rw [e1];exact he)]
   exact ⟨e1,fun h=>absurd h he⟩
 · obtain ⟨e1, e2⟩ := zgB (last := last) hn (v := v) h0 h1 (by omega)
   have e2:=e2 (by omega)
   rw [if_neg he,hl] at h6
   rw [if_neg he,if_neg (by rw [e1];exact he),hl,e2]
   by_cases hc:(n:Int)-(zb9 (bs.take n) false v a).1<(lenV v).n
   · rw [if_pos hc] at h6
     exact absurd rfl h6
   · rw [if_neg hc, if_neg (by omega)]
     exact ⟨rfl,fun _=>rfl⟩
theorem wordS_err {w:List UInt8} {s t:Int×Int} (hs:InB n s) (e:t.2=s.2) (e1:s.2=0→t.1=s.1) (h6:(zbV (bs.take n) false w s).2≠6):(zbV bs last w t).2=(zbV (bs.take n) false w s).2∧((zbV (bs.take n) false w s).2=0→(zbV bs last w t).1=(zbV (bs.take n) false w s).1):=by
 by_cases hz:s.2=0
 · have ht:t=s:=Prod.ext (e1 hz) e
   rw [ht,(zgx last hn hs h6).1]
   exact ⟨rfl,fun _=>rfl⟩
 · unfold zbV
   rw [if_pos hz,if_pos (by rw [e];exact hz)]
   exact ⟨e,fun h=>absurd h hz⟩
omit hn in
theorem wordS_six {w:List UInt8} {s:Int×Int} (h6:(zbV (bs.take n) false w s).2≠6):s.2≠6:=by
 intro e
 unfold zbV at h6
 rw [if_pos (by omega)] at h6
 exact h6 e
theorem strmD_stays {v:PV} {a:Int} (h0:0≤a) (h1:a≤n) (h6:(zfc (bs.take n) false v a).2≠6):(zfc bs last v a).2=(zfc (bs.take n) false v a).2:=by
 have hl:(bs.take n).length=n:=by rw [List.length_take];omega
 unfold zfc at h6 ⊢
 have g6:=wordS_six h6
 have b6:=wordS_six g6
 have hb:=strmB_in (bs:=bs.take n) (last:=false) (v:=v) h0 (by rw [hl];exact h1)
 rw [hl] at hb
 obtain ⟨e1,e2⟩:=strmB_stays last hn h0 h1 b6
 obtain ⟨f1,f2⟩:=wordS_err last hn hb e1 e2 g6
 have hw:=zfw (bs:=bs.take n) (last:=false) (w:=zdz) (s:=zez (bs.take n) false v a) (by rw [hl];exact hb)
 rw [hl] at hw
 exact (wordS_err last hn hw f1 f2 h6).1
theorem fr_stays (h6:(frR (bs.take n) false).1≠6):frR bs last=frR (bs.take n) false∧frD bs last=frD (bs.take n) false:=by
 have hl:(bs.take n).length=n:=by rw [List.length_take];omega
 have i0:InB n ((0,0):Int×Int):=fun _=>⟨Int.le_refl _,by show (0:Int)≤n;omega⟩
 have iA:InB n (frA (bs.take n) false).2:=by have:=ze7 (bs:=bs.take n) (last:=false) (lo:=1) (hi:=4096) (s:=(0,0)) (by rw [hl];exact i0);rw [hl] at this;exact this
 have iB:InB n (frB (bs.take n) false).2:=by have:=ze7 (bs:=bs.take n) (last:=false) (lo:=0) (hi:=0) (s:=(frA (bs.take n) false).2) (by rw [hl];exact iA);rw [hl] at this;exact this
 have iC:InB n (frC (bs.take n) false):=by have:=zfw (bs:=bs.take n) (last:=false) (w:=kObj) (s:=(frB (bs.take n) false).2) (by rw [hl];exact iB);rw [hl] at this;exact this
 have iD:InB n (frD (bs.take n) false).2:=by have:=(valS_in (bs:=bs.take n) (last:=false) (s:=frC (bs.take n) false) (by rw [hl];exact iC)).1;rw [hl] at this;exact this
 have iE:=strmS_in (bs:=bs.take n) (last:=false) (s:=(frD (bs.take n) false).2) (by rw [hl];exact iD)
 rw [hl] at iE
 have E6:(frE (bs.take n) false).2.2≠6:=by
   intro e
   unfold frR at h6
   split at h6
   · rename_i ht
     have:=iE.2 ht
     unfold frE at e
     omega
   · exact h6 e
 obtain ⟨sE,D6⟩:=strmS_stays last hn iD E6
 obtain ⟨sD,C6⟩:=valS_stays last hn iC D6
 obtain ⟨sC,B6⟩:=zgx last hn iB C6
 obtain ⟨sB,A6⟩:=zg8 last hn iA B6
 obtain ⟨sA,-⟩:=zg8 last hn i0 A6
 have eA:frA bs last=frA (bs.take n) false:=sA
 have eB:frB bs last=frB (bs.take n) false:=by unfold frB;rw [eA];exact sB
 have eC:frC bs last=frC (bs.take n) false:=by unfold frC;rw [eB];exact sC
 have eD:frD bs last=frD (bs.take n) false:=by unfold frD;rw [eC];exact sD
 have eE:frE bs last=frE (bs.take n) false:=by unfold frE;rw [eD];exact sE
 refine ⟨?_,eD⟩
 unfold frR at h6 ⊢
 rw [eE,eD]
 by_cases ht:(frE (bs.take n) false).1=true
 · rw [if_pos ht] at h6 ⊢
   rw [if_pos ht]
   have hz:0≤(frE (bs.take n) false).2.1∧(frE (bs.take n) false).2.1≤n:=iE.1 (iE.2 ht)
   rw [strmD_stays last hn hz.1 hz.2 h6]
 · rw [if_neg ht,if_neg ht]
end
end Go.Proofs.YtkhcjoomijkfbaaGreatDoor
namespace Go.Proofs.YtkhcjoomijkfbaaGreatDoor
structure LinD where
 len:Int:=0
 at_:Int:=0
 n:Int:=0
 obj:Int:=0
 fin:Int:=0
 pages:Int:=0
 main:Int:=0
 deriving DecidableEq
def kLin:List UInt8:=[76,105,110,101,97,114,105,122,101,100]
def kH:List UInt8:=[72]
def kL:List UInt8:=[76]
def kO:List UInt8:=[79]
def kE:List UInt8:=[69]
def kN:List UInt8:=[78]
def kT:List UInt8:=[84]
def zdN (l:LinD):Bool :=
 (decide (1≤l.len)&&decide (l.len≤2147483647))&&((decide (1≤l.obj)&&decide (l.obj≤4096))&&((decide (1≤l.pages)&&decide (l.pages≤2048)) &&
   ((decide (0≤l.at_)&&decide (l.at_≤l.fin))&&((decide (1≤l.n)&&decide (l.n≤l.fin))&&(decide (l.fin≤l.main)&&(decide (l.main<l.len)&&decide (l.n≤l.fin-l.at_)))))))
def chkL (l:LinD):Int:=if zdN l=true then 0 else 28
theorem zdb {l:LinD}:zdN l=true↔1≤l.len∧l.len≤2147483647∧1≤l.obj∧l.obj≤4096∧1≤l.pages∧l.pages≤2048∧0≤l.at_∧l.at_≤l.fin∧1≤l.n∧l.n≤l.fin∧l.fin≤l.main∧l.main<l.len∧l.n≤l.fin-l.at_:=by
 unfold zdN
 simp only [Bool.and_eq_true,decide_eq_true_eq]
 omega
theorem chkL_iff {l:LinD}:chkL l=0↔zdN l=true:=by
 unfold chkL
 split
 · rename_i h;exact ⟨fun _=>h,fun _=>rfl⟩
 · rename_i h;exact ⟨fun e=>(by cases e),fun e=>absurd e h⟩
def zdG (v:PV):Int×Int×Bool :=
 if (getP (getV v kH)).1.kind=6∧2≤(getP (getV v kH)).1.l.length∧((getP (getV v kH)).1.l.getD 0 PV.none).kind=2∧((getP (getV v kH)).1.l.getD 1 PV.none).kind=2 then
   (((getP (getV v kH)).1.l.getD 0 PV.none).n,((getP (getV v kH)).1.l.getD 1 PV.none).n,true) else (0,0,false)
def intK (v:PV) (k:List UInt8):Bool:=decide ((getP (getV v k)).1.kind=2)
def intN (v:PV) (k:List UInt8):Int:=(getP (getV v k)).1.n
def ofV (v:PV):LinD×Bool :=
 if (getP (getV v kLin)).2=true∧(zdG v).2.2=true∧intK v kL=true∧intK v kO=true∧intK v kE=true∧intK v kN=true∧intK v kT=true then
   ({ len:=intN v kL,at_:=(zdG v).1,n:=(zdG v).2.1,obj:=intN v kO,fin:=intN v kE,pages:=intN v kN,main:=intN v kT },true)
 else ({},false)
noncomputable def linV (bs:List UInt8) (last:Bool) (total:Int):LinD×Int :=
 if (frR bs last).1=6 then ({},6)
 else if (frR bs last).1≠0∨(frR bs last).2=true∨(ofV (frD bs last).1).2=false∨chkL (ofV (frD bs last).1).1≠0∨(ofV (frD bs last).1).1.len≠total then ({},28)
 else ((ofV (frD bs last).1).1,0)
theorem linV_stays {bs:List UInt8} {n:Nat} (last:Bool) (hn:n≤bs.length) {total:Int} (h6:(linV (bs.take n) false total).2≠6):linV bs last total=linV (bs.take n) false total:=by
 unfold linV at h6 ⊢
 by_cases he:(frR (bs.take n) false).1=6
 · rw [if_pos he] at h6;exact absurd rfl h6
 · obtain ⟨a,b⟩:=fr_stays last hn he
   rw [a,b]
theorem linV_six {bs:List UInt8} {last:Bool} {total:Int} (h6:(linV bs last total).2=6):linV bs last total=({},6):=by
 unfold linV at h6 ⊢
 split
 · rfl
 · rename_i h
   rw [if_neg h] at h6
   split at h6
   · cases h6
   · cases h6
end Go.Proofs.YtkhcjoomijkfbaaGreatDoor
namespace Go.Proofs.YtkhcjoomijkfbaaGreatDoor
open Go.RowKit
structure zcr (W:World) where
 w:World
 h:Below W.heap.size W w
instance zcr.there (W:World):Nonempty (zcr W):=⟨⟨W,Below.refl _ _⟩⟩
theorem zcl {P:Program} {id:Nat} {Q:Exit→Act→World→Prop} {a:Act} {W:World} {l:List Oper} (hm:P.follows .mixedOrders=true) (hB:Region.lexB .any l.toArray=true)
   (h:wpQuiet P l.toArray (fun w'=>∃p:zcr W,w'=p.w) (fun a'=>∀w',(∃p:zcr W,w'=p.w)→Q .normal a' w') l a):(Code.region id l.toArray true).wp P Q a W :=
 wp_region_quiet (C:=fun w'=>∃p:zcr W,w'=p.w) hm hB ⟨⟨W.drew,(Below.refl _ _).drew⟩,rfl⟩ (by simpa using h)
theorem Calls.below_of {P:Program} {f:FuncId} {args:Array Value} {W:World} {p:zcr W} {v:Value}
   (h:Calls P f args p.w fun e w'=>e=.returned v∧Below p.w.heap.size p.w w'):Calls P f args p.w fun e w''=>e=.returned v∧∃p':zcr W,w''=p'.w :=
 h.mono fun _ w' ⟨he,hb⟩=>⟨he,⟨w',p.h.trans (hb.mono p.h.size)⟩,rfl⟩
theorem zcr.cell {W:World} {b o:Nat} {v:Value} (hc:W.cell? ⟨b,o,none⟩=some v) (p:zcr W):p.w.cell? ⟨b,o,none⟩=some v:=cell?_keep p.h hc
def zei (r:Int):Int:=if r<48∨57<r then -1 else r-48
theorem zcH (r:Int) (w:World) (h0:0≤r) (h1:r≤2147483647) :
   Calls Tryz.prog 226 #[.int .i32 r] w fun e w'=>e=.returned (.int .i64 (zei r))∧w=w':=by
 obtain ⟨V,hV⟩:∃V,V=zei r:=⟨_,rfl⟩
 rw [←hV]
 unfold zei at hV
 by_cases h2:r<48
 · rw [if_pos (.inl h2)] at hV
   have HV:=Lib.hid hV
   clear hV
   go_enter Tryz.func226,Tryz.ntmps226
   go_wp2
   go_ret
   exact ⟨zan HV.out.symm,rfl⟩
 · have h2d : decide (r < 48) = false := by simpa using h2
   by_cases h3:57<r
   · rw [if_pos (.inr h3)] at hV
     have HV:=Lib.hid hV
     clear hV
     go_enter Tryz.func226,Tryz.ntmps226
     go_wp2
     go_ret
     exact ⟨zan HV.out.symm,rfl⟩
   · rw [if_neg (by omega)] at hV
     have HV:=Lib.hid hV
     have h3d:decide (57<r)=false:=by simpa using h3
     have h2':48≤r:=by omega
     have h3':r≤57:=by omega
     clear hV h2 h3
     go_enter Tryz.func226,Tryz.ntmps226
     go_wp2
     go_ret
     exact ⟨zan HV.out.symm,rfl⟩
abbrev bl (s:ByteArray):List UInt8:=s.data.toList
theorem zaL (s:ByteArray):(bl s).length=s.size:=Array.length_toList
theorem bl_get (s:ByteArray) (k:Nat) (h:k<s.size):(bl s)[k]'(by rw [zaL];exact h)=s[k]:=rfl
theorem zdT (s:ByteArray) (k:Nat) (h:k<s.size):(bl s).take (k+1)=(bl s).take k++[s[k]]:=by
 rw [List.take_succ_eq_append_getElem (by rw [zaL];exact h)];rfl
theorem bl_drop (s:ByteArray) (k:Nat) (h:k<s.size):(bl s).drop k=s[k]::(bl s).drop (k+1):=by
 rw [List.drop_eq_getElem_cons (by rw [zaL];exact h)];rfl
theorem bl_mem (s:ByteArray) (k:Nat) (h:k<s.size):s[k]∈bl s:=by rw [←bl_get s k h];exact List.getElem_mem _
theorem toL (s:ByteArray):s.toList=bl s:=ByteArray.toList_eq s
theorem dec_yes (s:ByteArray) (k:Nat) (h:k<s.size) (hd:isDg s[k]=true):Utf8.decode s k=(s[k].toNat,1):=by
 rw [zcV] at hd;exact decode_ascii s k h (by omega)
theorem dec_no (s:ByteArray) (k:Nat) (h:k<s.size) (hd:isDg s[k]=false):zei (Utf8.decode s k).1=-1:=by
 rw [isDg_no] at hd
 unfold zei
 by_cases h2:s[k].toNat<128
 · rw [decode_ascii s k h h2,if_pos]
   simp only;omega
 · have := (decode_high s k h (by omega)).1
   rw [if_pos];omega
theorem zcK (w:World) (s:ByteArray) (k:Nat):Below w.heap.size w (w.iter s k):=zah w _
def DigEnd (V:Int×Int) (w:World) (e:Ending) (w':World):Prop:=e=.returned (.tuple #[.int .i64 V.1,.int .i64 V.2])∧Below w.heap.size w w'
theorem zdn (s:ByteArray) (w:World) :
   Calls Tryz.prog 203 #[.string s] w (DigEnd (zbY (bl s)) w):=by
 obtain ⟨V,hV⟩:∃V,V=zbY (bl s):=⟨_,rfl⟩
 rw [←hV]
 have HV:=Lib.hid hV
 clear hV
 by_cases he:s.toList=[]
 · have HE := Lib.hid (show V = (0, 11) by rw [HV.out, ← toL, he]; exact digitsV_nil)
   go_enter Tryz.func203,Tryz.ntmps203
   go_wp2
   go_ret2
   exact ⟨by rw [HE.out];rfl,Below.refl _ _⟩
 have he2:s.toList.isEmpty=false:=by simpa using he
 have hne:bl s≠[]:=by rw [←toL];exact he
 have HNE:=Lib.hid hne
 clear he hne
 go_enter Tryz.func203,Tryz.ntmps203
 go_wp2
 go_loopw [4, 5] (fun n o wr => ∃ (k : Nat) (N : Int) (ov : Bool), k ≤ s.size ∧ n = .int .i64 N ∧ o = .bool ov ∧ wr = w.iter s k ∧ 0 ≤ N ∧ N ≤ 2147483647 ∧ Hid (((bl s).take k).all isDg = true) ∧ Hid (ov = decide (2147483647 < valD ((bl s).take k))) ∧ Hid (ov = false → N = (valD ((bl s).take k) : Nat)))
   (fun _ _ wr=>s.size-wr.iterPos w.heap.size)
 case atStart=>exact ⟨0,0,false,Nat.zero_le _,rfl,rfl,rfl,by omega,by omega,Lib.hid rfl,Lib.hid rfl,Lib.hid fun _=>rfl⟩
 case round =>
   obtain ⟨k,N,ov,hk,rfl,rfl,rfl,hN0,hN1,HA,HO,HN⟩:=hrel
   by_cases hlt:k<s.size
   · have hnx := fun ty => run_next_any (P := Tryz.prog) w s k ty hlt
     have hle:=decode_le s k
     by_cases hd:isDg s[k]=true
     · rw [dec_yes s k hlt hd] at hnx hle
       have hd1:=zcV.1 hd
       have HDV:=Lib.hid (zhy hd)
       have HD9:=dgV_le hd
       have HTA:=Lib.hid (show ((bl s).take (k+1)).all isDg=true by rw [zdT s k hlt];exact zed _ _ HA.out hd)
       have HTV:=Lib.hid (show valD ((bl s).take (k+1))=10 * valD ((bl s).take k)+dgV s[k] by rw [zdT s k hlt];exact zcd _ _)
       have HDI:=Lib.hid (show zei ((s[k].toNat:Nat):Int)=(dgV s[k]:Nat) by unfold zei;rw [if_neg (by omega),zhy hd])
       generalize dgV s[k]=d at *
       generalize s[k].toNat=c at *
       clear hd
       simp only at hnx hle
       cases ov
       · have hval:=HN.out rfl
         have HVAL:=Lib.hid hval
         clear hval
         by_cases hov:(2147483647-(d:Int)) / 10<N
         · have HOV2:=Lib.hid (show true=decide (2147483647<valD ((bl s).take (k+1))) by
             have h1:=HVAL.out
             rw [HTV.out,eq_comm,decide_eq_true_iff];omega)
           go_wp2_with (go_at_call 226;refine (zcH _ _ (by omega) (by omega)).mono ?_;rintro e w' ⟨rfl,rfl⟩;rw [HDI.out])
           go_roundw
           case rel=>exact ⟨k+1,N,true,by omega,rfl,rfl,rfl,hN0,hN1,HTA,HOV2,Lib.hid (fun h=>by cases h)⟩
           case measure=>simp;omega
         · have HOV2:=Lib.hid (show false=decide (2147483647<valD ((bl s).take (k+1))) by
             have h1:=HVAL.out
             rw [HTV.out,eq_comm,decide_eq_false_iff_not];omega)
           have HVL2:=Lib.hid (show 10 * N+(d:Int)=((valD ((bl s).take (k+1)):Nat):Int) by rw [HTV.out,HVAL.out];omega)
           have hovd:decide ((2147483647-(d:Int)) / 10<N)=false:=by simpa using hov
           go_wp2_with (go_at_call 226;refine (zcH _ _ (by omega) (by omega)).mono ?_;rintro e w' ⟨rfl,rfl⟩;rw [HDI.out])
           go_roundw
           case rel=>exact ⟨k+1,10 * N+d,false,by omega,rfl,rfl,rfl,by omega,by omega,HTA,HOV2,Lib.hid (fun _=>HVL2.out)⟩
           case measure=>simp;omega
       · have HOV2:=Lib.hid (show true=decide (2147483647<valD ((bl s).take (k+1))) by
           have h1:=HO.out
           rw [eq_comm,decide_eq_true_iff] at h1
           rw [HTV.out,eq_comm,decide_eq_true_iff];omega)
         go_wp2_with (go_at_call 226;refine (zcH _ _ (by omega) (by omega)).mono ?_;rintro e w' ⟨rfl,rfl⟩;rw [HDI.out])
         go_roundw
         case rel=>exact ⟨k+1,N,true,by omega,rfl,rfl,rfl,hN0,hN1,HTA,HOV2,Lib.hid (fun h=>by cases h)⟩
         case measure=>simp;omega
     · have hd2 : isDg s[k] = false := by simpa using hd
       have HDI:=Lib.hid (dec_no s k hlt hd2)
       have h128:0≤(Utf8.decode s k).1:=by omega
       have HF:=Lib.hid (show V=(0,11) by rw [HV.out];exact digitsV_form (zfW (bl_mem s k hlt) hd2))
       clear hd hd2
       go_wp2_with (go_at_call 226;refine (zcH _ _ (by omega) (by omega)).mono ?_;rintro e w' ⟨rfl,rfl⟩;rw [HDI.out])
       go_ret2
       exact ⟨by rw [HF.out];rfl,zcK _ _ _⟩
   · obtain rfl : k = s.size := by omega
     have hnx:=fun ty=>run_next_end (P:=Tryz.prog) w s s.size ty hlt
     have htk:(bl s).take s.size=bl s:=by rw [←zaL];exact List.take_length
     have HT:=Lib.hid htk
     clear htk
     cases ov
     · have HR:=Lib.hid (show V=(N,0) by
         have h1:=HA.out;have h2:=HO.out;have h3:=HN.out rfl
         rw [HT.out] at h1 h2 h3
         rw [eq_comm,decide_eq_false_iff_not] at h2
         rw [HV.out,zeQ HNE.out h1 (by omega),h3])
       go_wp2
       go_ret2
       exact ⟨by rw [HR.out];rfl,zcK _ _ _⟩
     · have HR:=Lib.hid (show V=(0,5) by
         have h1:=HA.out;have h2:=HO.out
         rw [HT.out] at h1 h2
         rw [eq_comm,decide_eq_true_iff] at h2
         rw [HV.out,zfn HNE.out h1 h2])
       go_wp2
       go_ret2
       exact ⟨by rw [HR.out];rfl,zcK _ _ _⟩
theorem zeZ (s:ByteArray) (w:World) :
   Calls Tryz.prog 202 #[.string s] w fun e w'=>e=.returned (.bool ((bl s).all isDg))∧Below w.heap.size w w':=by
 obtain ⟨V,hV⟩:∃V,V=(bl s).all isDg:=⟨_,rfl⟩
 rw [←hV]
 have HV:=Lib.hid hV
 clear hV
 go_enter Tryz.func202,Tryz.ntmps202
 go_wp2
 go_loopw [] (fun wr=>∃k:Nat,k≤s.size∧wr=w.iter s k∧Hid (((bl s).take k).all isDg=true)) (fun wr=>s.size-wr.iterPos w.heap.size)
 case atStart=>exact ⟨0,Nat.zero_le _,rfl,Lib.hid rfl⟩
 case round =>
   obtain ⟨k,hk,rfl,HA⟩:=hrel
   by_cases hlt:k<s.size
   · have hnx := fun ty => run_next_any (P := Tryz.prog) w s k ty hlt
     have hle:=decode_le s k
     by_cases hd:isDg s[k]=true
     · rw [dec_yes s k hlt hd] at hnx hle
       have hd1:=zcV.1 hd
       have hd9:=dgV_le hd
       have HTA:=Lib.hid (show ((bl s).take (k+1)).all isDg=true by rw [zdT s k hlt];exact zed _ _ HA.out hd)
       have HDI:=Lib.hid (show zei ((s[k].toNat:Nat):Int)=(dgV s[k]:Nat) by unfold zei;rw [if_neg (by omega),zhy hd])
       generalize dgV s[k]=d at *
       generalize s[k].toNat=c at *
       clear hd
       simp only at hnx hle
       go_wp2_with (go_at_call 226;refine (zcH _ _ (by omega) (by omega)).mono ?_;rintro e w' ⟨rfl,rfl⟩;rw [HDI.out])
       go_roundw
       case rel=>exact ⟨k+1,by omega,rfl,HTA⟩
       case measure=>simp;omega
     · have hd2 : isDg s[k] = false := by simpa using hd
       have HDI:=Lib.hid (dec_no s k hlt hd2)
       have HF:=Lib.hid (show V=false by rw [HV.out];exact zfW (bl_mem s k hlt) hd2)
       clear hd hd2
       go_wp2_with (go_at_call 226;refine (zcH _ _ (by omega) (by omega)).mono ?_;rintro e w' ⟨rfl,rfl⟩;rw [HDI.out])
       go_ret
       exact ⟨zbH (HF.out).symm,zcK _ _ _⟩
   · obtain rfl : k = s.size := by omega
     have hnx:=fun ty=>run_next_end (P:=Tryz.prog) w s s.size ty hlt
     have htk:(bl s).take s.size=bl s:=by rw [←zaL];exact List.take_length
     have HR:=Lib.hid (show V=true by rw [HV.out,←htk];exact HA.out)
     clear htk
     go_wp2
     go_ret
     exact ⟨zbH (HR.out).symm,zcK _ _ _⟩
def zhX (w:World) (v v':Value):Prop:=∀b,v'.ownBlock=some b→v.ownBlock=some b∨w.heap.size≤b
theorem zhz {P:Program} (w:World) (base:Nat) (t ty e:TypeId) (i:TypeInfo) (z:Value) (size bytes:Nat) (ht:P.underlying t=some (.slice e)) (hi:P.info? e=some i) (hz:i.zero=some z)
   (hsize:i.size=size) (hby:i.bytes=bytes) (hzs:z.cells.size=size) (hsz:0<size)
   (v:Value) (n:Nat) (xs:List Value) (hown:w.ownsRow base e size v n xs)
   (a:Addr) (m c:Nat) (news:List Value) (hl:news.length=m * size) (hnews:∀j u,news[j]?=some u→w.cell? (a.add j)=some u) (h1:∀u∈news,u.oneCell'=true)
   (h63:n+m≤maxLen) (hbytes:(n+m) * bytes≤140737488355328) (hbase:base≤w.heap.size) :
   ∃v' w',(Builtin.append_ #[t,t] ty #[v,.slice (some a) m c]).run P w=.ok v' w'∧w'.ownsRow base e size v' (n+m) (xs++news)∧w.grownBy w' v.ownBlock ∧
     (v'=.slice none 0 0↔v=.slice none 0 0∧m=0)∧zhX w v v':=by
 obtain ⟨v',w',hr,h2,h3,h4⟩:=run_append_own (P:=P) w base t ty e i z size bytes ht hi hz hsize hby hzs hsz v n xs hown a m c news hl hnews h1 h63 hbytes hbase
 refine ⟨v',w',hr,h2,h3,h4,?_⟩
 have hsmall:n+m≤9223372036854775807:=by simp only [maxLen] at h63;omega
 rcases hown.2 with ⟨rfl,hx⟩|⟨g,cap,cur,rfl,hbg,hg,hnc,hcm,hcs,htake⟩
 · obtain ⟨v2,w2,hr2,g2,_,_⟩:=run_append_own (P:=P) w w.heap.size t ty e i z size bytes ht hi hz hsize hby hzs hsz _ n xs ⟨hown.1,.inl ⟨rfl,hx⟩⟩ a m c news hl hnews h1 h63 hbytes (Nat.le_refl _)
   rw [hr] at hr2
   simp only [Result.ok.injEq] at hr2
   obtain ⟨rfl,rfl⟩:=hr2
   exact fun b hb=>.inr (g2.lt b hb).1
 · subst hsize hby
   by_cases hroom:n+m≤cap
   · have hfit : n * i.size + news.length ≤ cur.size := by rw [hl, hcs, ← Nat.add_mul]; exact Nat.mul_le_mul_right _ hroom
     have hr2:=run_append_room (P:=P) w t ty e i ht hi g n cap cur hg a m c news hl hnews h1 hroom hfit
     rw [hr] at hr2
     simp only [Result.ok.injEq] at hr2
     obtain ⟨rfl,rfl⟩:=hr2
     exact fun b hb=>.inl hb
   · have hr2 := run_append_grow (P := P) w t ty e i z ht hi hz ⟨g, 0, none⟩ n cap xs hown.1 (hown.cells (g := g) rfl) a m c news hl hnews (by omega) (by omega) (growslice_fits (by omega) hbytes)
     rw [hr] at hr2
     simp only [Result.ok.injEq] at hr2
     obtain ⟨rfl,rfl⟩:=hr2
     intro b hb
     simp [Value.ownBlock] at hb
     right;omega
theorem zef {P:Program} {w:World} {ops:Array Oper} {rest:List Oper} {o:Oper} {a:Act} {Q:Exit→Act→World→Prop} {t e:TypeId} {z:Value} {size bytes:Nat} (T:zfp P t e z size bytes)
   (hgd:o.guard=none) (s x:Operand) (ho:o.op=.call { callee:=.builtin .append,args:=#[s,x],argTypes:=#[t,t] })
   (base:Nat) (v:Value) (n:Nat) (xs:List Value) (hs:a.eval s=v) (hown:w.ownsRow base e size v n xs)
   (ao:Option Addr) (m c:Nat) (news:List Value) (hx:a.eval x=.slice ao m c) (hr:Row w size ao m c news) (h1:∀u∈news,u.oneCell'=true)
   (h63:n+m≤maxLen) (hbytes:(n+m) * bytes≤140737488355328) (hbase:base≤w.heap.size)
   (h:∀v' w',w'.ownsRow base e size v' (n+m) (xs++news)→w.grownBy w' v.ownBlock→zhX w v v'→wpList P ops Q rest (a.put o.dst v') w'):wpList P ops Q (o::rest) a w:=by
 obtain ⟨i,hi,hz,hs',hb⟩:=info_parts T.info
 subst hb
 obtain ⟨r1,r2,r3,r4,r5⟩:=hr
 cases ao with
 | some ad =>
   refine wpList_plain hgd fun K hK=>?_
   obtain ⟨v', w', hrun, g2, g3, _, g5⟩ := zhz (P := P) w base t o.type e i z size i.bytes T.und hi hz hs' rfl T.cells T.pos v n xs hown ad m c news r1 (fun j u hj => by
     by_cases hm:0<m
     · obtain ⟨b,off,hab,_,hc⟩:=r5 hm
       obtain rfl:=Option.some.inj hab
       rw [Addr.add_lit];exact hc j u hj
     · obtain rfl : m = 0 := by omega
       have:news=[]:=List.eq_nil_of_length_eq_zero (by simpa using r1)
       subst this;simp at hj) h1 h63 hbytes hbase
   unfold Oper.wp
   simp [execOp,ho,resolve,invoke,builtin,hs,hx,hrun,Result.andThen]
   exact hK _ _ (h v' w' g2 g3 g5)
 | none =>
   obtain rfl:=r4 rfl
   obtain rfl:m=0:=by omega
   have:news=[]:=List.eq_nil_of_length_eq_zero (by simpa using r1)
   subst this
   refine wpList_plain hgd fun K hK=>?_
   have hrun:=run_append_owned_none (P:=P) w base t o.type e i size T.und hi v n xs hown
   unfold Oper.wp
   simp [execOp,ho,resolve,invoke,builtin,hs,hx,hrun,Result.andThen]
   exact hK _ _ (h v w (by simpa using hown) ⟨rfl,rfl,rfl,Nat.le_refl _,fun _ _ _=>rfl⟩ (fun b hb=>.inl hb))
structure Keeps (S:Nat→Prop) (w w':World):Prop where
 os:w'.os=w.os
 tape:w'.tape=w.tape
 output:w'.output=w.output
 size:w.heap.size≤w'.heap.size
 block:∀b,b<w.heap.size→¬S b→w'.heap[b]?=w.heap[b]?
theorem Keeps.refl (S:Nat→Prop) (w:World):Keeps S w w:=⟨rfl,rfl,rfl,Nat.le_refl _,fun _ _ _=>rfl⟩
theorem Keeps.trans {S S':Nat→Prop} {a b c:World} (h:Keeps S a b) (k:Keeps S' b c) (hS:∀x,S' x→S x∨a.heap.size≤x):Keeps S a c :=
 ⟨k.os.trans h.os,k.tape.trans h.tape,k.output.trans h.output,Nat.le_trans h.size k.size,fun x hx hn=>(k.block x (Nat.lt_of_lt_of_le hx h.size) (fun e=>(hS x e).elim hn (fun h=>by omega))).trans (h.block x hx hn)⟩
theorem Keeps.of_grown {S:Nat→Prop} {w w':World} {row:Option Nat} (h:w.grownBy w' row) (hr:∀k,row=some k→S k):Keeps S w w' :=
 ⟨h.os,h.tape,h.output,h.size,fun b hb hn=>h.block b hb (fun e=>hn (hr b e.symm))⟩
theorem Keeps.of_below {S:Nat→Prop} {w w':World} {B:Nat} (h:Below B w w') (hS:∀b,B≤b→S b):Keeps S w w' :=
 ⟨h.os,h.tape,h.output,h.size,fun b _ hn=>h.block b (Nat.lt_of_not_le fun e=>hn (hS b e))⟩
theorem Keeps.below {S:Nat→Prop} {w w':World} {B:Nat} (h:Keeps S w w') (hB:B≤w.heap.size) (hS:∀b,S b→B≤b):Below B w w' :=
 ⟨h.os,h.tape,h.output,h.size,fun b hb=>h.block b (by omega) (fun e=>by have:=hS b e;omega)⟩
theorem Keeps.cell {S:Nat→Prop} {w w':World} (h:Keeps S w w') {b o:Nat} {v:Value} (hc:w.cell? ⟨b,o,none⟩=some v) (hn:¬S b):w'.cell? ⟨b,o,none⟩=some v:=by
 have hlt:b<w.heap.size:=World.block_lt_of_cell? w _ hc
 rw [World.cell?_of_block (w:=w) (a:=⟨b,o,none⟩) (h.block b hlt hn)];exact hc
theorem Keeps.obj {S:Nat→Prop} {w w':World} (h:Keeps S w w') {b:Nat} {o:Obj} (hc:w.heap[b]?=some o) (hn:¬S b):w'.heap[b]?=some o:=by
 rw [h.block b (Array.getElem?_eq_some_iff.1 hc).1 hn];exact hc
theorem Row.keeps {S:Nat→Prop} {w w':World} {sz:Nat} {a:Option Addr} {n cap:Nat} {xs:List Value} (h:Row w sz a n cap xs) (hk:Keeps S w w') (hne:∀x,a=some x→¬S x.block):Row w' sz a n cap xs:=by
 obtain ⟨h1,h2,h3,h4,h5⟩:=h
 refine ⟨h1,h2,h3,h4,fun hn=>?_⟩
 obtain ⟨b,off,ha,hlt,hc⟩:=h5 hn
 exact ⟨b,off,ha,Nat.lt_of_lt_of_le hlt hk.size,fun j u hj=>hk.cell (hc j u hj) (hne _ ha)⟩
theorem za8 {S:Nat→Prop} {w w':World} {base e sz:Nat} {v:Value} {n:Nat} {xs:List Value} (h:w.ownsRow base e sz v n xs) (hk:Keeps S w w') (hne:∀b,v.ownBlock=some b→¬S b):w'.ownsRow base e sz v n xs:=by
 obtain ⟨h1,h2⟩:=h
 refine ⟨h1,?_⟩
 rcases h2 with h2|⟨g,cap,cur,hv,hg,hh,r⟩
 · exact .inl h2
 · exact .inr ⟨g,cap,cur,hv,hg,hk.obj hh (hne g (by rw [hv];rfl)),r⟩
theorem Keeps.weaken {S S':Nat→Prop} {w w':World} (h:Keeps S w w') (hS:∀b,S b→S' b):Keeps S' w w':=⟨h.os,h.tape,h.output,h.size,fun b hb hn=>h.block b hb (fun e=>hn (hS b e))⟩
theorem Keeps.drewN {S:Nat→Prop} {w w':World} (h:Keeps S w w') (q:Nat):Keeps S w (w'.drewN q):=⟨h.os,h.tape,h.output,h.size,h.block⟩
theorem Keeps.alloc {S:Nat→Prop} {w w':World} (h:Keeps S w w') (o:Obj):Keeps S w (w'.alloc o) :=
 ⟨h.os,h.tape,h.output,by rw [zal];have:=h.size;omega,fun b hb hn=>(Below.heap_alloc w' o b (Nat.lt_of_lt_of_le hb h.size)).trans (h.block b hb hn)⟩
theorem Keeps.setCell {S:Nat→Prop} {w w':World} (h:Keeps S w w') {a:Addr} (ha:S a.block∨w.heap.size≤a.block) (v:Value):Keeps S w (w'.setCell a v) :=
 ⟨h.os,h.tape,h.output,by simpa [World.setCell] using h.size,fun b hb hn=>(heap_setCell_other w' a b v (fun e=>by rcases ha with h1|h1;exact hn (e▸h1);omega)).trans (h.block b hb hn)⟩
theorem Keeps.grown {S:Nat→Prop} {w w' w2:World} {row:Option Nat} (h:Keeps S w w') (hg:w'.grownBy w2 row) (hr:∀k,row=some k→S k∨w.heap.size≤k):Keeps S w w2 :=
 h.trans (Keeps.of_grown (S:=fun k=>row=some k) hg fun _ hk=>hk) hr
def mkB (l:List UInt8):ByteArray:=⟨l.toArray⟩
theorem zaI (l:List UInt8):(mkB l).size=l.length:=by unfold mkB;simp [ByteArray.size]
def linC (l:LinD):List Value:=[.int .i64 l.len,.int .i64 l.at_,.int .i64 l.n,.int .i64 l.obj,.int .i64 l.fin,.int .i64 l.pages,.int .i64 l.main]
def linA (l:LinD):Value:=.agg #[.int .i64 l.len,.int .i64 l.at_,.int .i64 l.n,.int .i64 l.obj,.int .i64 l.fin,.int .i64 l.pages,.int .i64 l.main]
def wi (n f t:Int):Bool:=decide (f≤n)&&decide (n≤t)
theorem linOk_wi (l:LinD):zdN l=(wi l.len 1 2147483647&&(wi l.obj 1 4096&&(wi l.pages 1 2048&&(wi l.at_ 0 l.fin&&(wi l.n 1 l.fin&&(decide (l.fin≤l.main)&&(decide (l.main<l.len)&&decide (l.n≤l.fin-l.at_)))))))):=rfl
theorem zeK (n f t : Int) (w : World) : Calls Tryz.prog 15 #[.int .i64 n, .int .i64 f, .int .i64 t] w fun e w' => e = .returned (.bool (wi n f t)) ∧ w = w' := by
 unfold wi
 by_cases h:f≤n
 · have h1:decide (n≥f)=true:=decide_eq_true h
   rw [decide_eq_true h,Bool.true_and]
   clear h
   go_enter Tryz.func15,Tryz.ntmps15
   go_wp2
   go_ret
   exact ⟨rfl,rfl⟩
 · have h1:decide (n≥f)=false:=decide_eq_false h
   rw [decide_eq_false h,Bool.false_and]
   clear h
   go_enter Tryz.func15,Tryz.ntmps15
   go_wp2
   go_ret
   exact ⟨rfl,rfl⟩
theorem za4 {w:World} {b:Nat} {x0 x1 x2 x3 x4 x5 x6:Value} {t:TypeId} (h:w.heap[b]?=some (.cells #[x0,x1,x2,x3,x4,x5,x6] t (0,0))) :
   w.cell? ⟨b,0,none⟩=some x0∧w.cell? ⟨b,1,none⟩=some x1∧w.cell? ⟨b,2,none⟩=some x2∧w.cell? ⟨b,3,none⟩=some x3∧w.cell? ⟨b,4,none⟩=some x4∧w.cell? ⟨b,5,none⟩=some x5∧w.cell? ⟨b,6,none⟩=some x6:=by
 refine ⟨?_,?_,?_,?_,?_,?_,?_⟩<;>(rw [cell_of_row w b _ _ _ _ h];rfl)
def zg4 (w:World) (l:LinD) (e:Ending) (w':World):Prop:=e=.returned (.int .i64 (chkL l))∧Below w.heap.size w w'
theorem zdp (l:LinD) (w:World):Calls Tryz.prog 10 #[linA l] w (zg4 w l):=by
 have HB:=Lib.hid (zah w (.cells #[.int .i64 l.len,.int .i64 l.at_,.int .i64 l.n,.int .i64 l.obj,.int .i64 l.fin,.int .i64 l.pages,.int .i64 l.main] 23))
 have HK:=Lib.hid (zac (w:=w) (b:=w.heap.size) (.cells #[.int .i64 l.len,.int .i64 l.at_,.int .i64 l.n,.int .i64 l.obj,.int .i64 l.fin,.int .i64 l.pages,.int .i64 l.main] 23) rfl)
 unfold zg4 chkL
 rw [linOk_wi]
 unfold linA
 obtain ⟨a,b,c,d,e,f,g⟩:=l
 dsimp only at *
 have HS:Hid ((wi a 1 2147483647=true∧wi d 1 4096=true∧wi f 1 2048=true∧(wi b 0 e=true∧wi c 1 e=true∧decide (e≤g)=true∧decide (g<a)=true))→IntKind.i64.wrap (e-b)=e-b):=Lib.hid (by
   rintro ⟨h1,-,-,h2,h3,h4,h5⟩
   unfold wi at h1 h2 h3
   simp only [Bool.and_eq_true,decide_eq_true_eq] at h1 h2 h3 h4 h5
   exact IntWalk.i64_in _ (by omega))
 have hs:wi a 1 2147483647=false∨(wi a 1 2147483647=true∧wi d 1 4096=false)∨(wi a 1 2147483647=true∧wi d 1 4096=true∧wi f 1 2048=false)∨(wi a 1 2147483647=true∧wi d 1 4096=true∧wi f 1 2048=true):=by
   cases wi a 1 2147483647<;>cases wi d 1 4096<;>cases wi f 1 2048<;>simp
 have ho:wi b 0 e=false∨(wi b 0 e=true∧wi c 1 e=false)∨(wi b 0 e=true∧wi c 1 e=true∧decide (e≤g)=false)∨(wi b 0 e=true∧wi c 1 e=true∧decide (e≤g)=true∧decide (g<a)=false)∨(wi b 0 e=true∧wi c 1 e=true∧decide (e≤g)=true∧decide (g<a)=true):=by
   cases wi b 0 e<;>cases wi c 1 e<;>cases decide (e≤g)<;>cases decide (g<a)<;>simp
 have hr:(decide (c≤e-b)=true∧decide (c > e-b)=false)∨(decide (c≤e-b)=false∧decide (c > e-b)=true):=by
   by_cases h:c≤e-b
   · exact .inl ⟨decide_eq_true h,decide_eq_false (by omega)⟩
   · exact .inr ⟨decide_eq_false h,decide_eq_true (by omega)⟩
 rcases hs with h1|⟨h1,h2⟩|⟨h1,h2,h3⟩|⟨h1,h2,h3⟩<;>rcases ho with g1|⟨g1,g2⟩|⟨g1,g2,g3⟩|⟨g1,g2,g3,g4⟩|⟨g1,g2,g3,g4⟩
 case inr.inr.inr.inr.inr.inr.inr =>
   have hw:=HS.out ⟨h1,h2,h3,g1,g2,g3,g4⟩
   rcases hr with ⟨k1,k2⟩|⟨k1,k2⟩<;>(
     rw [h1,h2,h3,g1,g2,g3,g4,k1]
     go_enter Tryz.func10,Tryz.ntmps10
     go_upto_region 1 with fail
     obtain ⟨q,hq⟩:∃q,q=w.heap.size:=⟨_,rfl⟩
     rw [←hq] at HK ⊢
     clear hq
     generalize w.alloc _=W at *
     have hK:=HK.out
     obtain ⟨c0,c1,c2,c3,c4,c5,c6⟩:=za4 hK
     go_wp2_with (go_at_call 15;refine (zeK _ _ _ _).mono ?_;rintro e w' ⟨rfl,rfl⟩)
     go_ret
     exact ⟨rfl,HB.out⟩)
 all_goals
   clear hr HS
   have hI:(wi a 1 2147483647&&(wi d 1 4096&&(wi f 1 2048&&(wi b 0 e&&(wi c 1 e&&(decide (e≤g)&&(decide (g<a)&&decide (c≤e-b))))))))=false:=by simp only [*,Bool.true_and,Bool.false_and,Bool.and_false]
   rw [hI]
   clear hI
   go_enter Tryz.func10,Tryz.ntmps10
   go_upto_region 1 with fail
   obtain ⟨q,hq⟩:∃q,q=w.heap.size:=⟨_,rfl⟩
   rw [←hq] at HK ⊢
   clear hq
   generalize w.alloc _=W at *
   have hK:=HK.out
   obtain ⟨c0,c1,c2,c3,c4,c5,c6⟩:=za4 hK
   go_wp2_with (go_at_call 15;refine (zeK _ _ _ _).mono ?_;rintro e w' ⟨rfl,rfl⟩)
   go_ret
   exact ⟨rfl,HB.out⟩
end Go.Proofs.YtkhcjoomijkfbaaGreatDoor
namespace Go.Proofs.YtkhcjoomijkfbaaGreatDoor
def hexG (d:Nat):UInt8:=if d<10 then UInt8.ofNat (48+d) else UInt8.ofNat (87+d)
def hexB (c:UInt8):List UInt8:=[hexG (c.toNat / 16),hexG (c.toNat % 16)]
def hexF:List UInt8→List UInt8
 | []=>[]
 | c::s=>hexB c++hexF s
def zfb:List UInt8→List UInt8
 | []=>[]
 | c::s=>(if c.toNat<33∨126<c.toNat∨c=35∨isDl c=true then 35::hexB c else [c])++zfb s
def readF (s:List UInt8):Bool:=s.all fun c=>decide (32≤c.toNat)&&decide (c.toNat≤126)
def bareF:List UInt8→List UInt8
 | []=>[]
 | c::s=>(if c=40∨c=41∨c=92 then [92,c] else [c])++bareF s
def textF (s:List UInt8):List UInt8:=if readF s=true then 40::(bareF s++[41]) else 60::(hexF s++[62])
mutual
def formV:PV→List UInt8
 | .mk k n s l =>
   if k=0 then [110,117,108,108]
   else if k=1 then (if n=0 then [102,97,108,115,101] else [116,114,117,101])
   else if k=2∨k=3 then (zc7 k n true).1
   else if k=4 then textF s
   else if k=5 then 47::zfb s
   else if k=8 then (zc7 2 n true).1++[32,48,32,82]
   else if k=6 then 91::(rowF l++[93])
   else if k=7 then 60::60::(rowF l++[62,62])
   else []
def rowF:List PV→List UInt8
 | []=>[]
 | x::l=>formV x++moreF l
def moreF:List PV→List UInt8
 | []=>[]
 | x::l=>32::(formV x++moreF l)
end
theorem zhT:∀d,d<16→isRg (hexG d)=true∧hexD (hexG d)=(d:Int)∧isSp (hexG d)=false∧hexG d≠62∧hexG d≠35:=by
 have:∀d:Fin 16,isRg (hexG d.1)=true∧hexD (hexG d.1)=(d.1:Int)∧isSp (hexG d.1)=false∧hexG d.1≠62∧hexG d.1≠35:=by decide
 exact fun d hd=>this ⟨d,hd⟩
theorem byte_hex (c:UInt8):UInt8.ofNat (16 * ((c.toNat / 16:Nat):Int)+((c.toNat % 16:Nat):Int)).toNat=c:=by
 have h:(16 * ((c.toNat / 16:Nat):Int)+((c.toNat % 16:Nat):Int)).toNat=c.toNat:=by omega
 rw [h]
 exact UInt8.ofNat_toNat
theorem hex_lt (c:UInt8):c.toNat / 16<16∧c.toNat % 16<16:=by
 have:=c.toNat_lt
 omega
theorem zdP:∀(s out:List UInt8),zbA out (zfb s)=some (out++s)
 | [],out=>by simp [zfb,zbA]
 | c :: s, out => by
   obtain ⟨h1,h2⟩:=hex_lt c
   obtain ⟨-,a2,-,-,-⟩:=zhT _ h1
   obtain ⟨-,b2,-,-,-⟩:=zhT _ h2
   simp only [zfb]
   split
   · simp only [hexB,List.cons_append,List.nil_append]
     rw [zbA,if_pos rfl,if_neg (by rw [a2,b2];omega),a2,b2,byte_hex,zdP s]
     simp
   · rename_i hn
     simp only [List.cons_append,List.nil_append]
     have hc:¬c=35:=fun e=>hn (.inr (.inr (.inl e)))
     have hstep:zbA out (c::zfb s)=zbA (out++[c]) (zfb s):=by
       rw [zbA.eq_def]
       simp only [if_neg hc]
     rw [hstep,zdP s]
     simp
theorem nameF_rg:∀(s:List UInt8),∀x∈zfb s,isRg x=true
 | [],x,hx=>by cases hx
 | c :: s, x, hx => by
   obtain ⟨h1,h2⟩:=hex_lt c
   simp only [zfb] at hx
   rcases List.mem_append.1 hx with hx|hx
   · split at hx
     · simp only [hexB,List.mem_cons,List.not_mem_nil,or_false] at hx
       rcases hx with rfl|rfl|rfl
       · decide
       · exact (zhT _ h1).1
       · exact (zhT _ h2).1
     · rename_i hn
       rw [List.mem_singleton.1 hx]
       have hd:isDl c=false:=by
         cases h:isDl c with
         | false=>rfl
         | true=>exact absurd (.inr (.inr (.inr h))) hn
       have hs:isSp c=false:=by
         have hc:¬c.toNat<33:=fun h=>hn (.inl h)
         unfold isSp
         simp only [Bool.or_eq_false_iff,beq_eq_false_iff_ne]
         refine ⟨⟨⟨⟨⟨?_,?_⟩,?_⟩,?_⟩,?_⟩,?_⟩<;>(rintro rfl;exact hc (by decide))
       unfold isRg
       rw [hd,hs]
       rfl
   · exact nameF_rg s x hx
def zhg (post:List UInt8):Prop:=∀c t,post=c::t→isRg c=false
theorem run_stop {w post:List UInt8} (hw:∀x∈w,isRg x=true) (hp:zhg post):(w++post).takeWhile isRg=w∧(w++post).dropWhile isRg=post:=by
 induction w with
 | nil =>
   cases post with
   | nil=>exact ⟨rfl,rfl⟩
   | cons c t =>
     have:=hp c t rfl
     simp [this]
 | cons x w ih =>
   obtain ⟨i1,i2⟩:=ih fun y hy=>hw y (List.mem_cons_of_mem _ hy)
   have hx:=hw x (List.mem_cons_self)
   rw [List.cons_append]
   simp only [List.takeWhile_cons,List.dropWhile_cons,hx,if_pos]
   exact ⟨by rw [i1],i2⟩
theorem dg_rg {c:UInt8} (h:isDg c=true):isRg c=true:=by
 have h0:∀n:Fin 256,isDg (UInt8.ofNat n.1)=true→isRg (UInt8.ofNat n.1)=true:=by decide +kernel
 have h1:=h0 ⟨c.toNat,c.toNat_lt⟩
 rw [show UInt8.ofNat c.toNat=c from UInt8.ofNat_toNat] at h1
 exact h1 h
theorem tok_run {last:Bool} {c:UInt8} {w post:List UInt8} (hw:∀x∈c::w,isRg x=true) (hp:zhg post) (hl:post=[]→last=true) :
   tokV last c (w++post)=if isDg c=true∨c=43∨c=45∨c=46 then ((zaF (c::w)).2.2,{ kind:=1,vk:=(zaF (c::w)).1,vn:=(zaF (c::w)).2.1 },post) else (0,{ kind:=6,s:=c::w },post):=by
 obtain ⟨r1,r2⟩:=run_stop hw hp
 have hc:isRg c=true:=hw c (List.mem_cons_self)
 unfold tokV
 rw [if_pos hc]
 simp only
 rw [show c::(w++post)=(c::w)++post from rfl,r1,r2]
 rw [if_neg (by rintro ⟨h1,h2⟩;rw [hl h1] at h2;cases h2)]
theorem tok_name {last:Bool} {s post:List UInt8} (hs:¬(127<s.length∨(0:UInt8)∈s)) (hp:zhg post) (hl:post=[]→last=true) :
   tokV last 47 (zfb s++post)=(0,{ kind:=1,vk:=5,vs:=s },post):=by
 obtain ⟨r1,r2⟩:=run_stop (nameF_rg s) hp
 unfold tokV
 rw [if_neg (by decide),if_neg (by decide),if_neg (by decide),if_neg (by decide),if_neg (by decide),if_neg (by decide),if_pos rfl]
 simp only
 rw [r1,r2,if_neg (by rintro ⟨h1,h2⟩;rw [hl h1] at h2;cases h2)]
 unfold zfK
 rw [zdP]
 simp only [List.nil_append]
 rw [if_neg hs]
def NxS (last:Bool) (post:List UInt8) (x:Tk) (r:List UInt8):Prop:=(post=[]∧last=true∧x={ kind:=0 }∧r=[])∨∃(sp:Bool) (c:UInt8) (t:List UInt8),post=(if sp then [32] else [])++c::t∧isSp c=false∧c≠37∧tokV last c t=(0,x,r)
def NotR (x:Tk):Prop:=¬(x.kind=6∧x.s=[82])
def firstT:PV→Tk
 | .mk k n s _ =>
   if k=0 then { kind:=6,s:=[110,117,108,108] }
   else if k=1 then { kind:=6,s:=if n=0 then [102,97,108,115,101] else [116,114,117,101] }
   else if k=2∨k=3 then { kind:=1,vk:=k,vn:=n }
   else if k=4 then { kind:=1,vk:=4,vs:=s }
   else if k=5 then { kind:=1,vk:=5,vs:=s }
   else if k=8 then { kind:=1,vk:=2,vn:=n }
   else if k=6 then { kind:=2 } else { kind:=4 }
def restT:PV→List UInt8
 | .mk k _ _ l=>if k=8 then [32,48,32,82] else if k=6 then rowF l++[93] else if k=7 then rowF l++[62,62] else []
theorem dg_sp {c:UInt8} (h:isRg c=true):isSp c=false∧c≠37:=by
 unfold isRg at h
 simp only [Bool.and_eq_true,Bool.not_eq_true'] at h
 refine ⟨h.1,?_⟩
 rintro rfl
 exact absurd h.2 (by decide)
theorem zeA {n:Int} (h1:1≤n) (h2:n≤4096):zaS 2 n true=0:=by
 unfold zaS
 rw [if_pos ⟨rfl,.inl ⟨rfl,by omega,by omega⟩⟩]
def zgD (last:Bool) (post:List UInt8):Prop:=zhg post∧(post=[]→last=true)
theorem word_tok {last:Bool} {c:UInt8} {w post:List UInt8} (hw:∀x∈c::w,isRg x=true) (hd:¬(isDg c=true∨c=43∨c=45∨c=46)) (hp:zgD last post):tokV last c (w++post)=(0,{ kind:=6,s:=c::w },post):=by
 rw [tok_run hw hp.1 hp.2,if_neg hd]
def NxS2 (last:Bool) (post:List UInt8) (x:Tk) (r:List UInt8):Prop:=NxS last post x r∧∃u,post=u++r
structure Good2 (last:Bool) (post:List UInt8):Prop where
 stop:zgD last post
 nx:∃x r,NxS2 last post x r∧NotR x∧(zaH x=true→∃y q,NxS2 last r y q∧NotR y)
def BackAt (last:Bool) (d:Nat):Prop:=∀v,zbI v=0→zcj v≤d→∀pre post,(Good2 last post∨v.kind=7) →
 vlD (pre++(formV v++post)) last d (firstT v) (((pre++(formV v++post)).length:Int)-(restT v++post).length)=(v,((pre++(formV v++post)).length:Int)-post.length,0)
def padN (n:Int):List UInt8:=padL n.toNat 10
def obj0:List UInt8:=[32,48,32,111,98,106,10]
def tx1:List UInt8:=[60,60,47,76,105,110,101,97,114,105,122,101,100,32,49,47,76,32]
def txH:List UInt8:=[47,72,32,91]
def txO:List UInt8:=[93,47,79,32]
def txE:List UInt8:=[47,69,32]
def txN:List UInt8:=[47,78,32]
def txT:List UInt8:=[47,84,32]
def txX:List UInt8:=[62,62,10,101,110,100,111,98,106,10]
def linB (n:Int) (l:LinD):List UInt8 :=
 decL n.toNat++(obj0++(tx1++(padN l.len++(txH++(padN l.at_++(32::(padN l.n++(txO++(padN l.obj++(txE++(padN l.fin++(txN++(padN l.pages++(txT++(padN l.main++txX)))))))))))))))
def linT (l:LinD) (post:List UInt8):List UInt8 :=
 tx1++(padN l.len++(txH++(padN l.at_++(32::(padN l.n++(txO++(padN l.obj++(txE++(padN l.fin++(txN++(padN l.pages++(txT++(padN l.main++(62::62::post))))))))))))))
theorem linB_is (n:Int) (l:LinD) (behind:List UInt8):linB n l++behind=decL n.toNat++(32::48::32::111::98::106::10::linT l (10::101::110::100::111::98::106::10::behind)):=by
 simp [linB,linT,obj0,txX]
def Cur (bs:List UInt8) (k:Int) (post:List UInt8):Prop:=∃pre,bs=pre++post∧k=(pre.length:Int)
def NxG (last:Bool) (post:List UInt8) (x:Tk) (r:List UInt8):Prop :=
 ∃g c t,post=g++c::t∧zaP false (g++c::t)=g.length∧tokV last c t=(0,x,r)∧∃u,post=u++r
theorem zbl {bs post r:List UInt8} {k:Int} {last:Bool} {x:Tk} (hc:Cur bs k post) (h:NxG last post x r):(zae bs k last).1=x∧(zae bs k last).2.2.2=0∧Cur bs (zae bs k last).2.2.1 r:=by
 obtain ⟨pre,rfl,rfl⟩:=hc
 obtain ⟨g,c,t,hp,hs,ht,u,hu⟩:=h
 have hsk:zaW (pre++post) pre.length=pre.length+g.length:=by
   unfold zaW
   rw [if_neg (by omega),if_neg (by rw [hp];simp;omega)]
   simp only [Int.toNat_natCast]
   rw [List.drop_left,hp,hs]
 have hd:(pre++post).drop (pre.length+g.length)=c::t:=by rw [hp,←List.append_assoc,←List.length_append,List.drop_left]
 have hv:zae (pre++post) pre.length last=(x,((pre.length+g.length:Nat):Int),((pre++post).length:Int)-r.length,0):=by
   rw [zcZ last (by omega) (by simp;omega),hsk,zb8 last hd,ht]
   simp only
   rw [if_pos trivial]
 rw [hv]
 refine ⟨rfl,rfl,pre++u,by rw [hu,List.append_assoc],?_⟩
 show ((pre++post).length:Int)-r.length=((pre++u).length:Int)
 rw [hu];simp;omega
theorem skip_sp {c:UInt8} (t:List UInt8) (hs:isSp c=false) (h:c≠37):zaP false (c::t)=0:=by rw [zaP,if_neg h,if_neg (by rw [hs];decide)]
theorem skip_1 (s:UInt8) {c:UInt8} (t:List UInt8) (h1:isSp s=true) (h2:s≠37) (hs:isSp c=false) (h:c≠37):zaP false (s::c::t)=1:=by
 rw [zaP,if_neg h2,if_pos h1,skip_sp t hs h]
def gapS (g:List UInt8):Prop:=∀c t,isSp c=false→c≠37→zaP false (g++c::t)=g.length
theorem zfE {g:List UInt8} (hg:gapS g) {c:UInt8} (t:List UInt8) (hs:isSp c=false) (h:c≠37):zaP false (g++c::t)=g.length:=hg c t hs h
theorem gap0:gapS []:=fun _ t hs h=>skip_sp t hs h
theorem gapB:gapS [32]:=fun _ t hs h=>skip_1 32 t (by decide) (by decide) hs h
theorem gapN:gapS [10]:=fun _ t hs h=>skip_1 10 t (by decide) (by decide) hs h
theorem dg_head {w:List UInt8} (hw:w.all isDg=true) (hl:1≤w.length):∃c t,w=c::t∧isDg c=true∧isSp c=false∧c≠37:=by
 cases w with
 | nil=>simp at hl
 | cons c t =>
   simp only [List.all_cons,Bool.and_eq_true] at hw
   obtain ⟨a,b⟩:=dg_sp (dg_rg hw.1)
   exact ⟨c,t,rfl,hw.1,a,b⟩
theorem parse_digits {w:List UInt8} (hw:w.all isDg=true) (hl:1≤w.length) (hm:valD w≤2147483647):zaF w=(2,((valD w:Nat):Int),0):=by
 have hh:=head_dg (t:=[]) hw hl
 rw [List.append_nil] at hh
 unfold zaF
 have h1:zdM w=1:=by unfold zdM;rw [if_neg hh.1]
 have h2:zdJ w=w:=by unfold zdJ;rw [if_neg (by rintro (h|h);exact hh.1 h;exact hh.2 h)]
 rw [h1,h2,zgO 1 w hw,if_neg (by omega),if_neg (by omega)]
 simp
theorem nx_num {last:Bool} {g w post:List UInt8} (hg:gapS g) (hw:w.all isDg=true) (hl:1≤w.length) (hm:valD w≤2147483647) (hp:zgD last post) :
   NxG last (g++(w++post)) { kind:=1,vk:=2,vn:=((valD w:Nat):Int) } post:=by
 have hpv:=parse_digits hw hl hm
 have hall:∀x∈w,isRg x=true:=fun x hx=>dg_rg (List.all_eq_true.1 hw x hx)
 obtain ⟨c,t,rfl,h1,h2,h3⟩:=dg_head hw hl
 refine ⟨g,c,t++post,rfl,zfE hg _ h2 h3,?_,g++(c::t),by simp⟩
 rw [tok_run hall hp.1 hp.2,if_pos (.inl h1),hpv]
theorem nx_word {last:Bool} {g w post:List UInt8} {c:UInt8} (hg:gapS g) (hw:∀x∈c::w,isRg x=true) (hd:¬(isDg c=true∨c=43∨c=45∨c=46)) (hp:zgD last post) :
   NxG last (g++(c::w++post)) { kind:=6,s:=c::w } post:=by
 obtain ⟨h2,h3⟩:=dg_sp (hw c List.mem_cons_self)
 exact ⟨g,c,w++post,by simp,zfE hg _ h2 h3,word_tok hw hd hp,g++(c::w),by simp⟩
theorem nx_name {last:Bool} {w post:List UInt8} (hn:zfb w=w) (hs:¬(127<w.length∨(0:UInt8)∈w)) (hp:zgD last post):NxG last (47::(w++post)) { kind:=1,vk:=5,vs:=w } post:=by
 refine ⟨[],47,w++post,rfl,skip_sp _ (by decide) (by decide),?_,47::w,by simp⟩
 have:=tok_name (last:=last) (s:=w) (post:=post) hs hp.1 hp.2
 rw [hn] at this
 exact this
theorem nx_one {last:Bool} {g post:List UInt8} {c:UInt8} {x:Tk} (hg:gapS g) (h1:isSp c=false) (h2:c≠37) (ht:tokV last c post=(0,x,post)):NxG last (g++c::post) x post :=
 ⟨g,c,post,rfl,zfE hg _ h1 h2,ht,g++[c],by simp⟩
theorem nx_two {last:Bool} {g post:List UInt8} {c d:UInt8} {x:Tk} (hg:gapS g) (h1:isSp c=false) (h2:c≠37) (ht:tokV last c (d::post)=(0,x,post)):NxG last (g++c::d::post) x post :=
 ⟨g,c,d::post,rfl,zfE hg _ h1 h2,ht,g++[c,d],by simp⟩
theorem zbe {last:Bool} {c:UInt8} (t:List UInt8) (h:isRg c=false):zgD last (c::t):=⟨fun d u e=>by cases e;exact h,fun e=>by cases e⟩
theorem refD_cur {bs post r:List UInt8} {k:Int} {last:Bool} {x:Tk} (hc:Cur bs k post) (h:NxG last post x r) (hx:zaH x=false∨∃y q,NxG last r y q∧NotR y) (n:Int):refD bs last k n=(false,0,0):=by
 obtain ⟨a1,a2,a3⟩:=zbl hc h
 unfold refD
 simp only
 rw [a2,if_neg (by decide),a1]
 rcases hx with hw|⟨y,q,hy,hn⟩
 · rw [if_pos (.inr hw)]
 · by_cases hw:zaH x=false
   · rw [if_pos (.inr hw)]
   · rw [if_neg (by rintro (h | h); exact absurd h (by decide); exact hw h)]
     obtain ⟨b1,b2,-⟩:=zbl a3 hy
     rw [b2,if_neg (by decide),b1,if_pos]
     right
     exact Decidable.byContradiction fun hh=>hn ⟨Decidable.byContradiction fun h=>hh (.inl h),Decidable.byContradiction fun h=>hh (.inr h)⟩
def tkI (n:Nat):Tk:={ kind:=1,vk:=2,vn:=(n:Int) }
def pvI (n:Nat):PV:=.mk 2 (n:Int) [] []
theorem vl_int {bs post r:List UInt8} {k:Int} {last:Bool} {x:Tk} (d n:Nat) (hc:Cur bs k post) (h:NxG last post x r) (hx:zaH x=false∨∃y q,NxG last r y q∧NotR y):vlD bs last (d+1) (tkI n) k=(pvI n,k,0):=by
 unfold vlD tkI
 simp only
 rw [if_neg (by decide),if_neg (by decide),if_neg (by decide),if_neg (by decide)]
 unfold zcy
 rw [if_neg (by show ¬(1:Int)=6;decide),if_pos (show zaH _=true from rfl)]
 simp only
 rw [refD_cur hc h hx]
 simp only
 rw [if_neg (by decide),if_neg (by decide)]
 rfl
theorem dict_one {bs post r1 r2 r3:List UInt8} {k:Int} {last:Bool} {f:Tk→Int→PV×Int×Int} {d g:Nat} {ps:List (PV×PV)} {nm:List UInt8} {y:Tk} {X:PV}
   (hc:Cur bs k post) (hn:NxG last post { kind:=1,vk:=5,vs:=nm } r1) (hy:NxG last r1 y r2) (hd:d≠0) (hf:∀k2,Cur bs k2 r2→∃k3,f y k2=(X,k3,0)∧Cur bs k3 r3) :
   ∃k3,Cur bs k3 r3∧zdS bs last f d (g+1) ps false k=zdS bs last f d g (putK (.mk 5 0 nm [],X) ps) (hasK nm ps) k3:=by
 obtain ⟨a1,a2,a3⟩:=zbl hc hn
 obtain ⟨b1,b2,b3⟩:=zbl a3 hy
 obtain ⟨k3,e,c3⟩:=hf _ b3
 refine ⟨k3,c3,?_⟩
 rw [zdS]
 simp only
 rw [a2,if_neg (by decide),a1,if_neg (by simp),if_neg (by simp),if_neg (by simp),if_neg hd,b2,if_neg (by decide),b1,e]
 simp only
 rw [if_neg (by decide)]
 simp
structure Dgs (w:List UInt8):Prop where
 all:w.all isDg=true
 len:1≤w.length
 max:valD w≤2147483647
theorem arr_two {bs w1 w2 r:List UInt8} {k:Int} {last:Bool} (d g:Nat) (h1:Dgs w1) (h2:Dgs w2) (hc:Cur bs k (w1++(32::(w2++(93::r))))) :
   ∃k3,arrD bs last (vlD bs last (d+1)) (g+3) [] k=(.mk 6 0 [] [pvI (valD w1),pvI (valD w2)],k3,0)∧Cur bs k3 r:=by
 have n3:NxG last (93::r) { kind:=3 } r:=nx_one (g:=[]) gap0 (by decide) (by decide) rfl
 have n2:NxG last (32::(w2++(93::r))) (tkI (valD w2)) (93::r):=nx_num gapB h2.all h2.len h2.max (zbe r (by decide))
 have n1:NxG last (w1++(32::(w2++(93::r)))) (tkI (valD w1)) (32::(w2++(93::r))):=nx_num gap0 h1.all h1.len h1.max (zbe _ (by decide))
 obtain ⟨a1,a2,a3⟩:=zbl hc n1
 obtain ⟨b1,b2,b3⟩:=zbl a3 n2
 obtain ⟨c1,c2,c3⟩:=zbl b3 n3
 have v1:=vl_int d (valD w1) a3 n2 (.inr ⟨_,_,n3,by unfold NotR;decide⟩)
 have v2:=vl_int d (valD w2) b3 n3 (.inl (by decide))
 refine ⟨_,?_,c3⟩
 rw [arrD,a2,if_neg (by decide),a1,if_neg (by show ¬(1:Int)=3;decide),v1]
 simp only
 rw [if_neg (by decide),arrD,b2,if_neg (by decide),b1,if_neg (by show ¬(1:Int)=3;decide),v2]
 simp only
 rw [if_neg (by decide),arrD,c2,if_neg (by decide),c1,if_pos rfl]
 rfl
theorem zds {bs nm w r r4:List UInt8} {k:Int} {last:Bool} {d g:Nat} {ps:List (PV×PV)} {x:Tk} (hc:Cur bs k (47::(nm++(32::(w++r))))) (hn:zfb nm=nm) (hs:¬(127<nm.length∨(0:UInt8)∈nm)) (hw:Dgs w) (hr:zgD last r) (hx:NxG last r x r4) (hx2:zaH x=false) :
   ∃k3,Cur bs k3 r∧zdS bs last (vlD bs last (d+1)) (d+1) (g+1) ps false k=zdS bs last (vlD bs last (d+1)) (d+1) g (putK (.mk 5 0 nm [],pvI (valD w)) ps) (hasK nm ps) k3 :=
 dict_one hc (nx_name hn hs (zbe _ (by decide))) (nx_num gapB hw.all hw.len hw.max hr) (by omega) fun k2 c2=>⟨k2,vl_int d (valD w) c2 hx (.inl hx2),c2⟩
theorem zdr (last:Bool) {w post:List UInt8} (hn:zfb w=w) (hs:¬(127<w.length∨(0:UInt8)∈w)):NxG last (47::(w++(32::post))) { kind:=1,vk:=5,vs:=w } (32::post):=nx_name hn hs (zbe _ (by decide))
def nmV (k:List UInt8):PV:=.mk 5 0 k []
def linPV (l:LinD):PV :=
 .mk 7 0 [] [nmV kE,pvI l.fin.toNat,nmV kH,.mk 6 0 [] [pvI l.at_.toNat,pvI l.n.toNat],nmV kL,pvI l.len.toNat,nmV kLin,pvI 1,nmV kN,pvI l.pages.toNat,nmV kO,pvI l.obj.toNat,nmV kT,pvI l.main.toNat]
theorem zdX {n:Int} (h0:0≤n) (h1:n≤2147483647):Dgs (padN n)∧valD (padN n)=n.toNat:=by
 have hl:=zaQ 9 n.toNat (by omega)
 refine ⟨⟨padL_all _ _,by unfold padN;rw [zeb hl];omega,by unfold padN;rw [zhP];omega⟩,zhP _ _⟩
theorem zaE {n:Int} (h0:0≤n) (h1:n≤2147483647):(padN n).length=10:=zeb (zaQ 9 n.toNat (by omega))
theorem dgs_dec {n:Int} (h0:1≤n) (h1:n≤4096):Dgs (decL n.toNat)∧valD (decL n.toNat)=n.toNat:=by
 obtain ⟨a,b,c⟩:=zbS n.toNat
 exact ⟨⟨a,c,by rw [b];omega⟩,b⟩
theorem lin_val {bs behind:List UInt8} {k:Int} {last:Bool} {l:LinD} (hl:zdN l=true) (hb:30≤bs.length)
   (hc:Cur bs k (10::linT l behind)) :
   ∃k3,zbF bs last k=(linPV l,k3,0)∧Cur bs k3 behind:=by
 obtain ⟨l1,l2,l3,l4,l5,l6,l7,l8,l9,l10,l11,l12,l13⟩:=zdb.1 hl
 obtain ⟨dL,vL⟩:=zdX (n:=l.len) (by omega) (by omega)
 obtain ⟨dA,vA⟩:=zdX (n:=l.at_) (by omega) (by omega)
 obtain ⟨dN,vN⟩:=zdX (n:=l.n) (by omega) (by omega)
 obtain ⟨dO,vO⟩:=zdX (n:=l.obj) (by omega) (by omega)
 obtain ⟨dE,vE⟩:=zdX (n:=l.fin) (by omega) (by omega)
 obtain ⟨dP,vP⟩:=zdX (n:=l.pages) (by omega) (by omega)
 obtain ⟨dM,vM⟩:=zdX (n:=l.main) (by omega) (by omega)
 have d1:Dgs [49]:=⟨by decide,by decide,by decide⟩
 obtain ⟨G,hG⟩:∃G,bs.length+1=G+1+1+1+1+1+1+1+1:=⟨bs.length-7,by omega⟩
 obtain ⟨G2,hG2⟩:∃G,bs.length+1=G+3:=⟨bs.length-2,by omega⟩
 unfold linT at hc
 have t0:NxG last (10::(tx1++(padN l.len++(txH++(padN l.at_++(32::(padN l.n++(txO++(padN l.obj++(txE++(padN l.fin++(txN++(padN l.pages++(txT++(padN l.main++(62::62::behind)))))))))))))))) { kind:=4 } _:=nx_two (g:=[10]) gapN (by decide) (by decide) rfl
 obtain ⟨a1,a2,a3⟩:=zbl hc t0
 unfold zbF
 rw [a2,if_neg (by decide),a1]
 show ∃k3,vlD bs last (63+1) { kind:=4 } _=_∧_
 rw [vlD]
 simp only
 rw [if_neg (by decide),if_neg (by decide),if_pos (by trivial),hG]
 generalize (zae bs k last).2.2.1=k0 at *
 obtain ⟨k1,c1,e1⟩:=zds (d:=62) (g:=G+1+1+1+1+1+1+1) (ps:=[]) (nm:=kLin) (w:=[49]) a3 (by decide) (by decide) d1 (zbe _ (by decide)) (zdr last (w:=kL) (by decide) (by decide)) (by decide)
 obtain ⟨k2,c2,e2⟩:=zds (d:=62) (g:=G+1+1+1+1+1+1) (ps:=putK (.mk 5 0 kLin [],pvI (valD [49])) []) (nm:=kL) (w:=padN l.len) c1 (by decide) (by decide) dL (zbe _ (by decide)) (zdr last (w:=kH) (by decide) (by decide)) (by decide)
 have tH:NxG last (32::91::(padN l.at_++(32::(padN l.n++(txO++(padN l.obj++(txE++(padN l.fin++(txN++(padN l.pages++(txT++(padN l.main++(62::62::behind)))))))))))))  { kind:=2 } _:=nx_one (g:=[32]) gapB (by decide) (by decide) rfl
 obtain ⟨k3, c3, e3⟩ := dict_one (f := vlD bs last (62 + 1)) (d := 62 + 1) (g := G + 1 + 1 + 1 + 1 + 1) (ps := putK (.mk 5 0 kL [], pvI (valD (padN l.len))) (putK (.mk 5 0 kLin [], pvI (valD [49])) [])) (nm := kH) c2 (zdr last (w := kH) (by decide) (by decide)) tH (by decide)
   (fun q cq => by
     obtain ⟨k3,e,c⟩:=arr_two (r:=47::79::32::(padN l.obj++(txE++(padN l.fin++(txN++(padN l.pages++(txT++(padN l.main++(62::62::behind))))))))) 61 G2 dA dN cq
     refine ⟨k3,?_,c⟩
     rw [vlD]
     simp only
     rw [if_neg (by decide),if_pos (by trivial),hG2]
     exact e)
 obtain ⟨k4,c4,e4⟩:=zds (d:=62) (g:=G+1+1+1+1) (ps:=putK (.mk 5 0 kH [],.mk 6 0 [] [pvI (valD (padN l.at_)),pvI (valD (padN l.n))]) (putK (.mk 5 0 kL [],pvI (valD (padN l.len))) (putK (.mk 5 0 kLin [],pvI (valD [49])) []))) (nm:=kO) (w:=padN l.obj) c3 (by decide) (by decide) dO (zbe _ (by decide)) (zdr last (w:=kE) (by decide) (by decide)) (by decide)
 obtain ⟨k5,c5,e5⟩:=zds (d:=62) (g:=G+1+1+1) (ps:=putK (.mk 5 0 kO [],pvI (valD (padN l.obj))) (putK (.mk 5 0 kH [],.mk 6 0 [] [pvI (valD (padN l.at_)),pvI (valD (padN l.n))]) (putK (.mk 5 0 kL [],pvI (valD (padN l.len))) (putK (.mk 5 0 kLin [],pvI (valD [49])) [])))) (nm:=kE) (w:=padN l.fin) c4 (by decide) (by decide) dE (zbe _ (by decide)) (zdr last (w:=kN) (by decide) (by decide)) (by decide)
 obtain ⟨k6,c6,e6⟩:=zds (d:=62) (g:=G+1+1) (ps:=putK (.mk 5 0 kE [],pvI (valD (padN l.fin))) (putK (.mk 5 0 kO [],pvI (valD (padN l.obj))) (putK (.mk 5 0 kH [],.mk 6 0 [] [pvI (valD (padN l.at_)),pvI (valD (padN l.n))]) (putK (.mk 5 0 kL [],pvI (valD (padN l.len))) (putK (.mk 5 0 kLin [],pvI (valD [49])) []))))) (nm:=kN) (w:=padN l.pages) c5 (by decide) (by decide) dP (zbe _ (by decide)) (zdr last (w:=kT) (by decide) (by decide)) (by decide)
 have tX:NxG last (62::62::behind) { kind:=5 } behind:=nx_two (g:=[]) gap0 (by decide) (by decide) rfl
 obtain ⟨k7,c7,e7⟩:=zds (d:=62) (g:=G+1) (ps:=putK (.mk 5 0 kN [],pvI (valD (padN l.pages))) (putK (.mk 5 0 kE [],pvI (valD (padN l.fin))) (putK (.mk 5 0 kO [],pvI (valD (padN l.obj))) (putK (.mk 5 0 kH [],.mk 6 0 [] [pvI (valD (padN l.at_)),pvI (valD (padN l.n))]) (putK (.mk 5 0 kL [],pvI (valD (padN l.len))) (putK (.mk 5 0 kLin [],pvI (valD [49])) [])))))) (nm:=kT) (w:=padN l.main) c6 (by decide) (by decide) dM (zbe _ (by decide)) tX (by decide)
 obtain ⟨x1,x2,x3⟩:=zbl c7 tX
 refine ⟨_,?_,x3⟩
 rw [e1]
 rw [show hasK kLin []=false from rfl,e2]
 rw [show hasK kL (putK (.mk 5 0 kLin [],pvI (valD [49])) [])=false from rfl,e3]
 rw [show hasK kH (putK (.mk 5 0 kL [],pvI (valD (padN l.len))) (putK (.mk 5 0 kLin [],pvI (valD [49])) []))=false from rfl,e4]
 rw [show hasK kO _=false from rfl,e5]
 rw [show hasK kE _=false from rfl,e6]
 rw [show hasK kN _=false from rfl,e7]
 rw [show hasK kT _=false from rfl]
 rw [zdS]
 simp only
 rw [x2,if_neg (by decide),x1,if_pos rfl,if_neg (by decide),vL,vA,vN,vO,vE,vP,vM]
 rfl
theorem one_is {p:Tk→Bool} {V:Tk×Int×Int×Int} {x:Tk} (h1:V.1=x) (h2:V.2.2.2=0) (hk:x.kind≠0) (hp:p x=true):(oneW p V).1=x∧(oneW p V).2.2.1=V.2.2.1∧(oneW p V).2.2.2=0:=by
 unfold oneW
 rw [if_neg (by rw [h2];decide),h1,if_neg hk,if_neg (by rw [hp];decide)]
 exact ⟨rfl,rfl,rfl⟩
def zgG (behind:List UInt8):List UInt8:=10::101::110::100::111::98::106::10::behind
theorem lin_fr {bs g:List UInt8} {n:Int} {l:LinD} (h1:1≤n) (h2:n≤4096) (hl:zdN l=true) (hg:gapS g) (behind:List UInt8) (last:Bool) (hlen:30≤bs.length)
   (c0:Cur bs 0 (g++(decL n.toNat++(32::48::32::111::98::106::10::linT l (zgG behind))))):frR bs last=(0,false)∧(frD bs last).1=linPV l:=by
 obtain ⟨dD,vD⟩:=dgs_dec h1 h2
 have d0:Dgs [48]:=⟨by decide,by decide,by decide⟩
 have nA:NxG last (g++(decL n.toNat++(32::48::32::111::98::106::10::linT l (zgG behind)))) (tkI n.toNat) (32::48::32::111::98::106::10::linT l (zgG behind)):=by
   have:=nx_num (last:=last) hg dD.all dD.len dD.max (zbe (48::32::111::98::106::10::linT l (zgG behind)) (show isRg 32=false by decide))
   rw [vD] at this
   exact this
 have nB:NxG last (32::48::32::111::98::106::10::linT l (zgG behind)) (tkI 0) (32::111::98::106::10::linT l (zgG behind)) :=
   nx_num (g:=[32]) (w:=[48]) gapB d0.all d0.len d0.max (zbe _ (show isRg 32=false by decide))
 have nC:NxG last (32::111::98::106::10::linT l (zgG behind)) { kind:=6,s:=kObj } (10::linT l (zgG behind)) :=
   nx_word (g:=[32]) (c:=111) (w:=[98,106]) gapB (by decide) (by decide) (zbe _ (show isRg 10=false by decide))
 have nE:NxG last (zgG behind) { kind:=6,s:=zck } (10::behind) :=
   nx_word (g:=[10]) (c:=101) (w:=[110,100,111,98,106]) gapN (by decide) (by decide) (zbe _ (show isRg 10=false by decide))
 obtain ⟨a1,a2,a3⟩:=zbl c0 nA
 obtain ⟨o1,o2,o3⟩:=one_is (p:=zaH) a1 a2 (by show (1:Int)≠0;decide) rfl
 have eA:frA bs last=((n.toNat:Int),(zae bs 0 last).2.2.1,0):=by
   unfold frA numS
   rw [if_neg (by decide)]
   dsimp only
   rw [o1,o2,o3,if_neg (by show ¬((0:Int)=0∧((n.toNat:Int)<1∨4096<(n.toNat:Int)));omega)]
   rfl
 obtain ⟨b1,b2,b3⟩:=zbl a3 nB
 obtain ⟨o1,o2,o3⟩:=one_is (p:=zaH) b1 b2 (by unfold tkI;decide) rfl
 have eB:frB bs last=(0,(zae bs (zae bs 0 last).2.2.1 last).2.2.1,0):=by
   unfold frB numS
   rw [eA,if_neg (by simp)]
   dsimp only
   rw [o1,o2,o3,if_neg (by unfold tkI;decide)]
   rfl
 obtain ⟨c1,c2,c3⟩:=zbl b3 nC
 obtain ⟨o1,o2,o3⟩:=one_is (p:=zfY kObj) c1 c2 (by decide) (by decide)
 have eC:frC bs last=((zae bs (zae bs (zae bs 0 last).2.2.1 last).2.2.1 last).2.2.1,0):=by
   unfold frC zbV
   rw [eB,if_neg (by simp)]
   dsimp only
   rw [o2,o3]
 obtain ⟨k3,e3,x3⟩:=lin_val hl hlen c3
 have eD:frD bs last=(linPV l,k3,0):=by
   unfold frD valS
   rw [eC,if_neg (by simp)]
   exact e3
 obtain ⟨z1,z2,-⟩:=zbl x3 nE
 have hs:strE (zae bs k3 last)=0:=by
   unfold strE
   rw [if_neg (by rw [z2];decide),z1]
   decide
 have eE:frE bs last=(false,(zae bs k3 last).2.2.1,0):=by
   unfold frE zek
   rw [eD,if_neg (by simp)]
   dsimp only
   rw [hs,z1]
   rfl
 refine ⟨?_,by rw [eD]⟩
 unfold frR
 rw [eE]
 rfl
theorem ofV_lin {l:LinD} (hl:zdN l=true):ofV (linPV l)=(l,true):=by
 obtain ⟨l1,l2,l3,l4,l5,l6,l7,l8,l9,l10,l11,l12,l13⟩:=zdb.1 hl
 have e:ofV (linPV l)=({ len:=(l.len.toNat:Int),at_:=(l.at_.toNat:Int),n:=(l.n.toNat:Int),obj:=(l.obj.toNat:Int),fin:=(l.fin.toNat:Int),pages:=(l.pages.toNat:Int),main:=(l.main.toNat:Int) },true):=rfl
 rw [e]
 obtain ⟨a,b,c,d,f,g,h⟩:=l
 dsimp only at *
 rw [Int.toNat_of_nonneg (by omega),Int.toNat_of_nonneg (by omega),Int.toNat_of_nonneg (by omega),Int.toNat_of_nonneg (by omega),Int.toNat_of_nonneg (by omega),Int.toNat_of_nonneg (by omega),Int.toNat_of_nonneg (by omega)]
theorem zhQ {n:Int} {l:LinD} (hl:zdN l=true):(linB n l).length=(decL n.toNat).length+123:=by
 obtain ⟨l1,l2,l3,l4,l5,l6,l7,l8,l9,l10,l11,l12,l13⟩:=zdb.1 hl
 have p1:=zaE (n:=l.len) (by omega) (by omega)
 have p2:=zaE (n:=l.at_) (by omega) (by omega)
 have p3:=zaE (n:=l.n) (by omega) (by omega)
 have p4:=zaE (n:=l.obj) (by omega) (by omega)
 have p5:=zaE (n:=l.fin) (by omega) (by omega)
 have p6:=zaE (n:=l.pages) (by omega) (by omega)
 have p7:=zaE (n:=l.main) (by omega) (by omega)
 unfold linB
 simp only [List.length_append,List.length_cons,List.length_nil,obj0,tx1,txH,txO,txE,txN,txT,txX]
 omega
theorem cur_lin {g:List UInt8} (n:Int) (l:LinD) (behind:List UInt8):Cur (g++(linB n l++behind)) 0 (g++(decL n.toNat++(32::48::32::111::98::106::10::linT l (zgG behind)))) :=
 ⟨[],by rw [linB_is];rfl,rfl⟩
theorem lin_back {g:List UInt8} {n:Int} {l:LinD} (h1:1≤n) (h2:n≤4096) (hl:zdN l=true) (hg:gapS g) (behind:List UInt8) (last:Bool) (total:Int) :
   linV (g++(linB n l++behind)) last total=if l.len=total then (l,0) else ({},28):=by
 obtain ⟨a,b⟩:=lin_fr h1 h2 hl hg behind last (by rw [List.length_append,List.length_append,zhQ hl];omega) (cur_lin n l behind)
 unfold linV
 rw [a,b,ofV_lin hl]
 dsimp only
 rw [if_neg (by decide)]
 have hc:chkL l=0:=chkL_iff.2 hl
 by_cases ht:l.len=total
 · rw [if_neg (by simp [hc,ht]),if_pos ht]
 · rw [if_pos (.inr (.inr (.inr (.inr ht)))),if_neg ht]
end Go.Proofs.YtkhcjoomijkfbaaGreatDoor
