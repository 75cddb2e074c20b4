/-
  Our texts NumP to Base, in one.
-/
import Derived.Lib.Hide
import Derived.WalkKit
import Derived.WalkSpells
import Derived.WalkLawsBesides
set_option maxRecDepth 8000
set_option maxHeartbeats 8000000
namespace Go.Proofs.YtfafdeemfeaedaaGreat
theorem snoc_ind {α:Type} {p:List α→Prop} (h0:p []) (h1:∀l c,p l→p (l++[c])) (l:List α):p l:=by
 have h:∀r:List α,p r.reverse:=by
   intro r
   induction r with
   | nil=>exact h0
   | cons c r ih=>rw [List.reverse_cons];exact h1 _ _ ih
 have h2:=h l.reverse
 rwa [List.reverse_reverse] at h2
def isDg (c:UInt8):Bool:=decide (48≤c.toNat)&&decide (c.toNat≤57)
def dgV (c:UInt8):Nat:=c.toNat-48
def decV:List UInt8→Nat→Nat
 | [],n=>n
 | c::l,n=>decV l (10 * n+dgV c)
def valD (l:List UInt8):Nat:=decV l 0
theorem zbc {c:UInt8}:isDg c=true↔48≤c.toNat∧c.toNat≤57:=by unfold isDg;simp
theorem zbE {c:UInt8}:isDg c=false↔c.toNat<48∨57<c.toNat:=by
 rw [←Bool.not_eq_true,zbc];omega
theorem dgV_le {c:UInt8} (h:isDg c=true):dgV c≤9:=by rw [zbc] at h;unfold dgV;omega
theorem zc1 {c:UInt8} (h:isDg c=true):(dgV c:Int)=(c.toNat:Int)-48:=by rw [zbc] at h;unfold dgV;omega
theorem zc9:∀(l m:List UInt8) (n:Nat),decV (l++m) n=decV m (decV l n)
 | [],_,_=>rfl
 | c::l,m,n=>zc9 l m (10 * n+dgV c)
theorem valD_nil:valD []=0:=rfl
theorem zck (l:List UInt8) (c:UInt8):valD (l++[c])=10 * valD l+dgV c:=by unfold valD;rw [zc9];rfl
theorem zdL (l:List UInt8):∀j,valD (l++List.replicate j 48)=valD l * 10 ^ j
 | 0=>by simp
 | j+1=>by
   rw [List.replicate_succ',←List.append_assoc,zck,zdL l j,Nat.pow_succ,show dgV 48=0 from rfl]
   rw [Nat.add_zero,Nat.mul_comm (10 ^ j) 10,←Nat.mul_assoc,←Nat.mul_assoc,Nat.mul_comm (valD l) 10]
theorem zdn (l:List UInt8) (c:UInt8) (h:l.all isDg=true) (hc:isDg c=true):(l++[c]).all isDg=true:=by simp [hc];simpa using h
theorem valD_lt:∀(l:List UInt8),l.all isDg=true→valD l<10 ^ l.length:=by
 refine snoc_ind (fun _=>by decide) fun l c ih=>?_
 · intro h
   rw [List.all_append,Bool.and_eq_true] at h
   have h1:=ih h.1
   have h2:=dgV_le (c:=c) (by simpa using h.2)
   rw [zck,List.length_append,List.length_singleton,Nat.pow_succ]
   omega
def zaJ (l:List UInt8):Int×Int:=if l=[]∨l.all isDg=false then (0,11) else if 2147483647<valD l then (0,5) else (((valD l:Nat):Int),0)
theorem digitsV_nil:zaJ []=(0,11):=by simp [zaJ]
theorem digitsV_form {l:List UInt8} (h:l.all isDg=false):zaJ l=(0,11):=by unfold zaJ;rw [if_pos (.inr h)]
theorem zej {l:List UInt8} (hn:l≠[]) (h:l.all isDg=true) (ho:2147483647<valD l):zaJ l=(0,5):=by
 unfold zaJ;rw [if_neg (by rw [h];simpa using hn),if_pos ho]
theorem zdY {l:List UInt8} (hn:l≠[]) (h:l.all isDg=true) (ho:valD l≤2147483647):zaJ l=(((valD l:Nat):Int),0):=by
 unfold zaJ;rw [if_neg (by rw [h];simpa using hn),if_neg (by omega)]
def mil (r:List UInt8):Nat:=valD ((r++List.replicate 6 48).take 6)
theorem mil_short {r:List UInt8} (h:r.length≤6):mil r=valD r * 10 ^ (6-r.length):=by
 unfold mil
 rw [List.take_append,List.take_of_length_le h,List.take_replicate,Nat.min_eq_left (by omega),zdL]
theorem zfZ {r:List UInt8} (h:6≤r.length):mil r=valD (r.take 6):=by
 unfold mil
 rw [List.take_append_of_le_length h]
theorem mil_snoc_lt (r:List UInt8) (c:UInt8) (h:r.length<6):mil (r++[c])=mil r+10 ^ (5-r.length) * dgV c:=by
 rw [mil_short (by simp;omega),mil_short (by omega),zck,List.length_append,List.length_singleton]
 rw [show 6-r.length=(5-r.length)+1 from by omega,show 6-(r.length+1)=5-r.length from by omega,Nat.pow_succ,Nat.add_mul]
 rw [Nat.mul_comm (dgV c)]
 congr 1
 rw [Nat.mul_comm 10 (valD r),Nat.mul_assoc,Nat.mul_comm 10]
theorem mil_snoc_ge (r:List UInt8) (c:UInt8) (h:6≤r.length):mil (r++[c])=mil r:=by
 rw [zfZ h,zfZ (by simp;omega),List.take_append_of_le_length h]
theorem zfM (r:List UInt8) (h:r.all isDg=true):mil r<1000000:=by
 by_cases hl:r.length≤6
 · have:=valD_lt ((r++List.replicate 6 48).take 6) (by
     rw [List.all_eq_true]
     intro x hx
     have hx:=List.mem_of_mem_take hx
     rw [List.mem_append] at hx
     rcases hx with hx|hx
     · exact List.all_eq_true.1 h x hx
     · rw [List.mem_replicate] at hx;rw [hx.2];rfl)
   unfold mil
   have hlen:((r++List.replicate 6 48).take 6:List UInt8).length=6:=by simp
   rw [hlen] at this
   omega
 · rw [zfZ (by omega)]
   have:=valD_lt (r.take 6) (by rw [List.all_eq_true];intro x hx;exact List.all_eq_true.1 h x (List.mem_of_mem_take hx))
   rw [List.length_take,Nat.min_eq_left (by omega)] at this
   omega
def zcC (s:List UInt8):Int:=if s.head?=some 45 then -1 else 1
def zcG (s:List UInt8):List UInt8:=if s.head?=some 45∨s.head?=some 43 then s.tail else s
def zbj (b:List UInt8):List UInt8:=b.takeWhile (· != 46)
def zca (b:List UInt8):List UInt8:=(b.dropWhile (· != 46)).tail
def zd0 (b:List UInt8):Bool:=b.any (·==46)
def za0 (sg:Int) (b:List UInt8):Int×Int×Int :=
 if (zbj b).length+(zca b).length=0∨(zbj b).all isDg=false∨(zca b).all isDg=false then (0,0,11)
 else if 2147483647<valD (zbj b) then (0,0,5)
 else if zd0 b=false then (2,sg * (valD (zbj b):Nat),0)
 else if 2147483647000000<valD (zbj b) * 1000000+mil (zca b) then (0,0,5)
 else (3,sg * ((valD (zbj b) * 1000000+mil (zca b):Nat):Int),0)
def zaK (s:List UInt8):Int×Int×Int:=za0 (zcC s) (zcG s)
theorem tw_app (w t:List UInt8) (hw:∀x∈w,x≠46):zbj (w++46::t)=w∧zca (w++46::t)=t∧zd0 (w++46::t)=true:=by
 induction w with
 | nil=>simp [zbj,zca,zd0]
 | cons x w ih =>
   have hx:x≠46:=hw x (List.mem_cons_self)
   obtain ⟨h1,h2,h3⟩:=ih fun y hy=>hw y (List.mem_cons_of_mem _ hy)
   refine ⟨?_,?_,by simp [zd0]⟩
   · unfold zbj at *
     rw [List.cons_append,List.takeWhile_cons_of_pos (by simpa using hx),h1]
   · unfold zca at *
     rw [List.cons_append,List.dropWhile_cons_of_pos (by simpa using hx),h2]
theorem tw_none (b:List UInt8) (hb:∀x∈b,x≠46):zbj b=b∧zca b=[]∧zd0 b=false:=by
 induction b with
 | nil=>simp [zbj,zca,zd0]
 | cons x w ih =>
   have hx:x≠46:=hb x (List.mem_cons_self)
   obtain ⟨h1,h2,h3⟩:=ih fun y hy=>hb y (List.mem_cons_of_mem _ hy)
   refine ⟨?_,?_,?_⟩
   · unfold zbj at *
     rw [List.takeWhile_cons_of_pos (by simpa using hx),h1]
   · unfold zca at *
     rw [List.dropWhile_cons_of_pos (by simpa using hx),h2]
   · unfold zd0 at *
     rw [List.any_cons,h3];simpa using hx
theorem dg_ne {x:UInt8} (h:isDg x=true):x≠46:=by rintro rfl;revert h;decide
theorem all_ne {w:List UInt8} (h:w.all isDg=true):∀x∈w,x≠46:=fun x hx=>dg_ne (List.all_eq_true.1 h x hx)
theorem tw_mem (w t:List UInt8) (c:UInt8) (hw:∀x∈w,x≠46) (hc:c≠46):c∈zbj (w++c::t):=by
 induction w with
 | nil=>unfold zbj;rw [List.nil_append,List.takeWhile_cons_of_pos (by simpa using hc)];exact List.mem_cons_self
 | cons x w ih =>
   have hx:x≠46:=hw x (List.mem_cons_self)
   unfold zbj at *
   rw [List.cons_append,List.takeWhile_cons_of_pos (by simpa using hx)]
   exact List.mem_cons_of_mem _ (ih fun y hy=>hw y (List.mem_cons_of_mem _ hy))
theorem zdf {l:List UInt8} {c:UInt8} (h:c∈l) (hc:isDg c=false):l.all isDg=false:=by
 rw [←Bool.not_eq_true,List.all_eq_true];intro h2;rw [h2 c h] at hc;exact absurd hc (by decide)
theorem zbB (sg:Int) (w t:List UInt8) (c:UInt8) (hw:w.all isDg=true) (hc:c≠46) (hd:isDg c=false):za0 sg (w++c::t)=(0,0,11):=by
 unfold za0
 rw [if_pos (.inr (.inl (zdf (tw_mem w t c (all_ne hw) hc) hd)))]
theorem parseB_bad2 (sg:Int) (w r t:List UInt8) (c:UInt8) (hw:w.all isDg=true) (hd:isDg c=false):za0 sg (w++46::(r++c::t))=(0,0,11):=by
 obtain ⟨h1,h2,h3⟩:=tw_app w (r++c::t) (all_ne hw)
 unfold za0
 rw [h2,if_pos (.inr (.inr (zdf (c:=c) (by simp) hd)))]
theorem parseB_int (sg:Int) (b:List UInt8) (h:b.all isDg=true):za0 sg b=if b.length=0 then (0,0,11) else if 2147483647<valD b then (0,0,5) else (2,sg * (valD b:Nat),0):=by
 obtain ⟨h1,h2,h3⟩:=tw_none b (all_ne h)
 unfold za0
 rw [h1,h2,h3]
 by_cases hb:b.length=0
 · rw [if_pos (.inl (by simp [hb])),if_pos hb]
 · rw [if_neg (by rw [h];simp;intro e;exact hb (by simp [e])),if_neg hb];rfl
theorem parseB_real (sg:Int) (w r:List UInt8) (hw:w.all isDg=true) (hr:r.all isDg=true) :
   za0 sg (w++46::r)=if w.length+r.length=0 then (0,0,11) else if 2147483647<valD w∨(valD w=2147483647∧0<mil r) then (0,0,5) else (3,sg * ((valD w * 1000000+mil r:Nat):Int),0):=by
 obtain ⟨h1,h2,h3⟩:=tw_app w r (all_ne hw)
 have hm:=zfM r hr
 unfold za0
 rw [h1,h2,h3]
 by_cases hb:w.length+r.length=0
 · rw [if_pos (.inl hb),if_pos hb]
 · rw [if_neg (by rw [hw,hr];simp;intro e1 e2;exact hb (by simp [e1,e2])),if_neg hb,if_neg (by decide:¬(true=false))]
   by_cases h4:2147483647<valD w
   · rw [if_pos h4,if_pos (.inl h4)]
   · rw [if_neg h4]
     by_cases h5:valD w=2147483647∧0<mil r
     · rw [if_pos (by omega),if_pos (.inr h5)]
     · rw [if_neg (by omega),if_neg (by omega)]
def zbR (k n:Int) (bare:Bool):Int :=
 if bare=true∧((k=2∧-2147483647≤n∧n≤2147483647)∨(k=3∧-2147483647000000≤n∧n≤2147483647000000)) then 0 else 2
theorem valD_zl (j:Nat) (l:List UInt8):valD (List.replicate j 48++l)=valD l:=by
 have:=zdL [] j
 simp only [List.nil_append,valD_nil,Nat.zero_mul] at this
 unfold valD at *
 rw [zc9,this]
theorem parseV_check (s:List UInt8) (h:(zaK s).2.2=0):zbR (zaK s).1 (zaK s).2.1 true=0:=by
 unfold zaK za0 at *
 have hsg:zcC s=1∨zcC s=-1:=by unfold zcC;split<;>simp
 generalize zcC s=sg at *
 generalize zbj (zcG s)=w at *
 generalize zca (zcG s)=r at *
 generalize zd0 (zcG s)=p at *
 split at h
 · simp at h
 · rename_i c1
   rw [if_neg c1]
   split at h
   · simp at h
   · rename_i c2
     rw [if_neg c2]
     split at h
     · rename_i c3
       rw [if_pos c3]
       unfold zbR
       rw [if_pos]
       refine ⟨rfl,.inl ⟨rfl,?_⟩⟩
       simp only
       rcases hsg with rfl|rfl<;>omega
     · rename_i c3
       rw [if_neg c3]
       split at h
       · simp at h
       · rename_i c4
         rw [if_neg c4]
         unfold zbR
         rw [if_pos]
         refine ⟨rfl,.inr ⟨rfl,?_⟩⟩
         simp only
         rcases hsg with rfl|rfl<;>omega
def isSp (c:UInt8):Bool:=c==0||c==9||c==10||c==12||c==13||c==32
def isDl (c:UInt8):Bool:=c==40||c==41||c==60||c==62||c==91||c==93||c==123||c==125||c==47||c==37
def isRg (c:UInt8):Bool:=!isSp c&&!isDl c
def isOc (c:UInt8):Bool:=decide (48≤c.toNat)&&decide (c.toNat≤55)
def hexD (c:UInt8):Int :=
 if 48≤c.toNat∧c.toNat≤57 then (c.toNat:Int)-48 else if 97≤c.toNat∧c.toNat≤102 then (c.toNat:Int)-87 else if 65≤c.toNat∧c.toNat≤70 then (c.toNat:Int)-55 else -1
theorem zgg (c:UInt8):-1≤hexD c∧hexD c≤15:=by
 unfold hexD
 repeat' split
 all_goals omega
def zbb:Bool→List UInt8→Nat
 | _,[]=>0
 | true,c::l=>1+zbb (c != 10&&c != 13) l
 | false,c::l=>if c=37 then 1+zbb true l else if isSp c=true then 1+zbb false l else 0
theorem zdp:∀(b:Bool) (l:List UInt8),zbb b l≤l.length
 | _,[]=>by simp [zbb]
 | true,c::l=>by have:=zdp (c != 10&&c != 13) l;simp only [zbb,List.length_cons];omega
 | false,c::l=>by
   have h1:=zdp true l
   have h2:=zdp false l
   simp only [zbb,List.length_cons]
   split
   · omega
   · split<;>omega
def zaC (bs:List UInt8) (k:Int):Nat:=if k<0 then 0 else if (bs.length:Int)≤k then bs.length else k.toNat+zbb false (bs.drop k.toNat)
def zdF (last:Bool):List UInt8→Option Nat
 | []=>if last then some 0 else none
 | d::_=>some (if d=10 then 1 else 0)
def octV (last:Bool) (c:UInt8):List UInt8→Option (Nat×Nat)
 | []=>if last then some (c.toNat-48,1) else none
 | d::t=>if isOc d=true then
     (match t with
       | []=>if last then some (8 * (c.toNat-48)+(d.toNat-48),2) else none
       | e::_=>if isOc e=true then some (8 * (8 * (c.toNat-48)+(d.toNat-48))+(e.toNat-48),3) else some (8 * (c.toNat-48)+(d.toNat-48),2))
   else some (c.toNat-48,1)
def escV (last:Bool):List UInt8→Option (List UInt8×Nat)
 | []=>none
 | c::t =>
   if c=110 then some ([10],1) else if c=114 then some ([13],1) else if c=116 then some ([9],1) else if c=98 then some ([8],1) else if c=102 then some ([12],1)
   else if isOc c=true then (octV last c t).map fun x=>([UInt8.ofNat x.1],x.2)
   else if c=10 then some ([],1)
   else if c=13 then (zdF last t).map fun k=>([],k+1)
   else some ([c],1)
def za4 (last:Bool) (deep:Nat) (out:List UInt8) (l:List UInt8):Option (List UInt8×List UInt8) :=
 match l with
 | []=>none
 | c::t =>
   if c=92 then (match escV last t with|none=>none|some (x,k)=>za4 last deep (out++x) (t.drop k))
   else if c=13 then (match zdF last t with|none=>none|some k=>za4 last deep (out++[10]) (t.drop k))
   else if c=40 then za4 last (deep+1) (out++[c]) t
   else if c=41 then (if deep=1 then some (out,t) else za4 last (deep-1) (out++[c]) t)
   else za4 last deep (out++[c]) t
termination_by l.length
decreasing_by all_goals (simp only [List.length_cons,List.length_drop];omega)
def hexV (out:List UInt8) (half:Int):List UInt8→Int×List UInt8×List UInt8
 | []=>(1,[],[])
 | c::t =>
   if c=62 then (0,if 0≤half then out++[UInt8.ofNat (16 * half).toNat] else out,t)
   else if isSp c=true then hexV out half t
   else if hexD c<0 then (11,[],[])
   else if half<0 then hexV out (hexD c) t
   else hexV (out++[UInt8.ofNat (16 * half+hexD c).toNat]) (-1) t
def zbU (out:List UInt8):List UInt8→Option (List UInt8)
 | []=>some out
 | c::t=>if c=35 then
     (match t with
       | x::y::u=>if hexD x<0∨hexD y<0 then none else zbU (out++[UInt8.ofNat (16 * hexD x+hexD y).toNat]) u
       | _=>none)
   else zbU (out++[c]) t
def zc8 (w:List UInt8):Option (List UInt8):=match zbU [] w with|none=>none|some o=>if 127<o.length∨(0:UInt8)∈o then none else some o
structure Tk where
 kind:Int
 vk:Int:=0
 vn:Int:=0
 vs:List UInt8:=[]
 s:List UInt8:=[]
deriving DecidableEq
def zaX (last:Bool):Int:=if last then 10 else 6
def tokV (last:Bool) (c:UInt8) (t:List UInt8):Int×Tk×List UInt8 :=
 if isRg c=true then
   (let w:=(c::t).takeWhile isRg;let r:=(c::t).dropWhile isRg
    if r=[]∧last=false then (6,{ kind:=0 },[])
    else if isDg c=true∨c=43∨c=45∨c=46 then ((zaK w).2.2,{ kind:=1,vk:=(zaK w).1,vn:=(zaK w).2.1 },r)
    else (0,{ kind:=6,s:=w },r))
 else if c=91 then (0,{ kind:=2 },t)
 else if c=93 then (0,{ kind:=3 },t)
 else if c=60 then
   (match t with
     | []=>(zaX last,{ kind:=0 },[])
     | d::u=>if d=60 then (0,{ kind:=4 },u) else
       (match hexV [] (-1) (d::u) with
         | (e,x,r)=>if e=0 then (0,{ kind:=1,vk:=4,vs:=x },r) else if e=1 then (zaX last,{ kind:=0 },[]) else (11,{ kind:=0 },[])))
 else if c=62 then
   (match t with
     | []=>(if last then 11 else 6,{ kind:=0 },[])
     | d::u=>if d=62 then (0,{ kind:=5 },u) else (11,{ kind:=0 },[]))
 else if c=40 then
   (match za4 last 1 [] t with
     | none=>(zaX last,{ kind:=0 },[])
     | some (x,r)=>(0,{ kind:=1,vk:=4,vs:=x },r))
 else if c=47 then
   (let w:=t.takeWhile isRg;let r:=t.dropWhile isRg
    if r=[]∧last=false then (6,{ kind:=0 },[])
    else match zc8 w with
     | none=>(17,{ kind:=0 },[])
     | some o=>(0,{ kind:=1,vk:=5,vs:=o },r))
 else (11,{ kind:=0 },[])
def zah (bs:List UInt8) (k:Int) (last:Bool):Tk×Int×Int×Int :=
 if k<0∨(bs.length:Int)<k then ({ kind:=0 },0,0,2)
 else
   (let f:=zaC bs k
    match bs.drop f with
     | []=>({ kind:=0 },(f:Int),(f:Int),if last then 0 else 6)
     | c::t =>
       (match tokV last c t with
         | (e,x,r)=>if e=0 then (x,(f:Int),(bs.length:Int)-(r.length:Int),0) else ({ kind:=0 },(f:Int),(f:Int),e)))
theorem zcP:∀(b:Bool) (l:List UInt8),zbb false (l.drop (zbb b l))=0
 | _,[]=>by simp [zbb]
 | true,c::l=>by
   simp only [zbb]
   rw [Nat.add_comm,List.drop_succ_cons];exact zcP _ l
 | false,c::l=>by
   by_cases h:c=37
   · rw [zbb,if_pos h,Nat.add_comm,List.drop_succ_cons];exact zcP _ l
   · by_cases h2:isSp c=true
     · rw [zbb,if_neg h,if_pos h2,Nat.add_comm,List.drop_succ_cons];exact zcP _ l
     · rw [zbb,if_neg h,if_neg h2,List.drop_zero,zbb,if_neg h,if_neg h2]
theorem zey {bs:List UInt8} {k:Int} (h:0≤k) (h2:k≤bs.length):k≤(zaC bs k:Nat)∧zaC bs k≤bs.length:=by
 unfold zaC
 rw [if_neg (by omega)]
 split
 · omega
 · have:=zdp false (bs.drop k.toNat)
   rw [List.length_drop] at this;omega
theorem zfB {bs:List UInt8} {k:Int} (h:0≤k) (h2:k≤bs.length):zaC bs (zaC bs k:Nat)=zaC bs k:=by
 have hb:=zey h h2
 by_cases h3:(bs.length:Int)≤(zaC bs k:Nat)
 · have e:zaC bs k=bs.length:=by omega
   rw [e];unfold zaC;rw [if_neg (by omega),if_pos (by omega)]
 · have e:zaC bs k=k.toNat+zbb false (bs.drop k.toNat):=by
     unfold zaC
     rw [if_neg (by omega),if_neg (by omega)]
   have e3:zbb false (bs.drop (zaC bs k))=0:=by
     rw [e,←List.drop_drop]
     exact zcP false _
   have gen:∀f:Nat,¬(bs.length:Int)≤(f:Int)→zbb false (bs.drop f)=0→zaC bs (f:Int)=f:=fun f h1 h2=>by
     unfold zaC
     rw [if_neg (by omega),if_neg h1,Int.toNat_natCast,h2];rfl
   exact gen _ h3 e3
theorem zdi (u:List UInt8):∀(l:List UInt8) (out:List UInt8) (half:Int),((hexV out half l).1=0→hexV out half (l++u)=(0,(hexV out half l).2.1,(hexV out half l).2.2++u)∧(hexV out half l).2.2.length<l.length) ∧
   ((hexV out half l).1≠0→(hexV out half l).1≠1→(hexV out half l).1=11∧hexV out half (l++u)=(11,[],[]))
 | [],out,half=>by simp [hexV]
 | c::t,out,half=>by
   rw [List.cons_append]
   simp only [hexV,List.length_cons]
   by_cases h1:c=62
   · simp only [if_pos h1]
     exact ⟨fun _=>⟨by simp,by omega⟩,fun h=>absurd rfl h⟩
   simp only [if_neg h1]
   by_cases h2:isSp c=true
   · simp only [if_pos h2]
     obtain ⟨g1,g2⟩:=zdi u t out half
     exact ⟨fun h=>⟨(g1 h).1,by have:=(g1 h).2;omega⟩,g2⟩
   simp only [if_neg h2]
   by_cases h3:hexD c<0
   · simp only [if_pos h3]
     exact ⟨fun h=>by simp at h,fun _ _=>⟨by simp,by simp⟩⟩
   simp only [if_neg h3]
   by_cases h4:half<0
   · simp only [if_pos h4]
     obtain ⟨g1,g2⟩:=zdi u t out (hexD c)
     exact ⟨fun h=>⟨(g1 h).1,by have:=(g1 h).2;omega⟩,g2⟩
   simp only [if_neg h4]
   obtain ⟨g1,g2⟩:=zdi u t (out++[UInt8.ofNat (16 * half+hexD c).toNat]) (-1)
   exact ⟨fun h=>⟨(g1 h).1,by have:=(g1 h).2;omega⟩,g2⟩
theorem drop_len (p:UInt8→Bool) (l:List UInt8):(l.dropWhile p).length≤l.length:=List.Sublist.length_le (List.dropWhile_sublist _)
theorem textV_len (last:Bool):∀(n:Nat) (l:List UInt8),l.length≤n→∀(deep:Nat) (out x r:List UInt8),za4 last deep out l=some (x,r)→r.length<l.length:=by
 intro n
 induction n with
 | zero =>
   intro l hl deep out x r h
   obtain rfl:l=[]:=List.eq_nil_of_length_eq_zero (by omega)
   rw [za4] at h;cases h
 | succ n ih =>
   intro l hl deep out x r h
   cases l with
   | nil=>rw [za4] at h;cases h
   | cons c t =>
     simp only [List.length_cons] at hl ⊢
     rw [za4.eq_def] at h
     simp only at h
     split at h
     · split at h
       · cases h
       · have:=ih _ (by rw [List.length_drop];omega) _ _ _ _ h
         rw [List.length_drop] at this;omega
     · split at h
       · split at h
         · cases h
         · have:=ih _ (by rw [List.length_drop];omega) _ _ _ _ h
           rw [List.length_drop] at this;omega
       · split at h
         · have:=ih _ (by omega) _ _ _ _ h
           omega
         · split at h
           · split at h
             · cases h;omega
             · have:=ih _ (by omega) _ _ _ _ h
               omega
           · have:=ih _ (by omega) _ _ _ _ h
             omega
theorem tokV_some (last:Bool) (c:UInt8) (t:List UInt8) (h:(tokV last c t).1=0):(tokV last c t).2.1.kind≠0∧(tokV last c t).2.2.length≤t.length:=by
 obtain ⟨V,hV⟩:∃V,tokV last c t=V:=⟨_,rfl⟩
 rw [hV] at h ⊢
 unfold tokV at hV
 split at hV
 · next hr =>
   have hd:((c::t).dropWhile isRg).length≤t.length:=by rw [List.dropWhile_cons_of_pos hr];exact drop_len _ _
   simp only at hV
   split at hV
   · subst hV;simp at h
   · split at hV
     · subst hV;exact ⟨by simp,hd⟩
     · subst hV;exact ⟨by simp,hd⟩
 split at hV
 · subst hV;exact ⟨by simp,Nat.le_refl _⟩
 split at hV
 · subst hV;exact ⟨by simp,Nat.le_refl _⟩
 split at hV
 · cases t with
   | nil=>subst hV;cases last<;>simp [zaX] at h
   | cons d t =>
     simp only at hV
     split at hV
     · subst hV;exact ⟨by simp,by simp⟩
     · have hx:=(zdi [] (d::t) [] (-1)).1
       split at hV
       · subst hV
         exact ⟨by simp,Nat.le_of_lt (hx ‹_›).2⟩
       · split at hV
         · subst hV;cases last<;>simp [zaX] at h
         · subst hV;simp at h
 split at hV
 · cases t with
   | nil=>subst hV;cases last<;>simp at h
   | cons d t =>
     simp only at hV
     split at hV
     · subst hV;exact ⟨by simp,by simp⟩
     · subst hV;simp at h
 split at hV
 · cases he:za4 last 1 [] t with
   | none=>rw [he] at hV;subst hV;cases last<;>simp [zaX] at h
   | some y =>
     obtain ⟨x,r⟩:=y
     rw [he] at hV
     subst hV
     exact ⟨by simp,by have:=textV_len last _ t (Nat.le_refl _) _ _ _ _ he;simp only;omega⟩
 split at hV
 · simp only at hV
   split at hV
   · subst hV;simp at h
   · split at hV
     · subst hV;simp at h
     · subst hV;exact ⟨by simp,drop_len _ _⟩
 · subst hV;simp at h
def zbf (bs:List UInt8) (f:Nat) (last:Bool):Tk×Int×Int×Int :=
 match bs.drop f with
 | []=>({ kind:=0 },(f:Int),(f:Int),if last then 0 else 6)
 | c::t=>if (tokV last c t).1=0 then ((tokV last c t).2.1,(f:Int),(bs.length:Int)-((tokV last c t).2.2.length:Int),0) else ({ kind:=0 },(f:Int),(f:Int),(tokV last c t).1)
theorem zdE {bs:List UInt8} {k:Int} (last:Bool) (h:0≤k) (h2:k≤bs.length):zah bs k last=zbf bs (zaC bs k) last:=by
 have h3:¬(k<0∨(bs.length:Int)<k):=by omega
 unfold zah
 rw [if_neg h3]
 show (match bs.drop (zaC bs k) with | []=>_|c::t=>_)=_
 unfold zbf
 cases bs.drop (zaC bs k)<;>rfl
theorem zdj {bs:List UInt8} {f:Nat} (last:Bool) (h:bs.drop f=[]):zbf bs f last=({ kind:=0 },(f:Int),(f:Int),if last then 0 else 6):=by unfold zbf;rw [h]
theorem zcR {bs:List UInt8} {f:Nat} (last:Bool) {c:UInt8} {t:List UInt8} (h:bs.drop f=c::t):zbf bs f last=if (tokV last c t).1=0 then ((tokV last c t).2.1,(f:Int),(bs.length:Int)-((tokV last c t).2.2.length:Int),0) else ({ kind:=0 },(f:Int),(f:Int),(tokV last c t).1):=by unfold zbf;rw [h]
theorem nextV_places {bs:List UInt8} {k:Int} (last:Bool) (h:0≤k) (h2:k≤bs.length) :
   ((zah bs k last).2.2.2≠0→(zah bs k last).1={ kind:=0 }∧(zah bs k last).2.1=(zah bs k last).2.2.1∧k≤(zah bs k last).2.1∧(zah bs k last).2.1≤bs.length) ∧
   ((zah bs k last).2.2.2=0→(zah bs k last).1.kind=0→last=true∧(zah bs k last).2.1=bs.length∧(zah bs k last).2.2.1=bs.length) ∧
   ((zah bs k last).2.2.2=0→(zah bs k last).1.kind≠0→zah bs (zah bs k last).2.1 last=zah bs k last∧k≤(zah bs k last).2.1∧(zah bs k last).2.1<(zah bs k last).2.2.1∧(zah bs k last).2.2.1≤bs.length):=by
 obtain ⟨hb1,hb2⟩:=zey h h2
 have hi:=zfB h h2
 have hV:=zdE (bs:=bs) last h h2
 have hV2:=zdE (bs:=bs) (k:=(zaC bs k:Nat)) last (by omega) (by omega)
 rw [hi] at hV2
 generalize zaC bs k=f at *
 rw [hV]
 cases hd:bs.drop f with
 | nil =>
   have hn:=zdj last hd
   rw [hn] at hV2 ⊢
   have hfl:f=bs.length:=by have:=List.drop_eq_nil_iff.1 hd;omega
   refine ⟨fun _=>⟨rfl,rfl,hb1,by simp only;omega⟩,fun h0 _=>⟨?_,by simp only;omega,by simp only;omega⟩,fun _ h=>absurd rfl h⟩
   cases last
   · simp at h0
   · rfl
 | cons c t =>
   have hn:=zcR last hd
   have hlen:f+(t.length+1)=bs.length:=by
     have:=congrArg List.length hd
     rw [List.length_drop,List.length_cons] at this;omega
   by_cases h0:(tokV last c t).1=0
   · obtain ⟨g1,g2⟩:=tokV_some last c t h0
     rw [if_pos h0] at hn
     rw [hn] at hV2 ⊢
     generalize tokV last c t=T at *
     obtain ⟨e,x,r⟩:=T
     simp only at g1 g2 hV2 ⊢
     exact ⟨fun h=>absurd rfl h,fun _ h=>absurd h g1,fun _ _=>⟨hV2,hb1,by omega,by omega⟩⟩
   · rw [if_neg h0] at hn
     rw [hn]
     exact ⟨fun _=>⟨rfl,rfl,hb1,by simp only;omega⟩,fun h=>absurd h h0,fun h=>absurd h h0⟩
inductive PV where
 | mk (kind n:Int) (s:List UInt8) (l:List PV)
def PV.kind:PV→Int | .mk k _ _ _=>k
def PV.n:PV→Int | .mk _ n _ _=>n
def PV.s:PV→List UInt8 | .mk _ _ s _=>s
def PV.l:PV→List PV | .mk _ _ _ l=>l
def PV.none:PV:=.mk 0 0 [] []
instance:Inhabited PV:=⟨PV.none⟩
structure Lv where
 dict:Bool
 l:List PV
def zcH (v:Lv):Bool:=v.dict&&v.l.length % 2==0
def topW:List Lv→Bool
 | []=>false
 | v::_=>zcH v
def zaE (t:Tk):Bool:=t.kind==1&&t.vk==2
def moreV (e:Int):Int:=if e=6 then 6 else 0
def tkV (t:Tk):PV:=.mk t.vk t.vn t.vs []
def refV (bs:List UInt8) (last:Bool) (at_:Int) (v:PV):PV×Int×Int :=
 let g:=zah bs at_ last
 if g.2.2.2≠0∨zaE g.1=false then (v,at_,moreV g.2.2.2) else
 let r:=zah bs g.2.2.1 last
 if r.2.2.2≠0∨r.1.kind≠6∨r.1.s≠[82] then (v,at_,moreV r.2.2.2) else
 if v.n<1∨4096<v.n∨g.1.vn≠0 then (v,at_,26) else (.mk 8 v.n [] [],r.2.2.1,0)
def zem (w:List UInt8):Option PV :=
 if w=[116,114,117,101] then some (.mk 1 1 [] []) else if w=[102,97,108,115,101] then some (.mk 1 0 [] []) else if w=[110,117,108,108] then some PV.none else none
def zaF (bs:List UInt8) (last:Bool) (st:List Lv) (at_:Int) (t:Tk):PV×Int×Int :=
 if topW st=true∧(t.kind≠1∨t.vk≠5) then (PV.none,at_,11)
 else if t.kind=6 then (match zem t.s with|none=>(PV.none,at_,11)|some v=>(v,at_,0))
 else if zaE t=true then refV bs last at_ (tkV t)
 else (tkV t,at_,0)
def zbQ (st:List Lv) (dict:Bool):List Lv×Int:=if topW st=true then (st,11) else if 64≤st.length then (st,15) else ({ dict:=dict,l:=[] }::st,0)
def twoV:List PV→List (PV×PV)
 | a::b::l=>(a,b)::twoV l
 | _=>[]
def zb7:List (PV×PV)→List PV
 | []=>[]
 | (a,b)::l=>a::b::zb7 l
def sLt:List UInt8→List UInt8→Bool
 | [],[]=>false
 | [],_::_=>true
 | _::_,[]=>false
 | a::l,b::m=>if a.toNat<b.toNat then true else if b.toNat<a.toNat then false else sLt l m
def insV (x:PV×PV):List (PV×PV)→List (PV×PV)
 | []=>[x]
 | y::l=>if sLt y.1.s x.1.s then y::insV x l else x::y::l
def zdG:List (PV×PV)→List (PV×PV)
 | []=>[]
 | x::l=>insV x (zdG l)
def zbJ:List (PV×PV)→Bool
 | x::y::l=>x.1.s==y.1.s||zbJ (y::l)
 | _=>false
def zcv (l:List PV):Option (List PV):=if zbJ (zdG (twoV l))=true then none else some (zb7 (zdG (twoV l)))
def zby (st:List Lv) (dict:Bool):PV×List Lv×Int :=
 match st with
 | []=>(PV.none,st,11)
 | v::rest =>
   if v.dict≠dict∨(dict=true∧zcH v=false) then (PV.none,st,11)
   else if dict=false then (.mk 6 0 [] v.l,rest,0)
   else match zcv v.l with
     | none=>(PV.none,st,16)
     | some l=>(.mk 7 0 [] l,rest,0)
def zaZ (bs:List UInt8) (last:Bool) (st:List Lv) (at_:Int) (t:Tk):Option PV×List Lv×Int×Int :=
 if t.kind=0 then (none,st,at_,10)
 else if t.kind=2∨t.kind=4 then (none,(zbQ st (t.kind==4)).1,at_,(zbQ st (t.kind==4)).2)
 else if t.kind=3∨t.kind=5 then
   (let r:=zby st (t.kind==5)
    if r.2.2=0 then (some r.1,r.2.1,at_,0) else (none,r.2.1,at_,r.2.2))
 else
   (let r:=zaF bs last st at_ t
    if r.2.2≠0 then (none,st,r.2.1,r.2.2) else if 64≤st.length then (none,st,r.2.1,15) else (some r.1,st,r.2.1,0))
def valO (bs:List UInt8) (last:Bool):Nat→List Lv→Int→Option (PV×Int×Int)
 | 0,_,_=>none
 | g+1,st,at_ =>
   let t:=zah bs at_ last
   if t.2.2.2≠0 then some (PV.none,0,t.2.2.2) else
   match zaZ bs last st t.2.2.1 t.1 with
   | (v,st2,at2,e) =>
     if e≠0 then some (PV.none,0,e) else
     match v with
     | none=>valO bs last g st2 at2
     | some x=>match st2 with
       | []=>some (x,at2,0)
       | top::rest=>valO bs last g ({ top with l:=top.l++[x] }::rest) at2
theorem za2 {bs:List UInt8} {k:Int} (last:Bool) (h:0≤k) (h2:k≤bs.length):k≤(zah bs k last).2.2.1∧(zah bs k last).2.2.1≤bs.length:=by
 rw [zdE last h h2]
 have hs:=zey h h2
 cases hd:bs.drop (zaC bs k) with
 | nil=>rw [zdj last hd];exact ⟨hs.1,by have:=hs.2;show ((zaC bs k:Nat):Int)≤_;omega⟩
 | cons c t =>
   rw [zcR last hd]
   have hl:(bs.drop (zaC bs k)).length=t.length+1:=by rw [hd];rfl
   rw [List.length_drop] at hl
   split
   · rename_i h0
     have:=(tokV_some last c t h0).2
     exact ⟨by show k≤(bs.length:Int)-_;omega,by show (bs.length:Int)-_≤_;omega⟩
   · exact ⟨hs.1,by have:=hs.2;show ((zaC bs k:Nat):Int)≤_;omega⟩
mutual
def zb2:PV→Nat
 | .mk k _ _ l=>if k=6∨k=7 then 1+zfr l else 1
def zfr:List PV→Nat
 | []=>0
 | x::l=>max (zb2 x) (zfr l)
end
def ascV:List (PV×PV)→Bool
 | x::y::l=>sLt x.1.s y.1.s&&ascV (y::l)
 | _=>true
def zd8:List PV→Bool
 | []=>true
 | [a]=>a.kind==5
 | a::_::l=>a.kind==5&&zd8 l
def ownC:PV→Int
 | .mk k n s l =>
   if k=0 then (if n=0∧s=[]∧l=[] then 0 else 2)
   else if k=1 then (if (n=0∨n=1)∧s=[]∧l=[] then 0 else 2)
   else if k=2∨k=3 then (if s=[]∧l=[] then zbR k n true else 2)
   else if k=4 then (if n=0∧l=[] then 0 else 2)
   else if k=5 then (if 127<s.length∨(0:UInt8)∈s then 17 else if n=0∧l=[] then 0 else 2)
   else if k=6 then (if n=0∧s=[] then 0 else 2)
   else if k=7 then (if n≠0∨s≠[]∨l.length % 2≠0 then 2 else if zd8 l=false then 2 else if ascV (twoV l)=true then 0 else 16)
   else if k=8 then (if 1≤n∧n≤4096∧s=[]∧l=[] then 0 else 2)
   else 2
mutual
def zbK:PV→Int
 | .mk k n s l=>if ownC (.mk k n s l)≠0 then ownC (.mk k n s l) else if k=6∨k=7 then firstL l else 0
def firstL:List PV→Int
 | []=>0
 | x::l=>if zbK x≠0 then zbK x else firstL l
end
theorem zfJ {n:Nat}:∀l:List PV,(∀x∈l,zb2 x≤n)→zfr l≤n
 | [],_=>by simp [zfr]
 | x::l,h=>by
   have h1:=h x (List.mem_cons_self)
   have h2:=zfJ l fun y hy=>h y (List.mem_cons_of_mem _ hy)
   simp only [zfr];omega
theorem zd1:∀l:List PV,(∀x∈l,zbK x=0)→firstL l=0
 | [],_=>rfl
 | x::l,h=>by
   simp only [firstL]
   rw [if_neg (by simp [h x (List.mem_cons_self)])]
   exact zd1 l fun y hy=>h y (List.mem_cons_of_mem _ hy)
theorem zcA:∀a b:List UInt8,sLt a b=false→a≠b→sLt b a=true
 | [],[],_,h=>absurd rfl h
 | [],_::_,h,_=>by simp [sLt] at h
 | _::_,[],_,_=>by simp [sLt]
 | x::a,y::b,h,hn=>by
   simp only [sLt] at h ⊢
   by_cases h1:x.toNat<y.toNat
   · rw [if_pos h1] at h;cases h
   · rw [if_neg h1] at h
     by_cases h2:y.toNat<x.toNat
     · rw [if_pos h2]
     · rw [if_neg h2] at h ⊢
       rw [if_neg h1]
       have hxy:x=y:=UInt8.toNat_inj.1 (by omega)
       subst hxy
       exact zcA a b h fun e=>hn (by rw [e])
def zfj:List (PV×PV)→Prop
 | x::y::l=>sLt y.1.s x.1.s=false∧zfj (y::l)
 | _=>True
theorem sLt_as:∀a b:List UInt8,sLt a b=true→sLt b a=false
 | [],[],h=>by simp [sLt] at h
 | [],_::_,_=>by simp [sLt]
 | _::_,[],h=>by simp [sLt] at h
 | x::a,y::b,h=>by
   simp only [sLt] at h ⊢
   by_cases h1:x.toNat<y.toNat
   · rw [if_neg (by omega),if_pos h1]
   · rw [if_neg h1] at h
     by_cases h2:y.toNat<x.toNat
     · rw [if_pos h2] at h;cases h
     · rw [if_neg h2] at h
       rw [if_neg h2,if_neg h1]
       exact sLt_as a b h
theorem ins_head (x:PV×PV):∀l,∃z t,insV x l=z::t∧(z=x∨∃t',l=z::t')
 | []=>⟨x,[],rfl,.inl rfl⟩
 | y::l=>by
   simp only [insV]
   split
   · exact ⟨y,_,rfl,.inr ⟨l,rfl⟩⟩
   · exact ⟨x,_,rfl,.inl rfl⟩
theorem zfD {x:PV×PV} {l:List (PV×PV)} (h:zfj l) (hh:∀z t,l=z::t→sLt z.1.s x.1.s=false):zfj (x::l):=by
 cases l with
 | nil=>trivial
 | cons y t=>exact ⟨hh y t rfl,h⟩
theorem notGt_tail {x:PV×PV} {l:List (PV×PV)} (h:zfj (x::l)):zfj l:=by
 cases l with
 | nil=>trivial
 | cons y t=>exact h.2
theorem ins_notGt (x:PV×PV):∀l,zfj l→zfj (insV x l)
 | [],_=>trivial
 | y::l,h=>by
   simp only [insV]
   split
   · rename_i hy
     refine zfD (ins_notGt x l (notGt_tail h)) fun z t hz=>?_
     obtain ⟨z',t',e1,e2⟩:=ins_head x l
     rw [e1] at hz
     have hzz:z'=z:=(List.cons.inj hz).1
     rcases e2 with e2|⟨t2,e2⟩
     · rw [←hzz,e2];exact sLt_as _ _ hy
     · rw [←hzz];subst e2;exact h.1
   · rename_i hy
     exact zfD h fun z t hz=>by
       have:y=z:=(List.cons.inj hz).1
       rw [←this]
       simpa using hy
theorem zcM:∀l,zfj (zdG l)
 | []=>trivial
 | x::l=>ins_notGt x _ (zcM l)
theorem asc_of:∀l,zfj l→zbJ l=false→ascV l=true
 | [],_,_=>rfl
 | [_],_,_=>rfl
 | x::y::l,h,ht=>by
   simp only [zbJ,Bool.or_eq_false_iff,beq_eq_false_iff_ne] at ht
   simp only [ascV,Bool.and_eq_true]
   exact ⟨zcA _ _ h.1 (fun e=>ht.1 e.symm),asc_of (y::l) h.2 ht.2⟩
theorem ins_perm (x:PV×PV):∀l,(insV x l).Perm (x::l)
 | []=>List.Perm.refl _
 | y::l=>by
   simp only [insV]
   split
   · exact ((ins_perm x l).cons y).trans (List.Perm.swap x y l)
   · exact List.Perm.refl _
theorem zeL:∀l,(zdG l).Perm l
 | []=>List.Perm.refl _
 | x::l=>(ins_perm x _).trans ((zeL l).cons x)
theorem flat_two:∀p,twoV (zb7 p)=p
 | []=>rfl
 | (a,b)::l=>by simp only [zb7,twoV];rw [flat_two l]
theorem zfV:∀l:List PV,l.length % 2=0→zb7 (twoV l)=l
 | [],_=>rfl
 | [_],h=>by simp at h
 | a::b::l,h=>by simp only [twoV,zb7];rw [zfV l (by simp at h;omega)]
theorem flat_len:∀p,(zb7 p).length % 2=0
 | []=>rfl
 | (a,b)::l=>by have:=flat_len l;simp only [zb7,List.length_cons];omega
theorem zgl {x:PV}:∀p,x∈zb7 p↔∃q∈p,x=q.1∨x=q.2
 | []=>by simp [zb7]
 | (a,b)::l=>by
   simp only [zb7,List.mem_cons,zgl l]
   constructor
   · rintro (h|h|⟨q,hq,h⟩)
     · exact ⟨(a,b),.inl rfl,.inl h⟩
     · exact ⟨(a,b),.inl rfl,.inr h⟩
     · exact ⟨q,.inr hq,h⟩
   · rintro ⟨q,rfl|hq,h⟩
     · exact h.elim .inl (fun h=>.inr (.inl h))
     · exact .inr (.inr ⟨q,hq,h⟩)
theorem zdX:∀p:List (PV×PV),zd8 (zb7 p)=p.all fun q=>q.1.kind==5
 | []=>rfl
 | (a,b)::l=>by simp only [zb7,zd8,List.all_cons];rw [zdX l]
theorem zfH:∀(l:List PV) (x:PV),zd8 l=true→(l.length % 2=0→x.kind=5)→zd8 (l++[x])=true
 | [],x,_,h=>by simpa [zd8] using h rfl
 | [a],x,h,_=>by simpa [zd8] using h
 | a::b::l,x,h,hx=>by
   simp only [zd8,Bool.and_eq_true] at h
   simp only [List.cons_append,zd8,Bool.and_eq_true]
   exact ⟨h.1,zfH l x h.2 fun h2=>hx (by simp;omega)⟩
theorem pairs_ok {l l2:List PV} (he:l.length % 2=0) (hn:zd8 l=true) (h:zcv l=some l2):l2.length % 2=0∧zd8 l2=true∧ascV (twoV l2)=true∧∀x∈l2,x∈l:=by
 unfold zcv at h
 split at h
 · cases h
 · rename_i ht
   cases h
   have hp:=zeL (twoV l)
   refine ⟨flat_len _,?_,?_,fun x hx=>?_⟩
   · rw [zdX,List.all_eq_true]
     intro q hq
     have h1:=zdX (twoV l)
     rw [zfV l he,hn] at h1
     exact List.all_eq_true.1 h1.symm q (hp.mem_iff.1 hq)
   · rw [flat_two]
     exact asc_of _ (zcM _) (by simpa using ht)
   · obtain ⟨q,hq,h1⟩:=(zgl _).1 hx
     rw [←zfV l he]
     exact (zgl _).2 ⟨q,hp.mem_iff.1 hq,h1⟩
def lvOk (d:Nat) (v:Lv):Prop:=(∀x∈v.l,zbK x=0∧zb2 x+d≤64)∧(v.dict=true→zd8 v.l=true)
def stOk:List Lv→Prop
 | []=>True
 | v::rest=>lvOk (rest.length+1) v∧rest.length+1≤64∧topW rest=false∧stOk rest
theorem tk_depth {v:PV} (h:v.kind≠6) (h2:v.kind≠7):zb2 v=1:=by
 obtain ⟨k,n,s,l⟩:=v
 simp only [zb2]
 rw [if_neg (by rintro (e|e);exact h e;exact h2 e)]
theorem first_own {v:PV} (h:ownC v=0) (h6:v.kind≠6) (h7:v.kind≠7):zbK v=0:=by
 obtain ⟨k,n,s,l⟩:=v
 simp only [zbK]
 rw [if_neg (by simp [h]),if_neg (by rintro (e|e);exact h6 e;exact h7 e)]
def tkOk (t:Tk):Prop:=0≤t.kind∧t.kind≤6∧(t.kind=1→ownC (tkV t)=0∧t.vk≠6∧t.vk≠7)
theorem tkn {t:Tk} (n:Nat) (e:t.kind=n) (h:n≤6) (h1:n≠1):tkOk t:=⟨by omega,by omega,fun h2=>by omega⟩
theorem tk1 {t:Tk} (e:t.kind=1) (ho:ownC (tkV t)=0) (h6:t.vk≠6) (h7:t.vk≠7):tkOk t:=⟨by omega,by omega,fun _=>⟨ho,h6,h7⟩⟩
theorem own_num {k n:Int} (hk:k=2∨k=3) (hc:zbR k n true=0):ownC (.mk k n [] [])=0:=by
 simp only [ownC]
 rw [if_neg (by omega),if_neg (by omega),if_pos hk,if_pos ⟨by trivial,by trivial⟩]
 exact hc
theorem own_ref {n:Int} (h1:1≤n) (h2:n≤4096):ownC (.mk 8 n [] [])=0:=by simp [ownC,h1,h2]
theorem word_ok {w:List UInt8} {v:PV} (h:zem w=some v):zbK v=0∧zb2 v=1:=by
 unfold zem at h
 split at h
 · cases h;decide
 · split at h
   · cases h;decide
   · split at h
     · cases h;decide
     · cases h
theorem nameV_ok {w o:List UInt8} (h:zc8 w=some o):¬(127<o.length∨(0:UInt8)∈o):=by
 unfold zc8 at h
 split at h
 · cases h
 · split at h
   · cases h
   · rename_i hn
     cases h
     exact hn
theorem tokV_ok (last:Bool) (c:UInt8) (t:List UInt8) (h:(tokV last c t).1=0):tkOk (tokV last c t).2.1:=by
 unfold tokV at h ⊢
 split
 · rename_i q0
   rw [if_pos q0] at h
   try simp only at h ⊢
   split
   · rename_i q1;rw [if_pos q1] at h;cases h
   · rename_i q1
     rw [if_neg q1] at h
     split
     · rename_i q2
       rw [if_pos q2] at h
       have hc:=parseV_check _ h
       try simp only at hc
       have hk:(zaK ((c::t).takeWhile isRg)).1=2∨(zaK ((c::t).takeWhile isRg)).1=3:=by
         unfold zbR at hc
         split at hc
         · rename_i hq
           rcases hq.2 with hq|hq
           · exact .inl hq.1
           · exact .inr hq.1
         · cases hc
       refine tk1 rfl ?_ ?_ ?_
       · exact own_num hk hc
       · show (zaK _).1≠6;omega
       · show (zaK _).1≠7;omega
     · exact (by first|exact tkn 0 rfl (by decide) (by decide)|exact tkn 2 rfl (by decide) (by decide)|exact tkn 3 rfl (by decide) (by decide)|exact tkn 4 rfl (by decide) (by decide)|exact tkn 5 rfl (by decide) (by decide)|exact tkn 6 rfl (by decide) (by decide))
 · rename_i q0
   rw [if_neg q0] at h
   split
   · exact (by first|exact tkn 0 rfl (by decide) (by decide)|exact tkn 2 rfl (by decide) (by decide)|exact tkn 3 rfl (by decide) (by decide)|exact tkn 4 rfl (by decide) (by decide)|exact tkn 5 rfl (by decide) (by decide)|exact tkn 6 rfl (by decide) (by decide))
   · rename_i q1
     rw [if_neg q1] at h
     split
     · exact (by first|exact tkn 0 rfl (by decide) (by decide)|exact tkn 2 rfl (by decide) (by decide)|exact tkn 3 rfl (by decide) (by decide)|exact tkn 4 rfl (by decide) (by decide)|exact tkn 5 rfl (by decide) (by decide)|exact tkn 6 rfl (by decide) (by decide))
     · rename_i q2
       rw [if_neg q2] at h
       split
       · split
         · exact (by first|exact tkn 0 rfl (by decide) (by decide)|exact tkn 2 rfl (by decide) (by decide)|exact tkn 3 rfl (by decide) (by decide)|exact tkn 4 rfl (by decide) (by decide)|exact tkn 5 rfl (by decide) (by decide)|exact tkn 6 rfl (by decide) (by decide))
         · split
           · exact (by first|exact tkn 0 rfl (by decide) (by decide)|exact tkn 2 rfl (by decide) (by decide)|exact tkn 3 rfl (by decide) (by decide)|exact tkn 4 rfl (by decide) (by decide)|exact tkn 5 rfl (by decide) (by decide)|exact tkn 6 rfl (by decide) (by decide))
           · simp only
             split
             · exact tk1 rfl (by show ownC (.mk 4 0 _ [])=0;simp [ownC]) (by show (4:Int)≠6;decide) (by show (4:Int)≠7;decide)
             · split
               · exact (by first|exact tkn 0 rfl (by decide) (by decide)|exact tkn 2 rfl (by decide) (by decide)|exact tkn 3 rfl (by decide) (by decide)|exact tkn 4 rfl (by decide) (by decide)|exact tkn 5 rfl (by decide) (by decide)|exact tkn 6 rfl (by decide) (by decide))
               · exact (by first|exact tkn 0 rfl (by decide) (by decide)|exact tkn 2 rfl (by decide) (by decide)|exact tkn 3 rfl (by decide) (by decide)|exact tkn 4 rfl (by decide) (by decide)|exact tkn 5 rfl (by decide) (by decide)|exact tkn 6 rfl (by decide) (by decide))
       · rename_i q3
         rw [if_neg q3] at h
         split
         · split
           · exact (by first|exact tkn 0 rfl (by decide) (by decide)|exact tkn 2 rfl (by decide) (by decide)|exact tkn 3 rfl (by decide) (by decide)|exact tkn 4 rfl (by decide) (by decide)|exact tkn 5 rfl (by decide) (by decide)|exact tkn 6 rfl (by decide) (by decide))
           · split
             · exact (by first|exact tkn 0 rfl (by decide) (by decide)|exact tkn 2 rfl (by decide) (by decide)|exact tkn 3 rfl (by decide) (by decide)|exact tkn 4 rfl (by decide) (by decide)|exact tkn 5 rfl (by decide) (by decide)|exact tkn 6 rfl (by decide) (by decide))
             · exact (by first|exact tkn 0 rfl (by decide) (by decide)|exact tkn 2 rfl (by decide) (by decide)|exact tkn 3 rfl (by decide) (by decide)|exact tkn 4 rfl (by decide) (by decide)|exact tkn 5 rfl (by decide) (by decide)|exact tkn 6 rfl (by decide) (by decide))
         · rename_i q4
           rw [if_neg q4] at h
           split
           · split
             · exact (by first|exact tkn 0 rfl (by decide) (by decide)|exact tkn 2 rfl (by decide) (by decide)|exact tkn 3 rfl (by decide) (by decide)|exact tkn 4 rfl (by decide) (by decide)|exact tkn 5 rfl (by decide) (by decide)|exact tkn 6 rfl (by decide) (by decide))
             · exact tk1 rfl (by show ownC (.mk 4 0 _ [])=0;simp [ownC]) (by show (4:Int)≠6;decide) (by show (4:Int)≠7;decide)
           · rename_i q5
             rw [if_neg q5] at h
             split
             · simp only
               split
               · exact (by first|exact tkn 0 rfl (by decide) (by decide)|exact tkn 2 rfl (by decide) (by decide)|exact tkn 3 rfl (by decide) (by decide)|exact tkn 4 rfl (by decide) (by decide)|exact tkn 5 rfl (by decide) (by decide)|exact tkn 6 rfl (by decide) (by decide))
               · split
                 · exact (by first|exact tkn 0 rfl (by decide) (by decide)|exact tkn 2 rfl (by decide) (by decide)|exact tkn 3 rfl (by decide) (by decide)|exact tkn 4 rfl (by decide) (by decide)|exact tkn 5 rfl (by decide) (by decide)|exact tkn 6 rfl (by decide) (by decide))
                 · rename_i o ho
                   have hn:=nameV_ok ho
                   exact tk1 rfl (by show ownC (.mk 5 0 o [])=0;simp only [ownC];simp [hn]) (by show (5:Int)≠6;decide) (by show (5:Int)≠7;decide)
             · exact (by first|exact tkn 0 rfl (by decide) (by decide)|exact tkn 2 rfl (by decide) (by decide)|exact tkn 3 rfl (by decide) (by decide)|exact tkn 4 rfl (by decide) (by decide)|exact tkn 5 rfl (by decide) (by decide)|exact tkn 6 rfl (by decide) (by decide))
theorem zdk {bs:List UInt8} {k:Int} (last:Bool) (h:0≤k) (h2:k≤bs.length):tkOk (zah bs k last).1:=by
 rw [zdE last h h2]
 cases hd:bs.drop (zaC bs k) with
 | nil=>rw [zdj last hd];exact (by first|exact tkn 0 rfl (by decide) (by decide)|exact tkn 2 rfl (by decide) (by decide)|exact tkn 3 rfl (by decide) (by decide)|exact tkn 4 rfl (by decide) (by decide)|exact tkn 5 rfl (by decide) (by decide)|exact tkn 6 rfl (by decide) (by decide))
 | cons c t =>
   rw [zcR last hd]
   split
   · rename_i h0;exact tokV_ok last c t h0
   · exact (by first|exact tkn 0 rfl (by decide) (by decide)|exact tkn 2 rfl (by decide) (by decide)|exact tkn 3 rfl (by decide) (by decide)|exact tkn 4 rfl (by decide) (by decide)|exact tkn 5 rfl (by decide) (by decide)|exact tkn 6 rfl (by decide) (by decide))
theorem zcI {bs:List UInt8} {k:Int} {last:Bool} (h:0≤k) (h2:k≤bs.length) (he:(zah bs k last).2.2.2=0) (hk:(zah bs k last).1.kind≠0):k<(zah bs k last).2.2.1:=by
 have:=(nextV_places last h h2).2.2 he hk
 omega
theorem refV_ok {bs:List UInt8} {last:Bool} {k:Int} (h:0≤k) (h2:k≤bs.length) {v:PV} (hv:ownC v=0) (hk:v.kind≠6∧v.kind≠7) (he:(refV bs last k v).2.2=0) :
   ownC (refV bs last k v).1=0∧(refV bs last k v).1.kind≠6∧(refV bs last k v).1.kind≠7∧k≤(refV bs last k v).2.1∧(refV bs last k v).2.1≤bs.length:=by
 obtain ⟨g1,g2⟩:=za2 last h h2
 unfold refV at he ⊢
 simp only at he ⊢
 split
 · exact ⟨hv,hk.1,hk.2,Int.le_refl _,h2⟩
 · rename_i q1
   simp only [if_neg q1] at he
   obtain ⟨r1,r2⟩:=za2 (bs:=bs) (k:=(zah bs k last).2.2.1) last (by omega) g2
   split
   · exact ⟨hv,hk.1,hk.2,Int.le_refl _,h2⟩
   · rename_i q2
     simp only [if_neg q2] at he
     split
     · rename_i q3;rw [if_pos q3] at he;cases he
     · rename_i q3
       refine ⟨?_,by show (8:Int)≠6;decide,by show (8:Int)≠7;decide,Int.le_trans g1 r1,r2⟩
       exact own_ref (by omega) (by omega)
theorem singleV_ok {bs:List UInt8} {last:Bool} {st:List Lv} {k:Int} (h:0≤k) (h2:k≤bs.length) {t:Tk} (ht:tkOk t) (hk:t.kind=1∨t.kind=6) (he:(zaF bs last st k t).2.2=0) :
   zbK (zaF bs last st k t).1=0∧zb2 (zaF bs last st k t).1=1∧(topW st=true→(zaF bs last st k t).1.kind=5)∧k≤(zaF bs last st k t).2.1∧(zaF bs last st k t).2.1≤bs.length:=by
 unfold zaF at he ⊢
 split
 · rename_i q;rw [if_pos q] at he;cases he
 · rename_i q
   rw [if_neg q] at he
   split
   · rename_i q6
     rw [if_pos q6] at he
     have hw:¬topW st=true:=fun e=>q ⟨e,.inl (by rw [q6];decide)⟩
     cases hwd:zem t.s with
     | none=>rw [hwd] at he;cases he
     | some v =>
       obtain ⟨z1,z2⟩:=word_ok hwd
       exact ⟨z1,z2,fun e=>absurd e hw,Int.le_refl _,h2⟩
   · rename_i q6
     rw [if_neg q6] at he
     have h1:t.kind=1:=hk.resolve_right q6
     obtain ⟨o1,o2,o3⟩:=ht.2.2 h1
     split
     · rename_i qw
       rw [if_pos qw] at he
       obtain ⟨r1,r2,r3,r4,r5⟩:=refV_ok (last:=last) h h2 o1 ⟨o2,o3⟩ he
       have hw:¬topW st=true:=fun e=>q ⟨e,.inr (by
         unfold zaE at qw
         simp only [Bool.and_eq_true,beq_iff_eq] at qw
         rw [qw.2];decide)⟩
       exact ⟨first_own r1 r2 r3,tk_depth r2 r3,fun e=>absurd e hw,r4,r5⟩
     · refine ⟨first_own o1 o2 o3,tk_depth o2 o3,fun e=>?_,Int.le_refl _,h2⟩
       exact Decidable.byContradiction fun hn=>q ⟨e,.inr hn⟩
theorem lv_snoc {d:Nat} {v:Lv} {x:PV} (h:lvOk d v) (hx:zbK x=0∧zb2 x+d≤64) (hw:zcH v=true→x.kind=5):lvOk d { v with l:=v.l++[x] }:=by
 refine ⟨fun y hy=>?_,fun hd=>zfH _ _ (h.2 hd) fun h2=>hw (by unfold zcH;rw [show v.dict=true from hd];simp [h2])⟩
 rcases List.mem_append.1 hy with hy|hy
 · exact h.1 y hy
 · rw [List.mem_singleton.1 hy];exact hx
theorem end_ok {st:List Lv} {dict:Bool} (h:stOk st) (he:(zby st dict).2.2=0) :
   ∃v rest,st=v::rest∧(zby st dict).2.1=rest∧stOk rest∧zbK (zby st dict).1=0∧zb2 (zby st dict).1+rest.length≤64∧topW rest=false:=by
 cases st with
 | nil=>cases he
 | cons v rest =>
   obtain ⟨h1,h2,hw0,h3⟩:=h
   have hd:∀l:List PV,(∀x∈l,x∈v.l)→1+zfr l+rest.length≤64:=fun l hl=>by
     have:=zfJ (n:=63-rest.length) l fun x hx=>by have:=(h1.1 x (hl x hx)).2;omega
     omega
   refine ⟨v,rest,rfl,?_⟩
   unfold zby at he ⊢
   simp only at he ⊢
   by_cases q1:v.dict≠dict∨(dict=true∧zcH v=false)
   · rw [if_pos q1] at he;cases he
   · rw [if_neg q1] at he ⊢
     by_cases q2:dict=false
     · rw [if_pos q2]
       refine ⟨rfl,h3,?_,?_,hw0⟩
       · simp only [zbK]
         rw [if_neg (by simp [ownC]),if_pos (by simp)]
         exact zd1 _ fun x hx=>(h1.1 x hx).1
       · simp only [zb2]
         rw [if_pos (by simp)]
         exact hd v.l fun _ h=>h
     · rw [if_neg q2] at he ⊢
       have hdt:dict=true:=by cases dict;exact absurd rfl q2;rfl
       have hvd:v.dict=true:=Decidable.byContradiction fun hn=>q1 (.inl (by rw [hdt];exact hn))
       have hw:zcH v=true:=Decidable.byContradiction fun hn=>q1 (.inr ⟨hdt,by simpa using hn⟩)
       have hev:v.l.length % 2=0:=by
         unfold zcH at hw
         simp only [Bool.and_eq_true,beq_iff_eq] at hw
         exact hw.2
       cases hp:zcv v.l with
       | none=>rw [hp] at he;cases he
       | some l2 =>
         obtain ⟨p1,p2,p3,p4⟩:=pairs_ok hev (h1.2 hvd) hp
         refine ⟨rfl,h3,?_,?_,hw0⟩
         · simp only [zbK]
           rw [if_neg (by simp [ownC,p1,p2,p3]),if_pos (by simp)]
           exact zd1 _ fun x hx=>(h1.1 x (p4 x hx)).1
         · simp only [zb2]
           rw [if_pos (by simp)]
           exact hd l2 p4
theorem valO_may {bs:List UInt8} {last:Bool}:∀(g:Nat) (st:List Lv) (k:Int) (V:PV×Int×Int),0≤k→k≤bs.length→stOk st→valO bs last g st k=some V →
   (V.2.2=0→zbK V.1=0∧zb2 V.1≤64∧k<V.2.1∧V.2.1≤bs.length)∧(V.2.2≠0→V.1=PV.none∧V.2.1=0)
 | 0,_,_,_,_,_,_,hV=>by cases hV
 | g+1,st,k,V,h,h2,hs,hV=>by
   unfold valO at hV
   simp only at hV
   by_cases he:(zah bs k last).2.2.2≠0
   · rw [if_pos he] at hV
     cases hV
     exact ⟨fun e=>absurd e he,fun _=>⟨rfl,rfl⟩⟩
   · rw [if_neg he] at hV
     have he0:(zah bs k last).2.2.2=0:=by simpa using he
     obtain ⟨g1,g2⟩:=za2 last h h2
     have hok:=zdk last h h2
     have hfar:=zcI h h2 he0
     generalize (zah bs k last).2.2.1=to at *
     generalize (zah bs k last).1=t at *
     have key:∀v st2 at2 e2,zaZ bs last st to t=(v,st2,at2,e2)→e2=0→t.kind≠0∧to≤at2∧at2≤bs.length∧stOk st2∧(∀x,v=some x→zbK x=0∧zb2 x+st2.length≤64∧(topW st2=true→x.kind=5)):=by
       intro v st2 at2 e2 hq e20
       subst e20
       unfold zaZ at hq
       by_cases k0:t.kind=0
       · rw [if_pos k0] at hq;cases hq
       · rw [if_neg k0] at hq
         refine ⟨k0,?_⟩
         by_cases k24:t.kind=2∨t.kind=4
         · rw [if_pos k24] at hq
           simp only [Prod.mk.injEq] at hq
           obtain ⟨rfl,q2,rfl,q4⟩:=hq
           refine ⟨Int.le_refl _,g2,?_,fun x hx=>by cases hx⟩
           unfold zbQ at q2 q4
           by_cases b1:topW st=true
           · rw [if_pos b1] at q4;cases q4
           · rw [if_neg b1] at q2 q4
             by_cases b2:64≤st.length
             · rw [if_pos b2] at q4;cases q4
             · rw [if_neg b2] at q2
               rw [←q2]
               exact ⟨⟨fun x hx=>(by cases hx),fun _=>rfl⟩,by omega,by simpa using b1,hs⟩
         · rw [if_neg k24] at hq
           by_cases k35:t.kind=3∨t.kind=5
           · rw [if_pos k35] at hq
             simp only at hq
             by_cases b1:(zby st (t.kind==5)).2.2=0
             · rw [if_pos b1] at hq
               simp only [Prod.mk.injEq] at hq
               obtain ⟨rfl,rfl,rfl,-⟩:=hq
               obtain ⟨v0,rest,e1,e2,e3,e4,e5,e6⟩:=end_ok hs b1
               refine ⟨Int.le_refl _,g2,by rw [e2];exact e3,fun x hx=>?_⟩
               cases hx
               rw [e2]
               exact ⟨e4,e5,fun hw=>by rw [e6] at hw;cases hw⟩
             · rw [if_neg b1] at hq
               simp only [Prod.mk.injEq] at hq
               exact absurd hq.2.2.2 b1
           · rw [if_neg k35] at hq
             simp only at hq
             have hk16:t.kind=1∨t.kind=6:=by have:=hok.1;have:=hok.2.1;omega
             by_cases b1:(zaF bs last st to t).2.2≠0
             · rw [if_pos b1] at hq
               simp only [Prod.mk.injEq] at hq
               exact absurd hq.2.2.2 b1
             · rw [if_neg b1] at hq
               by_cases b2:64≤st.length
               · rw [if_pos b2] at hq
                 simp only [Prod.mk.injEq] at hq
                 exact absurd hq.2.2.2 (by decide)
               · rw [if_neg b2] at hq
                 simp only [Prod.mk.injEq] at hq
                 obtain ⟨rfl,rfl,rfl,-⟩:=hq
                 obtain ⟨s1,s2,s3,s4,s5⟩:=singleV_ok (last:=last) (st:=st) (by omega) g2 hok hk16 (by simpa using b1)
                 exact ⟨s4,s5,hs,fun x hx=>by cases hx;exact ⟨s1,by omega,s3⟩⟩
     generalize hZ:zaZ bs last st to t=Z at hV key
     obtain ⟨v,st2,at2,e2⟩:=Z
     simp only at hV
     by_cases h0:e2≠0
     · rw [if_pos h0] at hV
       cases hV
       exact ⟨fun e=>absurd e h0,fun _=>⟨rfl,rfl⟩⟩
     · rw [if_neg h0] at hV
       obtain ⟨k1,k2,k3,k4,k5⟩:=key v st2 at2 e2 rfl (by simpa using h0)
       have hkt:=hfar k1
       have hrec:∀st3,stOk st3→valO bs last g st3 at2=some V→(V.2.2=0→zbK V.1=0∧zb2 V.1≤64∧k<V.2.1∧V.2.1≤bs.length)∧(V.2.2≠0→V.1=PV.none∧V.2.1=0):=fun st3 hs3 hv3=>by
         obtain ⟨p1,p2⟩:=valO_may g st3 at2 V (by omega) k3 hs3 hv3
         exact ⟨fun e=>by obtain ⟨z1,z2,z3,z4⟩:=p1 e;exact ⟨z1,z2,by omega,z4⟩,p2⟩
       cases v with
       | none=>exact hrec st2 k4 hV
       | some x =>
         obtain ⟨x1,x2,x3⟩:=k5 x rfl
         cases st2 with
         | nil =>
           cases hV
           exact ⟨fun _=>⟨x1,by simpa using x2,by show k<at2;omega,k3⟩,fun e=>absurd rfl e⟩
         | cons top rest =>
           obtain ⟨z1,z2,zw,z3⟩:=k4
           exact hrec ({ top with l:=top.l++[x] }::rest) (show lvOk _ _∧_∧_∧_ from ⟨lv_snoc z1 ⟨x1,by simp only [List.length_cons] at x2;omega⟩ (fun hw=>x3 hw),z2,zw,z3⟩) hV
theorem refV_at {bs:List UInt8} {last:Bool} {k:Int} (h:0≤k) (h2:k≤bs.length) (v:PV):k≤(refV bs last k v).2.1∧(refV bs last k v).2.1≤bs.length:=by
 obtain ⟨g1,g2⟩:=za2 last h h2
 unfold refV
 simp only
 split
 · exact ⟨Int.le_refl _,h2⟩
 · obtain ⟨r1,r2⟩:=za2 (bs:=bs) (k:=(zah bs k last).2.2.1) last (by omega) g2
   split
   · exact ⟨Int.le_refl _,h2⟩
   · split
     · exact ⟨Int.le_refl _,h2⟩
     · exact ⟨Int.le_trans g1 r1,r2⟩
theorem singleV_at {bs:List UInt8} {last:Bool} {k:Int} (h:0≤k) (h2:k≤bs.length) (st:List Lv) (t:Tk):k≤(zaF bs last st k t).2.1∧(zaF bs last st k t).2.1≤bs.length:=by
 unfold zaF
 split
 · exact ⟨Int.le_refl _,h2⟩
 · split
   · split
     · exact ⟨Int.le_refl _,h2⟩
     · exact ⟨Int.le_refl _,h2⟩
   · split
     · exact refV_at h h2 _
     · exact ⟨Int.le_refl _,h2⟩
theorem stepV_at {bs:List UInt8} {last:Bool} {k:Int} (h:0≤k) (h2:k≤bs.length) (st:List Lv) (t:Tk):k≤(zaZ bs last st k t).2.2.1∧(zaZ bs last st k t).2.2.1≤bs.length:=by
 unfold zaZ
 split
 · exact ⟨Int.le_refl _,h2⟩
 · split
   · exact ⟨Int.le_refl _,h2⟩
   · split
     · simp only
       split
       · exact ⟨Int.le_refl _,h2⟩
       · exact ⟨Int.le_refl _,h2⟩
     · simp only
       have:=singleV_at (last:=last) h h2 st t
       split
       · exact this
       · split
         · exact this
         · exact this
theorem zfG {bs:List UInt8} {last:Bool} {k:Int} {st:List Lv} {t:Tk} (h:(zaZ bs last st k t).2.2.2=0):t.kind≠0:=by
 intro e
 unfold zaZ at h
 rw [if_pos e] at h
 cases h
theorem zez (bs:List UInt8) (last:Bool):∀(g:Nat) (st:List Lv) (k:Int),0≤k→k≤bs.length→((bs.length:Int)-k).toNat<g→∃V,valO bs last g st k=some V
 | 0,_,_,_,_,h=>by omega
 | g+1,st,k,h,h2,hg=>by
   unfold valO
   simp only
   by_cases he:(zah bs k last).2.2.2≠0
   · rw [if_pos he];exact ⟨_,rfl⟩
   · rw [if_neg he]
     have he0:(zah bs k last).2.2.2=0:=by simpa using he
     obtain ⟨g1,g2⟩:=za2 last h h2
     have hfar:=zcI h h2 he0
     generalize (zah bs k last).2.2.1=to at *
     generalize (zah bs k last).1=t at *
     obtain ⟨s1,s2⟩:=stepV_at (bs:=bs) (last:=last) (k:=to) (by omega) g2 st t
     have sk:=zfG (bs:=bs) (last:=last) (k:=to) (st:=st) (t:=t)
     generalize zaZ bs last st to t=Z at *
     obtain ⟨v,st2,at2,e2⟩:=Z
     simp only at s1 s2 sk ⊢
     by_cases h0:e2≠0
     · rw [if_pos h0];exact ⟨_,rfl⟩
     · rw [if_neg h0]
       have hk:=hfar (sk (by simpa using h0))
       cases v with
       | none=>exact zez bs last g st2 at2 (by omega) s2 (by omega)
       | some x =>
         cases st2 with
         | nil=>exact ⟨_,rfl⟩
         | cons top rest=>exact zez bs last g _ at2 (by omega) s2 (by omega)
def insK (x:PV×PV):List (PV×PV)→List (PV×PV)
 | []=>[x]
 | y::l=>if sLt x.1.s y.1.s then x::y::l else y::insK x l
def hasK (s:List UInt8) (l:List (PV×PV)):Bool:=l.any fun y=>y.1.s==s
def repK (x:PV×PV):List (PV×PV)→List (PV×PV)
 | []=>[]
 | y::l=>if y.1.s=x.1.s then (y.1,x.2)::l else y::repK x l
def putK (x:PV×PV) (l:List (PV×PV)):List (PV×PV):=if hasK x.1.s l then repK x l else insK x l
def docS:List (PV×PV)→List (PV×PV)→Bool→List (PV×PV)×Bool
 | [],l,tw=>(l,tw)
 | x::p,l,tw=>docS p (putK x l) (tw||hasK x.1.s l)
def ascP:List (PV×PV)→Prop
 | []=>True
 | x::l=>(∀y∈l,sLt x.1.s y.1.s=true)∧ascP l
theorem sLt_tr:∀a b c:List UInt8,sLt a b=true→sLt b c=true→sLt a c=true
 | [],[],_,h,_=>by simp [sLt] at h
 | [],_::_,[],_,h=>by simp [sLt] at h
 | [],_::_,_::_,_,_=>by simp [sLt]
 | _::_,[],_,h,_=>by simp [sLt] at h
 | _::_,_::_,[],_,h=>by simp [sLt] at h
 | x::a,y::b,z::c,h1,h2=>by
   simp only [sLt] at h1 h2 ⊢
   by_cases p1:x.toNat<y.toNat
   · by_cases p2:y.toNat<z.toNat
     · rw [if_pos (by omega)]
     · rw [if_neg p2] at h2
       by_cases p3:z.toNat<y.toNat
       · rw [if_pos p3] at h2;cases h2
       · rw [if_pos (by omega)]
   · rw [if_neg p1] at h1
     by_cases p4:y.toNat<x.toNat
     · rw [if_pos p4] at h1;cases h1
     · rw [if_neg p4] at h1
       by_cases p2:y.toNat<z.toNat
       · rw [if_pos (by omega)]
       · rw [if_neg p2] at h2
         by_cases p3:z.toNat<y.toNat
         · rw [if_pos p3] at h2;cases h2
         · rw [if_neg p3] at h2
           rw [if_neg (by omega),if_neg (by omega)]
           exact sLt_tr a b c h1 h2
theorem sLt_ir:∀a:List UInt8,sLt a a=false
 | []=>rfl
 | x::a=>by simp only [sLt];rw [if_neg (by omega),if_neg (by omega)];exact sLt_ir a
theorem zgr {x y:PV×PV}:∀l,y∈insK x l↔y=x∨y∈l
 | []=>by simp [insK]
 | z::l=>by
   simp only [insK]
   split
   · simp
   · rw [List.mem_cons,zgr l,List.mem_cons]
     constructor
     · rintro (h|h|h)
       · exact .inr (.inl h)
       · exact .inl h
       · exact .inr (.inr h)
     · rintro (h|h|h)
       · exact .inr (.inl h)
       · exact .inl h
       · exact .inr (.inr h)
theorem insK_perm (x:PV×PV):∀l,(insK x l).Perm (x::l)
 | []=>List.Perm.refl _
 | y::l=>by
   simp only [insK]
   split
   · exact List.Perm.refl _
   · exact ((insK_perm x l).cons y).trans (List.Perm.swap x y l)
theorem insK_asc {x:PV×PV}:∀l,ascP l→hasK x.1.s l=false→ascP (insK x l)
 | [],_,_=>⟨fun y hy=>(by cases hy),trivial⟩
 | y::l,h,hh=>by
   simp only [hasK,List.any_cons,Bool.or_eq_false_iff,beq_eq_false_iff_ne] at hh
   simp only [insK]
   split
   · rename_i hlt
     refine ⟨fun z hz=>?_,h⟩
     rcases List.mem_cons.1 hz with rfl|hz
     · exact hlt
     · exact sLt_tr _ _ _ hlt (h.1 z hz)
   · rename_i hlt
     have hyx:sLt y.1.s x.1.s=true:=zcA _ _ (by simpa using hlt) (fun e=>hh.1 e.symm)
     refine ⟨fun z hz=>?_,insK_asc l h.2 hh.2⟩
     rcases (zgr l).1 hz with rfl|hz
     · exact hyx
     · exact h.1 z hz
theorem zfw:∀l m:List (PV×PV),ascP l→ascP m→l.Perm m→l=m
 | [],m,_,_,h=>(List.Perm.nil_eq h).symm▸rfl
 | x::l,[],_,_,h=>absurd h.length_eq (by simp)
 | x::l,y::m,hl,hm,h=>by
   have hxy:x=y:=by
     have h1:x∈y::m:=h.mem_iff.1 (List.mem_cons_self)
     have h2:y∈x::l:=h.mem_iff.2 (List.mem_cons_self)
     rcases List.mem_cons.1 h1 with h1|h1
     · exact h1
     · rcases List.mem_cons.1 h2 with h2|h2
       · exact h2.symm
       · have a1:=hm.1 x h1
         have a2:=hl.1 y h2
         rw [sLt_as _ _ a1] at a2
         cases a2
   subst hxy
   rw [zfw l m hl.2 hm.2 ((List.perm_cons x).1 h)]
theorem zd2:∀l:List (PV×PV),zfj l→zbJ l=false→ascP l
 | [],_,_=>trivial
 | [x],_,_=>⟨fun y hy=>(by cases hy),trivial⟩
 | x::y::l,h,ht=>by
   simp only [zbJ,Bool.or_eq_false_iff,beq_eq_false_iff_ne] at ht
   have hr:=zd2 (y::l) h.2 ht.2
   have hxy:sLt x.1.s y.1.s=true:=zcA _ _ h.1 (fun e=>ht.1 e.symm)
   refine ⟨fun z hz=>?_,hr⟩
   rcases List.mem_cons.1 hz with rfl|hz
   · exact hxy
   · exact sLt_tr _ _ _ hxy (hr.1 z hz)
def zeN:List (PV×PV)→Prop
 | []=>True
 | x::l=>(∀y∈l,y.1.s≠x.1.s)∧zeN l
theorem zbP {l m:List (PV×PV)} (h:l.Perm m):zeN l→zeN m:=by
 induction h with
 | nil=>exact id
 | cons x h ih=>exact fun ⟨h1,h2⟩=>⟨fun y hy=>h1 y (h.mem_iff.2 hy),ih h2⟩
 | swap x y l =>
   rintro ⟨h1,h2,h3⟩
   refine ⟨fun z hz=>?_,fun z hz=>h1 z (List.mem_cons_of_mem _ hz),h3⟩
   rcases List.mem_cons.1 hz with rfl|hz
   · exact fun e=>h1 x (List.mem_cons_self) e.symm
   · exact h2 z hz
 | trans _ _ ih1 ih2=>exact fun h=>ih2 (ih1 h)
theorem zeM:∀l:List (PV×PV),zbJ l=true→¬zeN l
 | [],h,_=>by cases h
 | [_],h,_=>by cases h
 | x::y::l,h,hn=>by
   simp only [zbJ,Bool.or_eq_true,beq_iff_eq] at h
   rcases h with h|h
   · exact hn.1 y (List.mem_cons_self) h.symm
   · exact zeM (y::l) h hn.2
theorem ze3:∀l:List (PV×PV),ascP l→zeN l
 | [],_=>trivial
 | x::l,h=>⟨fun y hy e=>(by have:=h.1 y hy;rw [e,sLt_ir] at this;cases this),ze3 l h.2⟩
theorem hasK_no {s:List UInt8} {l:List (PV×PV)}:hasK s l=false↔∀y∈l,y.1.s≠s:=by
 unfold hasK
 rw [List.any_eq_false]
 simp
theorem docS_tw:∀p l,(docS p l true).2=true
 | [],_=>rfl
 | x::p,l=>by simp only [docS,Bool.true_or];exact docS_tw p _
theorem docS_is:∀(p l:List (PV×PV)),ascP l→((docS p l false).2=false→ascP (docS p l false).1∧(docS p l false).1.Perm (l++p))∧((docS p l false).2=true→¬zeN (l++p))
 | [],l,h=>⟨fun _=>⟨h,by simp [docS]⟩,fun e=>by cases e⟩
 | x::p,l,h=>by
   simp only [docS,Bool.false_or]
   cases hk:hasK x.1.s l with
   | true =>
     refine ⟨fun e=>?_,fun _ hn=>?_⟩
     · rw [docS_tw] at e;cases e
     · have h1:=zbP (List.perm_middle) hn
       have h2:hasK x.1.s l=false:=hasK_no.2 fun y hy=>h1.1 y (List.mem_append_left _ hy)
       rw [hk] at h2;cases h2
   | false =>
     have e1:putK x l=insK x l:=by unfold putK;rw [hk];rfl
     rw [e1]
     obtain ⟨r1,r2⟩:=docS_is p (insK x l) (insK_asc l h hk)
     have hp:(insK x l++p).Perm (l++x::p):=((insK_perm x l).append_right p).trans (List.perm_middle.symm)
     exact ⟨fun e=>⟨(r1 e).1,(r1 e).2.trans hp⟩,fun e hn=>r2 e (zbP hp.symm hn)⟩
theorem pairs_doc (l:List PV):zcv l=if (docS (twoV l) [] false).2=true then none else some (zb7 (docS (twoV l) [] false).1):=by
 obtain ⟨r1,r2⟩:=docS_is (twoV l) [] trivial
 have hp:=zeL (twoV l)
 unfold zcv
 cases hd:(docS (twoV l) [] false).2 with
 | true =>
   have hn:=r2 hd
   have ht:zbJ (zdG (twoV l))=true:=by
     cases h:zbJ (zdG (twoV l)) with
     | true=>rfl
     | false=>exact absurd (zbP hp (ze3 _ (zd2 _ (zcM _) h))) hn
   rw [if_pos ht,if_pos rfl]
 | false =>
   obtain ⟨q1,q2⟩:=r1 hd
   have hn:zeN (twoV l):=zbP q2 (ze3 _ q1)
   have ht:zbJ (zdG (twoV l))=false:=by
     cases h:zbJ (zdG (twoV l)) with
     | false=>rfl
     | true=>exact absurd (zbP hp.symm hn) (zeM _ h)
   rw [if_neg (by simp [ht]),if_neg (by simp)]
   rw [zfw _ _ (zd2 _ (zcM _) ht) q1 (hp.trans q2.symm)]
theorem docS_snoc:∀(p:List (PV×PV)) (x:PV×PV) (l:List (PV×PV)) (tw:Bool),docS (p++[x]) l tw=(putK x (docS p l tw).1,(docS p l tw).2||hasK x.1.s (docS p l tw).1)
 | [],_,_,_=>rfl
 | y::p,x,l,tw=>by simp only [List.cons_append,docS];exact docS_snoc p x _ _
theorem two_snoc:∀(l:List PV) (a b:PV),l.length % 2=0→twoV (l++[a,b])=twoV l++[(a,b)]
 | [],_,_,_=>rfl
 | [_],_,_,h=>by simp at h
 | x::y::l,a,b,h=>by simp only [List.cons_append,twoV];rw [two_snoc l a b (by simp at h;omega)]
def refD (bs:List UInt8) (last:Bool) (at_ n:Int):Bool×Int×Int :=
 let g:=zah bs at_ last
 if g.2.2.2=6 then (false,0,6) else
 if g.2.2.2≠0∨zaE g.1=false then (false,0,0) else
 let r:=zah bs g.2.2.1 last
 if r.2.2.2=6 then (false,0,6) else
 if r.2.2.2≠0∨r.1.kind≠6∨r.1.s≠[82] then (false,0,0) else
 if n<1∨4096<n∨g.1.vn≠0 then (false,0,26) else (true,r.2.2.1,0)
def zcc (bs:List UInt8) (last:Bool) (t:Tk) (to:Int):PV×Int×Int :=
 if t.kind=6 then (match zem t.s with|none=>(PV.none,0,11)|some v=>(v,to,0))
 else if zaE t=true then
   (if (refD bs last to t.vn).2.2≠0 then (PV.none,0,(refD bs last to t.vn).2.2) else if (refD bs last to t.vn).1=true then (.mk 8 t.vn [] [],(refD bs last to t.vn).2.1,0) else (tkV t,to,0))
 else (tkV t,to,0)
def arrD (bs:List UInt8) (last:Bool) (f:Tk→Int→PV×Int×Int):Nat→List PV→Int→PV×Int×Int
 | 0,_,_=>(PV.none,0,10)
 | r+1,l,at_ =>
   if (zah bs at_ last).2.2.2≠0 then (PV.none,0,(zah bs at_ last).2.2.2)
   else if (zah bs at_ last).1.kind=3 then (.mk 6 0 [] l,(zah bs at_ last).2.2.1,0)
   else if (f (zah bs at_ last).1 (zah bs at_ last).2.2.1).2.2≠0 then (PV.none,0,(f (zah bs at_ last).1 (zah bs at_ last).2.2.1).2.2)
   else arrD bs last f r (l++[(f (zah bs at_ last).1 (zah bs at_ last).2.2.1).1]) (f (zah bs at_ last).1 (zah bs at_ last).2.2.1).2.1
def zfT (bs:List UInt8) (last:Bool) (f:Tk→Int→PV×Int×Int) (d:Nat):Nat→List (PV×PV)→Bool→Int→PV×Int×Int
 | 0,_,_,_=>(PV.none,0,10)
 | r+1,ps,tw,at_ =>
   let t:=zah bs at_ last
   if t.2.2.2≠0 then (PV.none,0,t.2.2.2)
   else if t.1.kind=5 then (if tw=true then (PV.none,0,16) else (.mk 7 0 [] (zb7 ps),t.2.2.1,0))
   else if t.1.kind=0 then (PV.none,0,10)
   else if t.1.kind≠1∨t.1.vk≠5 then (PV.none,0,11)
   else if d=0 then (PV.none,0,15)
   else
     let u:=zah bs t.2.2.1 last
     if u.2.2.2≠0 then (PV.none,0,u.2.2.2)
     else if (f u.1 u.2.2.1).2.2≠0 then (PV.none,0,(f u.1 u.2.2.1).2.2)
     else zfT bs last f d r (putK (.mk 5 0 t.1.vs [],(f u.1 u.2.2.1).1) ps) (tw||hasK t.1.vs ps) (f u.1 u.2.2.1).2.1
def vlD (bs:List UInt8) (last:Bool):Nat→Tk→Int→PV×Int×Int
 | 0,t,to =>
   if t.kind=0 then (PV.none,0,10) else if t.kind=2∨t.kind=4 then (PV.none,0,15) else if t.kind=3∨t.kind=5 then (PV.none,0,11)
   else if (zcc bs last t to).2.2≠0 then (PV.none,0,(zcc bs last t to).2.2) else (PV.none,0,15)
 | d+1,t,to =>
   if t.kind=0 then (PV.none,0,10)
   else if t.kind=2 then arrD bs last (vlD bs last d) (bs.length+1) [] to
   else if t.kind=4 then zfT bs last (vlD bs last d) d (bs.length+1) [] false to
   else if t.kind=3∨t.kind=5 then (PV.none,0,11)
   else zcc bs last t to
def zcB (bs:List UInt8) (last:Bool) (at_:Int):PV×Int×Int :=
 if (zah bs at_ last).2.2.2≠0 then (PV.none,0,(zah bs at_ last).2.2.2) else vlD bs last 64 (zah bs at_ last).1 (zah bs at_ last).2.2.1
theorem refD_is {bs:List UInt8} {last:Bool} {k:Int} (v:PV) (n:Int) (hn:v.n=n) :
   (refV bs last k v).2.2=(refD bs last k n).2.2∧((refD bs last k n).2.2=0→(refV bs last k v).1=(if (refD bs last k n).1=true then .mk 8 n [] [] else v)∧(refV bs last k v).2.1=if (refD bs last k n).1=true then (refD bs last k n).2.1 else k):=by
 unfold refV refD
 simp only
 by_cases g6:(zah bs k last).2.2.2=6
 · rw [if_pos (.inl (by rw [g6];decide)),if_pos g6,g6]
   exact ⟨rfl,fun h=>by cases h⟩
 · rw [if_neg g6]
   by_cases hc:(zah bs k last).2.2.2≠0∨zaE (zah bs k last).1=false
   · rw [if_pos hc,if_pos hc]
     have:moreV (zah bs k last).2.2.2=0:=if_neg g6
     exact ⟨this,fun _=>⟨rfl,rfl⟩⟩
   · rw [if_neg hc,if_neg hc]
     by_cases r6:(zah bs (zah bs k last).2.2.1 last).2.2.2=6
     · rw [if_pos (.inl (by rw [r6];decide)),if_pos r6,r6]
       exact ⟨rfl,fun h=>by cases h⟩
     · rw [if_neg r6]
       by_cases hd:(zah bs (zah bs k last).2.2.1 last).2.2.2≠0∨(zah bs (zah bs k last).2.2.1 last).1.kind≠6∨(zah bs (zah bs k last).2.2.1 last).1.s≠[82]
       · rw [if_pos hd,if_pos hd]
         have:moreV (zah bs (zah bs k last).2.2.1 last).2.2.2=0:=if_neg r6
         exact ⟨this,fun _=>⟨rfl,rfl⟩⟩
       · rw [if_neg hd,if_neg hd,hn]
         by_cases he:n<1∨4096<n∨(zah bs k last).1.vn≠0
         · rw [if_pos he,if_pos he]
           exact ⟨rfl,fun h=>by cases h⟩
         · rw [if_neg he,if_neg he]
           exact ⟨rfl,fun _=>⟨rfl,rfl⟩⟩
theorem singD_is {bs:List UInt8} {last:Bool} {st:List Lv} {to:Int} {t:Tk} (hw:topW st=false) :
   ((zcc bs last t to).2.2=0→zaF bs last st to t=((zcc bs last t to).1,(zcc bs last t to).2.1,0))∧((zcc bs last t to).2.2≠0→(zaF bs last st to t).2.2=(zcc bs last t to).2.2):=by
 have hs:zaF bs last st to t=(if t.kind=6 then (match zem t.s with|none=>(PV.none,to,11)|some v=>(v,to,0)) else if zaE t=true then refV bs last to (tkV t) else (tkV t,to,0)):=by
   unfold zaF
   rw [if_neg (by rintro ⟨h,-⟩;rw [hw] at h;cases h)]
   all_goals (try rfl)
 rw [hs]
 unfold zcc
 by_cases k6:t.kind=6
 · simp only [if_pos k6]
   cases hq:zem t.s with
   | none=>exact ⟨fun h=>(by cases h),fun _=>rfl⟩
   | some v=>exact ⟨fun _=>rfl,fun h=>absurd rfl h⟩
 · simp only [if_neg k6]
   by_cases hq:zaE t=true
   · simp only [if_pos hq]
     obtain ⟨r1,r2⟩:=refD_is (bs:=bs) (last:=last) (k:=to) (tkV t) t.vn rfl
     by_cases he:(refD bs last to t.vn).2.2≠0
     · simp only [if_pos he]
       exact ⟨fun h=>absurd h he,fun _=>r1⟩
     · simp only [if_neg he]
       have he0:(refD bs last to t.vn).2.2=0:=by simpa using he
       obtain ⟨p1,p2⟩:=r2 he0
       rw [he0] at r1
       by_cases hb:(refD bs last to t.vn).1=true
       · simp only [if_pos hb] at p1 p2 ⊢
         exact ⟨fun _=>Prod.ext p1 (Prod.ext p2 r1),fun h=>absurd rfl h⟩
       · simp only [if_neg hb] at p1 p2 ⊢
         exact ⟨fun _=>Prod.ext p1 (Prod.ext p2 r1),fun h=>absurd rfl h⟩
   · simp only [if_neg hq]
     exact ⟨fun _=>by trivial,fun h=>absurd rfl h⟩
def contO (bs:List UInt8) (last:Bool) (g:Nat) (st:List Lv) (at_:Int) (x:PV):Option (PV×Int×Int) :=
 match st with
 | []=>some (x,at_,0)
 | top::rest=>valO bs last g ({ top with l:=top.l++[x] }::rest) at_
def aftO (bs:List UInt8) (last:Bool) (g:Nat) (st:List Lv) (to:Int) (t:Tk):Option (PV×Int×Int) :=
 if (zaZ bs last st to t).2.2.2≠0 then some (PV.none,0,(zaZ bs last st to t).2.2.2) else
 match (zaZ bs last st to t).1 with
 | none=>valO bs last g (zaZ bs last st to t).2.1 (zaZ bs last st to t).2.2.1
 | some x=>contO bs last g (zaZ bs last st to t).2.1 (zaZ bs last st to t).2.2.1 x
theorem zdV (bs:List UInt8) (last:Bool) (g:Nat) (st:List Lv) (k:Int):valO bs last (g+1) st k=if (zah bs k last).2.2.2≠0 then some (PV.none,0,(zah bs k last).2.2.2) else aftO bs last g st (zah bs k last).2.2.1 (zah bs k last).1:=by
 unfold aftO contO
 rw [valO]
 all_goals (try rfl)
def AnsD (bs:List UInt8) (last:Bool) (st:List Lv) (R:PV×Int×Int) (P:PV×Int×Int→Prop):Prop :=
 (R.2.2=0→∀V,(∃g,contO bs last g st R.2.1 R.1=some V)→P V)∧(R.2.2≠0→P (PV.none,0,R.2.2))
theorem zbI {bs:List UInt8} {last:Bool} {st:List Lv} {to:Int} {t:Tk} {e:Int} (h:(zaZ bs last st to t).2.2.2=e) (he:e≠0):∃g,aftO bs last g st to t=some (PV.none,0,e):=by
 refine ⟨0,?_⟩
 unfold aftO
 rw [if_pos (by rw [h];exact he),h]
theorem zeq {bs:List UInt8} {last:Bool} {st st2:List Lv} {to at2:Int} {t:Tk} (h:zaZ bs last st to t=(none,st2,at2,0)) (g:Nat):aftO bs last g st to t=valO bs last g st2 at2:=by
 unfold aftO
 rw [h]
 simp only
 rw [if_neg (by decide)]
theorem zex {bs:List UInt8} {last:Bool} {st st2:List Lv} {to at2:Int} {t:Tk} {x:PV} (h:zaZ bs last st to t=(some x,st2,at2,0)) (g:Nat):aftO bs last g st to t=contO bs last g st2 at2 x:=by
 unfold aftO
 rw [h]
 simp only
 rw [if_neg (by decide)]
theorem sing_ans {bs:List UInt8} {last:Bool} {st:List Lv} {to:Int} {t:Tk} (hw:topW st=false) (hk:t.kind=1∨t.kind=6) :
   (st.length<64→AnsD bs last st (zcc bs last t to) fun V=>∃g,aftO bs last g st to t=some V) ∧
   (64≤st.length→∃g,aftO bs last g st to t=some (PV.none,0,if (zcc bs last t to).2.2≠0 then (zcc bs last t to).2.2 else 15)):=by
 obtain ⟨s1,s2⟩:=singD_is (bs:=bs) (last:=last) (to:=to) (t:=t) hw
 have hst:zaZ bs last st to t=(if (zaF bs last st to t).2.2≠0 then (none,st,(zaF bs last st to t).2.1,(zaF bs last st to t).2.2) else if 64≤st.length then (none,st,(zaF bs last st to t).2.1,15) else (some (zaF bs last st to t).1,st,(zaF bs last st to t).2.1,0)):=by
   unfold zaZ
   rw [if_neg (by omega),if_neg (by omega),if_neg (by omega)]
 by_cases he:(zcc bs last t to).2.2=0
 · have h1:=s1 he
   rw [h1] at hst
   simp only at hst
   rw [if_neg (by decide)] at hst
   refine ⟨fun hl=>⟨fun _ V hV=>?_,fun h=>absurd he h⟩,fun hl=>?_⟩
   · rw [if_neg (by omega)] at hst
     obtain ⟨g,hg⟩:=hV
     exact ⟨g,by rw [zex hst];exact hg⟩
   · rw [if_pos hl] at hst
     rw [if_neg (by simp [he])]
     exact zbI (by rw [hst]) (by decide)
 · have h1:=s2 he
   rw [if_pos (by rw [h1];exact he)] at hst
   refine ⟨fun hl=>⟨fun h=>absurd h he,fun _=>?_⟩,fun hl=>?_⟩
   · exact zbI (by rw [hst];exact h1) he
   · rw [if_pos he]
     exact zbI (by rw [hst];exact h1) he
def ValAt (bs:List UInt8) (last:Bool) (d:Nat):Prop:=∀(st:List Lv) (t:Tk) (to:Int),st.length+d=64→topW st=false→(t.kind=3→∀v rest,st=v::rest→v.dict=true)→tkOk t→0≤to→to≤bs.length →
 AnsD bs last st (vlD bs last d t to) (fun V=>∃g,aftO bs last g st to t=some V)∧((vlD bs last d t to).2.2=0→t.kind≠0∧to≤(vlD bs last d t to).2.1∧(vlD bs last d t to).2.1≤bs.length)
theorem arr_ans {bs:List UInt8} {last:Bool} {d:Nat} (hf:ValAt bs last d) (st:List Lv) (hd:st.length+1+d=64):∀(r:Nat) (l:List PV) (k:Int),0≤k→k≤bs.length→((bs.length:Int)-k).toNat<r →
   AnsD bs last st (arrD bs last (vlD bs last d) r l k) (fun V=>∃g,valO bs last g ({ dict:=false,l:=l }::st) k=some V)∧((arrD bs last (vlD bs last d) r l k).2.2=0→k≤(arrD bs last (vlD bs last d) r l k).2.1∧(arrD bs last (vlD bs last d) r l k).2.1≤bs.length)
 | 0,_,_,_,_,h=>by omega
 | r+1,l,k,h,h2,hr=>by
   obtain ⟨g1,g2⟩:=za2 last h h2
   have hok:=zdk last h h2
   have hfar:=zcI (last:=last) h h2
   have hval:=zdV bs last
   simp only [arrD]
   by_cases he:(zah bs k last).2.2.2≠0
   · rw [if_pos he]
     exact ⟨⟨fun h=>absurd h he,fun _=>⟨1,by rw [hval,if_pos he]⟩⟩,fun h=>absurd h he⟩
   · rw [if_neg he]
     have he0:(zah bs k last).2.2.2=0:=by simpa using he
     have hfar2:=hfar he0
     have hgo:∀V,(∃g,aftO bs last g ({ dict:=false,l:=l }::st) (zah bs k last).2.2.1 (zah bs k last).1=some V)→∃g,valO bs last g ({ dict:=false,l:=l }::st) k=some V:=fun V ⟨g,hg⟩=>⟨g+1,by rw [hval,if_neg he];exact hg⟩
     generalize (zah bs k last).2.2.1=to at *
     generalize (zah bs k last).1=t at *
     by_cases k3:t.kind=3
     · rw [if_pos k3]
       have hst:zaZ bs last ({ dict:=false,l:=l }::st) to t=(some (.mk 6 0 [] l),st,to,0):=by
         unfold zaZ
         rw [if_neg (by omega),if_neg (by omega),if_pos (.inl k3)]
         have hk:(t.kind==5)=false:=by rw [beq_eq_false_iff_ne];omega
         rw [hk]
         simp [zby]
       exact ⟨⟨fun _ V ⟨g,hg⟩=>hgo V ⟨g,by rw [zex hst];exact hg⟩,fun h=>absurd rfl h⟩,fun _=>⟨g1,g2⟩⟩
     · rw [if_neg k3]
       obtain ⟨f1,f2⟩:=hf ({ dict:=false,l:=l }::st) t to (by simpa using hd) rfl (fun h=>absurd h k3) hok (by omega) g2
       by_cases hv:(vlD bs last d t to).2.2≠0
       · rw [if_pos hv]
         exact ⟨⟨fun h=>absurd h hv,fun _=>hgo _ (f1.2 hv)⟩,fun h=>absurd h hv⟩
       · rw [if_neg hv]
         have hv0:(vlD bs last d t to).2.2=0:=by simpa using hv
         obtain ⟨q1,q2,q3⟩:=f2 hv0
         have hlt:=hfar2 q1
         obtain ⟨r1,r2⟩:=arr_ans hf st hd r (l++[(vlD bs last d t to).1]) (vlD bs last d t to).2.1 (by omega) q3 (by omega)
         exact ⟨⟨fun h V hV=>hgo V (f1.1 hv0 V (r1.1 h V hV)),fun h=>hgo _ (f1.1 hv0 _ (r1.2 h))⟩,fun h=>⟨by have:=(r2 h).1;omega,(r2 h).2⟩⟩
theorem name_tk {t:Tk} (ht:tkOk t) (h1:t.kind=1) (h5:t.vk=5):tkV t=.mk 5 0 t.vs []:=by
 obtain ⟨o1,-,-⟩:=ht.2.2 h1
 have hn:t.vn=0:=by
   unfold tkV at o1
   rw [h5] at o1
   simp only [ownC] at o1
   rw [if_neg (by decide),if_neg (by decide),if_neg (by decide),if_neg (by decide),if_pos (by trivial)] at o1
   split at o1
   · cases o1
   · split at o1
     · rename_i h;exact h.1
     · cases o1
 unfold tkV
 rw [h5,hn]
theorem step_name {bs:List UInt8} {last:Bool} {st:List Lv} {to:Int} {t:Tk} (ht:tkOk t) (h1:t.kind=1) (h5:t.vk=5):zaZ bs last st to t=if 64≤st.length then (none,st,to,15) else (some (.mk 5 0 t.vs []),st,to,0):=by
 have hs:zaF bs last st to t=(tkV t,to,0):=by
   unfold zaF
   rw [if_neg (by rintro ⟨-,h|h⟩;exact h h1;exact h h5),if_neg (by omega),if_neg (by unfold zaE;rw [h5];simp)]
 unfold zaZ
 rw [if_neg (by omega),if_neg (by omega),if_neg (by omega),hs,name_tk ht h1 h5]
 simp only
 rw [if_neg (by decide)]
theorem dict_ans {bs:List UInt8} {last:Bool} {d:Nat} (hf:ValAt bs last d) (st:List Lv) (hd:st.length+1+d=64):∀(r:Nat) (l:List PV) (k:Int),l.length % 2=0→0≤k→k≤bs.length→((bs.length:Int)-k).toNat<r →
   AnsD bs last st (zfT bs last (vlD bs last d) d r (docS (twoV l) [] false).1 (docS (twoV l) [] false).2 k) (fun V=>∃g,valO bs last g ({ dict:=true,l:=l }::st) k=some V)∧((zfT bs last (vlD bs last d) d r (docS (twoV l) [] false).1 (docS (twoV l) [] false).2 k).2.2=0→k≤(zfT bs last (vlD bs last d) d r (docS (twoV l) [] false).1 (docS (twoV l) [] false).2 k).2.1∧(zfT bs last (vlD bs last d) d r (docS (twoV l) [] false).1 (docS (twoV l) [] false).2 k).2.1≤bs.length)
 | 0,_,_,_,_,_,h=>by omega
 | r+1,l,k,hl,h,h2,hr=>by
   obtain ⟨g1,g2⟩:=za2 last h h2
   have hok:=zdk last h h2
   have hfar:=zcI (last:=last) h h2
   have hval:=zdV bs last
   have hpd:=pairs_doc l
   have htw:=docS_snoc (twoV l)
   have hts:=two_snoc l
   simp only [zfT]
   generalize hps:docS (twoV l) [] false=D at *
   obtain ⟨ps,tw⟩:=D
   simp only at hpd ⊢
   by_cases he:(zah bs k last).2.2.2≠0
   · rw [if_pos he]
     exact ⟨⟨fun h=>absurd h he,fun _=>⟨1,by rw [hval,if_pos he]⟩⟩,fun h=>absurd h he⟩
   · rw [if_neg he]
     have he0:(zah bs k last).2.2.2=0:=by simpa using he
     have hfar2:=hfar he0
     have hgo:∀V,(∃g,aftO bs last g ({ dict:=true,l:=l }::st) (zah bs k last).2.2.1 (zah bs k last).1=some V)→∃g,valO bs last g ({ dict:=true,l:=l }::st) k=some V:=fun V ⟨g,hg⟩=>⟨g+1,by rw [hval,if_neg he];exact hg⟩
     generalize (zah bs k last).2.2.1=to at *
     generalize (zah bs k last).1=t at *
     have hw:topW ({ dict:=true,l:=l }::st)=true:=by simp [topW,zcH,hl]
     by_cases k5:t.kind=5
     · rw [if_pos k5]
       have hst:zaZ bs last ({ dict:=true,l:=l }::st) to t=if tw=true then (none,{ dict:=true,l:=l }::st,to,16) else (some (.mk 7 0 [] (zb7 ps)),st,to,0):=by
         have hww:zcH { dict:=true,l:=l }=true:=hw
         unfold zaZ
         rw [if_neg (by omega),if_neg (by omega),if_pos (.inr k5)]
         have hk:(t.kind==5)=true:=by rw [beq_iff_eq];exact k5
         rw [hk]
         cases tw with
         | true=>simp [zby,hww,hpd]
         | false=>simp [zby,hww,hpd]
       cases tw with
       | true =>
         rw [if_pos rfl] at hst ⊢
         exact ⟨⟨fun h=>(by cases h),fun _=>hgo _ (zbI (by rw [hst]) (by decide))⟩,fun h=>by cases h⟩
       | false =>
         rw [if_neg (by decide)] at hst ⊢
         exact ⟨⟨fun _ V ⟨g,hg⟩=>hgo V ⟨g,by rw [zex hst];exact hg⟩,fun h=>absurd rfl h⟩,fun _=>⟨g1,g2⟩⟩
     · rw [if_neg k5]
       by_cases k0:t.kind=0
       · rw [if_pos k0]
         exact ⟨⟨fun h=>(by cases h),fun _=>hgo _ (zbI (by unfold zaZ;rw [if_pos k0]) (by decide))⟩,fun h=>by cases h⟩
       · rw [if_neg k0]
         by_cases kv:t.kind≠1∨t.vk≠5
         · rw [if_pos kv]
           have hst:(zaZ bs last ({ dict:=true,l:=l }::st) to t).2.2.2=11:=by
             unfold zaZ
             rw [if_neg k0]
             by_cases k24:t.kind=2∨t.kind=4
             · rw [if_pos k24]
               unfold zbQ
               rw [if_pos hw]
             · rw [if_neg k24]
               by_cases k3:t.kind=3
               · rw [if_pos (.inl k3)]
                 have hk:(t.kind==5)=false:=by rw [beq_eq_false_iff_ne];omega
                 rw [hk]
                 simp [zby]
               · rw [if_neg (by omega)]
                 have hs:zaF bs last ({ dict:=true,l:=l }::st) to t=(PV.none,to,11):=by
                   unfold zaF
                   rw [if_pos ⟨hw,kv⟩]
                 rw [hs]
                 rfl
           exact ⟨⟨fun h=>(by cases h),fun _=>hgo _ (zbI hst (by decide))⟩,fun h=>by cases h⟩
         · rw [if_neg kv]
           have k1:t.kind=1:=Decidable.byContradiction fun h=>kv (.inl h)
           have v5:t.vk=5:=Decidable.byContradiction fun h=>kv (.inr h)
           have hst:=step_name (bs:=bs) (last:=last) (st:={ dict:=true,l:=l }::st) (to:=to) hok k1 v5
           by_cases d0:d=0
           · rw [if_pos d0]
             rw [if_pos (by simp only [List.length_cons];omega)] at hst
             exact ⟨⟨fun h=>(by cases h),fun _=>hgo _ (zbI (by rw [hst]) (by decide))⟩,fun h=>by cases h⟩
           · rw [if_neg d0]
             rw [if_neg (by simp only [List.length_cons];omega)] at hst
             have hlt:=hfar2 k0
             have hgo2:∀V,(∃g,valO bs last g ({ dict:=true,l:=l++[.mk 5 0 t.vs []] }::st) to=some V)→∃g,valO bs last g ({ dict:=true,l:=l }::st) k=some V:=fun V ⟨g,hg⟩=>hgo V ⟨g,by rw [zex hst];exact hg⟩
             obtain ⟨u1,u2⟩:=za2 (bs:=bs) (k:=to) last (by omega) g2
             have uok:=zdk (bs:=bs) (k:=to) last (by omega) g2
             by_cases ue:(zah bs to last).2.2.2≠0
             · rw [if_pos ue]
               exact ⟨⟨fun h=>absurd h ue,fun _=>hgo2 _ ⟨1,by rw [hval,if_pos ue]⟩⟩,fun h=>absurd h ue⟩
             · rw [if_neg ue]
               have hgo3:∀V,(∃g,aftO bs last g ({ dict:=true,l:=l++[.mk 5 0 t.vs []] }::st) (zah bs to last).2.2.1 (zah bs to last).1=some V)→∃g,valO bs last g ({ dict:=true,l:=l }::st) k=some V:=fun V ⟨g,hg⟩=>hgo2 V ⟨g+1,by rw [hval,if_neg ue];exact hg⟩
               generalize (zah bs to last).2.2.1=uto at *
               generalize (zah bs to last).1=u at *
               obtain ⟨f1,f2⟩:=hf ({ dict:=true,l:=l++[.mk 5 0 t.vs []] }::st) u uto (by simpa using hd) (by simp [topW,zcH];omega) (fun _ v rest hv=>by cases hv;rfl) uok (by omega) u2
               by_cases hv:(vlD bs last d u uto).2.2≠0
               · rw [if_pos hv]
                 exact ⟨⟨fun h=>absurd h hv,fun _=>hgo3 _ (f1.2 hv)⟩,fun h=>absurd h hv⟩
               · rw [if_neg hv]
                 have hv0:(vlD bs last d u uto).2.2=0:=by simpa using hv
                 obtain ⟨q1,q2,q3⟩:=f2 hv0
                 obtain ⟨r1,r2⟩:=dict_ans hf st hd r (l++[.mk 5 0 t.vs [],(vlD bs last d u uto).1]) (vlD bs last d u uto).2.1 (by simp;omega) (by omega) q3 (by omega)
                 rw [hts _ _ hl,htw,hps] at r1 r2
                 have happ:∀x:PV,(l++[.mk 5 0 t.vs []])++[x]=l++[.mk 5 0 t.vs [],x]:=fun x=>by simp
                 have hc:∀V,(∃g,valO bs last g ({ dict:=true,l:=l++[.mk 5 0 t.vs [],(vlD bs last d u uto).1] }::st) (vlD bs last d u uto).2.1=some V)→∃g,contO bs last g ({ dict:=true,l:=l++[.mk 5 0 t.vs []] }::st) (vlD bs last d u uto).2.1 (vlD bs last d u uto).1=some V:=fun V ⟨g,hg⟩=>⟨g,by show valO bs last g ({ dict:=true,l:=(l++[.mk 5 0 t.vs []])++[_] }::st) _=_;rw [happ];exact hg⟩
                 exact ⟨⟨fun h V hV=>hgo3 V (f1.1 hv0 V (hc V (r1.1 h V hV))),fun h=>hgo3 _ (f1.1 hv0 _ (hc _ (r1.2 h)))⟩,fun h=>⟨Int.le_trans (show k≤(vlD bs last d u uto).2.1 by omega) (r2 h).1,(r2 h).2⟩⟩
theorem refD_at {bs:List UInt8} {last:Bool} {k n:Int} (h:0≤k) (h2:k≤bs.length) (hb:(refD bs last k n).1=true):k≤(refD bs last k n).2.1∧(refD bs last k n).2.1≤bs.length:=by
 obtain ⟨g1,g2⟩:=za2 last h h2
 obtain ⟨r1,r2⟩:=za2 (bs:=bs) (k:=(zah bs k last).2.2.1) last (by omega) g2
 unfold refD at hb ⊢
 simp only at hb ⊢
 split at hb
 · cases hb
 · rename_i q1
   rw [if_neg q1]
   split at hb
   · cases hb
   · rename_i q2
     rw [if_neg q2]
     split at hb
     · cases hb
     · rename_i q3
       rw [if_neg q3]
       split at hb
       · cases hb
       · rename_i q4
         rw [if_neg q4]
         split at hb
         · cases hb
         · rename_i q5
           rw [if_neg q5]
           exact ⟨Int.le_trans g1 r1,r2⟩
theorem singD_at {bs:List UInt8} {last:Bool} {k:Int} {t:Tk} (h:0≤k) (h2:k≤bs.length) (he:(zcc bs last t k).2.2=0):k≤(zcc bs last t k).2.1∧(zcc bs last t k).2.1≤bs.length:=by
 unfold zcc at he ⊢
 split
 · rename_i q
   rw [if_pos q] at he
   cases hw:zem t.s with
   | none=>rw [hw] at he;cases he
   | some v=>exact ⟨Int.le_refl _,h2⟩
 · rename_i q
   rw [if_neg q] at he
   split
   · rename_i q2
     rw [if_pos q2] at he
     split
     · rename_i q3;rw [if_pos q3] at he;exact absurd he q3
     · split
       · rename_i q4;exact refD_at h h2 q4
       · exact ⟨Int.le_refl _,h2⟩
   · exact ⟨Int.le_refl _,h2⟩
theorem close_err {bs:List UInt8} {last:Bool} {st:List Lv} {t:Tk} {to:Int} (hw:topW st=false) (hn3:t.kind=3→∀v rest,st=v::rest→v.dict=true) (k:t.kind=3∨t.kind=5):(zaZ bs last st to t).2.2.2=11:=by
 have he:(zby st (t.kind==5)).2.2=11:=by
   cases st with
   | nil=>rfl
   | cons v rest =>
     unfold zby
     simp only
     rw [if_pos]
     rcases k with k|k
     · left
       have hk:(t.kind==5)=false:=by rw [beq_eq_false_iff_ne];omega
       rw [hk,hn3 k v rest rfl]
       decide
     · have hk:(t.kind==5)=true:=by rw [beq_iff_eq];exact k
       rw [hk]
       exact .inr ⟨rfl,hw⟩
 unfold zaZ
 rw [if_neg (by omega),if_neg (by omega),if_pos k]
 simp only
 rw [if_neg (by rw [he];decide)]
 exact he
theorem val_ans {bs:List UInt8} {last:Bool}:∀d,ValAt bs last d
 | 0=>fun st t to hd hw hn3 ht h h2=>by
   unfold vlD
   by_cases k0:t.kind=0
   · rw [if_pos k0]
     exact ⟨⟨fun h=>(by cases h),fun _=>zbI (by unfold zaZ;rw [if_pos k0]) (by decide)⟩,fun h=>by cases h⟩
   · rw [if_neg k0]
     by_cases k24:t.kind=2∨t.kind=4
     · rw [if_pos k24]
       exact ⟨⟨fun h=>(by cases h),fun _=>zbI (by unfold zaZ zbQ;rw [if_neg k0,if_pos k24,if_neg (by rw [hw];decide),if_pos (by omega)]) (by decide)⟩,fun h=>by cases h⟩
     · rw [if_neg k24]
       by_cases k35:t.kind=3∨t.kind=5
       · rw [if_pos k35]
         exact ⟨⟨fun h=>(by cases h),fun _=>zbI (close_err hw hn3 k35) (by decide)⟩,fun h=>by cases h⟩
       · rw [if_neg k35]
         have hk:t.kind=1∨t.kind=6:=by have:=ht.1;have:=ht.2.1;omega
         have hs:=(sing_ans (bs:=bs) (last:=last) (to:=to) hw hk).2 (by omega)
         by_cases he:(zcc bs last t to).2.2≠0
         · rw [if_pos he] at hs ⊢
           exact ⟨⟨fun h=>absurd h he,fun _=>hs⟩,fun h=>absurd h he⟩
         · rw [if_neg he] at hs ⊢
           exact ⟨⟨fun h=>(by cases h),fun _=>hs⟩,fun h=>by cases h⟩
 | d+1=>fun st t to hd hw hn3 ht h h2=>by
   unfold vlD
   by_cases k0:t.kind=0
   · rw [if_pos k0]
     exact ⟨⟨fun h=>(by cases h),fun _=>zbI (by unfold zaZ;rw [if_pos k0]) (by decide)⟩,fun h=>by cases h⟩
   · rw [if_neg k0]
     have hbeg:∀q:Bool,zbQ st q=({ dict:=q,l:=[] }::st,0):=fun q=>by
       unfold zbQ
       rw [if_neg (by rw [hw];decide),if_neg (by omega)]
     by_cases k2:t.kind=2
     · rw [if_pos k2]
       have hst:zaZ bs last st to t=(none,{ dict:=false,l:=[] }::st,to,0):=by
         unfold zaZ
         have hk:(t.kind==4)=false:=by rw [beq_eq_false_iff_ne];omega
         rw [if_neg k0,if_pos (.inl k2),hk,hbeg]
       obtain ⟨r1,r2⟩:=arr_ans (val_ans (bs:=bs) (last:=last) d) st (by omega) (bs.length+1) [] to h h2 (by omega)
       exact ⟨⟨fun h V hV=>by obtain ⟨g,hg⟩:=r1.1 h V hV;exact ⟨g,by rw [zeq hst];exact hg⟩,fun h=>by obtain ⟨g,hg⟩:=r1.2 h;exact ⟨g,by rw [zeq hst];exact hg⟩⟩,fun h=>⟨k0,r2 h⟩⟩
     · rw [if_neg k2]
       by_cases k4:t.kind=4
       · rw [if_pos k4]
         have hst:zaZ bs last st to t=(none,{ dict:=true,l:=[] }::st,to,0):=by
           unfold zaZ
           have hk:(t.kind==4)=true:=by rw [beq_iff_eq];exact k4
           rw [if_neg k0,if_pos (.inr k4),hk,hbeg]
         obtain ⟨r1,r2⟩:=dict_ans (val_ans (bs:=bs) (last:=last) d) st (by omega) (bs.length+1) [] to rfl h h2 (by omega)
         exact ⟨⟨fun h V hV=>by obtain ⟨g,hg⟩:=r1.1 h V hV;exact ⟨g,by rw [zeq hst];exact hg⟩,fun h=>by obtain ⟨g,hg⟩:=r1.2 h;exact ⟨g,by rw [zeq hst];exact hg⟩⟩,fun h=>⟨k0,r2 h⟩⟩
       · rw [if_neg k4]
         by_cases k35:t.kind=3∨t.kind=5
         · rw [if_pos k35]
           exact ⟨⟨fun h=>(by cases h),fun _=>zbI (close_err hw hn3 k35) (by decide)⟩,fun h=>by cases h⟩
         · rw [if_neg k35]
           have hk:t.kind=1∨t.kind=6:=by have:=ht.1;have:=ht.2.1;omega
           exact ⟨(sing_ans (bs:=bs) (last:=last) (to:=to) hw hk).1 (by omega),fun he=>⟨k0,singD_at h h2 he⟩⟩
def ErrS (R:PV×Int×Int):Prop:=R.2.2≠0→R=(PV.none,0,R.2.2)
theorem sing_shape (bs:List UInt8) (last:Bool) (t:Tk) (to:Int):ErrS (zcc bs last t to):=by
 unfold zcc ErrS
 split
 · split
   · exact fun _=>rfl
   · exact fun h=>absurd rfl h
 · split
   · split
     · exact fun _=>rfl
     · split
       · exact fun h=>absurd rfl h
       · exact fun h=>absurd rfl h
   · exact fun h=>absurd rfl h
theorem arr_shape (bs:List UInt8) (last:Bool) (f:Tk→Int→PV×Int×Int):∀r l k,ErrS (arrD bs last f r l k)
 | 0,_,_=>fun _=>rfl
 | r+1,l,k=>by
   unfold ErrS
   simp only [arrD]
   split
   · exact fun _=>rfl
   · split
     · exact fun h=>absurd rfl h
     · split
       · exact fun _=>rfl
       · exact arr_shape bs last f r _ _
theorem zfC (bs:List UInt8) (last:Bool) (f:Tk→Int→PV×Int×Int) (d:Nat):∀r ps tw k,ErrS (zfT bs last f d r ps tw k)
 | 0,_,_,_=>fun _=>rfl
 | r+1,ps,tw,k=>by
   unfold ErrS
   simp only [zfT]
   split
   · exact fun _=>rfl
   · split
     · split
       · exact fun _=>rfl
       · exact fun h=>absurd rfl h
     · split
       · exact fun _=>rfl
       · split
         · exact fun _=>rfl
         · split
           · exact fun _=>rfl
           · split
             · exact fun _=>rfl
             · split
               · exact fun _=>rfl
               · exact zfC bs last f d r _ _ _
theorem vl_shape (bs:List UInt8) (last:Bool) (d:Nat) (t:Tk) (to:Int):ErrS (vlD bs last d t to):=by
 cases d with
 | zero =>
   unfold ErrS vlD
   split
   · exact fun _=>rfl
   · split
     · exact fun _=>rfl
     · split
       · exact fun _=>rfl
       · split
         · exact fun _=>rfl
         · exact fun _=>rfl
 | succ d =>
   unfold vlD
   split
   · exact fun _=>rfl
   · split
     · exact arr_shape _ _ _ _ _ _
     · split
       · exact zfC _ _ _ _ _ _ _ _
       · split
         · exact fun _=>rfl
         · exact sing_shape _ _ _ _
theorem wholeD_is {bs:List UInt8} {last:Bool} {k:Int} (h:0≤k) (h2:k≤bs.length):∃g,valO bs last g [] k=some (zcB bs last k):=by
 obtain ⟨g1,g2⟩:=za2 last h h2
 have hok:=zdk last h h2
 unfold zcB
 by_cases he:(zah bs k last).2.2.2≠0
 · rw [if_pos he]
   exact ⟨1,by rw [zdV,if_pos he]⟩
 · rw [if_neg he]
   obtain ⟨⟨a1,a2⟩,-⟩:=val_ans (bs:=bs) (last:=last) 64 [] (zah bs k last).1 (zah bs k last).2.2.1 rfl rfl (fun _ v rest hv=>by cases hv) hok (by omega) g2
   by_cases hv:(vlD bs last 64 (zah bs k last).1 (zah bs k last).2.2.1).2.2=0
   · obtain ⟨g,hg⟩:=a1 hv (vlD bs last 64 (zah bs k last).1 (zah bs k last).2.2.1) ⟨0,by
       show some (_,_,(0:Int))=some _
       rw [←hv]⟩
     exact ⟨g+1,by rw [zdV,if_neg he];exact hg⟩
   · obtain ⟨g,hg⟩:=a2 hv
     refine ⟨g+1,?_⟩
     rw [zdV,if_neg he,hg]
     exact congrArg some (vl_shape bs last 64 _ _ hv).symm
theorem zeV {bs:List UInt8} {last:Bool}:∀(g:Nat) (st:List Lv) (k:Int) (V:PV×Int×Int),valO bs last g st k=some V→valO bs last (g+1) st k=some V
 | 0,_,_,_,h=>by cases h
 | g+1,st,k,V,h=>by
   rw [zdV] at h ⊢
   by_cases he:(zah bs k last).2.2.2≠0
   · rw [if_pos he] at h ⊢;exact h
   · rw [if_neg he] at h ⊢
     unfold aftO at h ⊢
     by_cases hs:(zaZ bs last st (zah bs k last).2.2.1 (zah bs k last).1).2.2.2≠0
     · rw [if_pos hs] at h ⊢;exact h
     · rw [if_neg hs] at h ⊢
       generalize zaZ bs last st (zah bs k last).2.2.1 (zah bs k last).1=Z at *
       obtain ⟨v,st2,at2,e2⟩:=Z
       cases v with
       | none=>exact zeV g st2 at2 V h
       | some x =>
         cases st2 with
         | nil=>exact h
         | cons top rest=>exact zeV g _ at2 V h
theorem ze9 {bs:List UInt8} {last:Bool} {g:Nat} {st:List Lv} {k:Int} {V:PV×Int×Int} (h:valO bs last g st k=some V):∀j,valO bs last (g+j) st k=some V
 | 0=>h
 | j+1=>zeV _ _ _ _ (ze9 h j)
theorem valO_one {bs:List UInt8} {last:Bool} {g g2:Nat} {st:List Lv} {k:Int} {V V2:PV×Int×Int} (h:valO bs last g st k=some V) (h2:valO bs last g2 st k=some V2):V=V2:=by
 have a1:=ze9 h g2
 have a2:=ze9 h2 g
 rw [Nat.add_comm] at a2
 rw [a1] at a2
 exact Option.some.inj a2
theorem parse_doc {bs:List UInt8} {last:Bool} {k:Int} (h:0≤k) (h2:k≤bs.length):valO bs last (bs.length+2) [] k=some (zcB bs last k):=by
 obtain ⟨V,hV⟩:=zez bs last (bs.length+2) [] k h h2 (by omega)
 obtain ⟨g,hg⟩:=wholeD_is (last:=last) h h2
 rw [hV,valO_one hV hg]
structure Ent where
 at_:Int:=0
 gen:Int:=0
 used:Bool:=false
 deriving DecidableEq,Inhabited
structure Grp where
 first:Int
 es:List Ent
 deriving DecidableEq,Inhabited
structure Sec where
 gs:List Grp
 tr:PV
def Sec.none:Sec:=⟨[],PV.none⟩
theorem zcN (l:List UInt8):0≤(zaJ l).1∧(zaJ l).1≤2147483647:=by
 unfold zaJ
 split
 · exact ⟨by decide,by decide⟩
 · split
   · exact ⟨by decide,by decide⟩
   · exact ⟨by show (0:Int)≤(valD l:Nat);omega,by show ((valD l:Nat):Int)≤2147483647;omega⟩
def zcW (bs:List UInt8) (k:Nat):Nat:=k+((bs.drop k).takeWhile isSp).length
def entS (s:List UInt8):Option Ent :=
 if (zaJ (s.take 10)).2≠0∨(zaJ ((s.drop 11).take 5)).2≠0∨65535<(zaJ ((s.drop 11).take 5)).1∨s.getD 10 0≠32∨s.getD 16 0≠32∨(s.getD 17 0≠110∧s.getD 17 0≠102) ∨
   (s.getD 18 0≠32∧s.getD 18 0≠10∧s.getD 18 0≠13) then none
 else some { at_:=(zaJ (s.take 10)).1,gen:=(zaJ ((s.drop 11).take 5)).1,used:=s.getD 17 0==110 }
def entV (bs:List UInt8) (last:Bool) (k:Nat):Ent×Nat×Int :=
 if bs.length<zcW bs k+19 then ({},0,zaX last)
 else match entS ((bs.drop (zcW bs k)).take 19) with
   | none=>({},0,20)
   | some x=>(x,zcW bs k+19,0)
def zdZ (bs:List UInt8) (last:Bool):Nat→Nat→List Ent→List Ent×Nat×Int
 | 0,k,l=>(l,k,0)
 | n+1,k,l=>if (entV bs last k).2.2≠0 then ([],0,(entV bs last k).2.2) else zdZ bs last n (entV bs last k).2.1 (l++[(entV bs last k).1])
def nxtV (bs:List UInt8) (last:Bool) (k:Int):Tk×Int×Int×Int :=
 if (zah bs k last).2.2.2=0∧(zah bs k last).1.kind=0 then ((zah bs k last).1,(zah bs k last).2.1,(zah bs k last).2.2.1,10) else zah bs k last
def zfi (f n:Int):Bool:=decide (0≤f)&&decide (f≤4097)&&decide (0≤n)&&decide (n≤4097-f)
def zek (t:Tk):Bool:=t.kind==6&&t.s==[116,114,97,105,108,101,114]
def zfk (t:Tk):Bool:=t.kind==6&&t.s==[120,114,101,102]
def zbN (bs:List UInt8) (last:Bool):Nat→List Grp→Int→List Grp×Int×Int
 | 0,_,_=>([],0,20)
 | g+1,gs,k =>
   let t:=nxtV bs last k
   if t.2.2.2≠0 then ([],0,t.2.2.2)
   else if zek t.1=true then (gs,t.2.2.1,0)
   else if zaE t.1=false then ([],0,20)
   else
     let u:=nxtV bs last t.2.2.1
     if u.2.2.2≠0 then ([],0,u.2.2.2)
     else if zaE u.1=false∨gs.length=64∨zfi t.1.vn u.1.vn=false then ([],0,20)
     else
       let q:=zdZ bs last u.1.vn.toNat u.2.2.1.toNat []
       if q.2.2≠0 then ([],0,q.2.2) else zbN bs last g (gs++[⟨t.1.vn,q.1⟩]) (q.2.1:Int)
def oneX (p:Tk→Bool) (V:Tk×Int×Int×Int):Int×Int :=
 if V.2.2.2≠0 then (0,V.2.2.2) else if V.1.kind=0 then (0,10) else if p V.1=false then (0,11) else (V.2.2.1,0)
def secV (bs:List UInt8) (last:Bool) (k:Int):Sec×Int×Int :=
 let o:=oneX zfk (zah bs k last)
 if o.2≠0 then (Sec.none,0,o.2)
 else
   let g:=zbN bs last 65 [] o.1
   if g.2.2≠0 then (Sec.none,0,g.2.2)
   else
     let v:=zcB bs last g.2.1
     if v.2.2≠0 then (Sec.none,0,v.2.2) else if v.1.kind≠7 then (Sec.none,0,20) else (⟨g.1,v.1⟩,v.2.1,0)
def zcE:List Grp→Int→Option Ent
 | [],_=>none
 | g::gs,n=>if g.first≤n∧n-g.first<(g.es.length:Int) then some (g.es.getD (n-g.first).toNat {}) else zcE gs n
def findP (o:Option Ent):Ent×Bool:=match o with|none=>({},false)|some e=>(e,true)
def fN (key:List UInt8):List PV→Option Nat
 | []=>none
 | [x]=>if x.kind=5∧x.s=key then some 0 else none
 | x::_::l=>if x.kind=5∧x.s=key then some 0 else (fN key l).map (· + 2)
def zgk (v:PV) (key:List UInt8):Option Nat:=if v.kind=7 then fN key v.l else none
def getV (v:PV) (key:List UInt8):Option PV:=(zgk v key).map fun k=>v.l.getD (k+1) PV.none
def getP (o:Option PV):PV×Bool:=match o with|none=>(PV.none,false)|some v=>(v,true)
def kPrev:List UInt8:=[80,114,101,118]
def zdJ:List UInt8:=[83,105,122,101]
def kRoot:List UInt8:=[82,111,111,116]
def zbp:List UInt8:=[115,116,97,114,116,120,114,101,102]
def zaR (kn:List Bool) (a:Nat):Nat:=a+((kn.drop a).takeWhile id).length
theorem zdC {kn:List Bool} {a:Nat} (h:a≤kn.length):a≤zaR kn a∧zaR kn a≤kn.length:=by
 unfold zaR
 have h1:((kn.drop a).takeWhile id).length≤(kn.drop a).length:=(List.takeWhile_sublist _).length_le
 rw [List.length_drop] at h1
 omega
def zcZ (w b:List UInt8):Nat→Option Nat
 | 0=>if (b.drop 0).take w.length=w then some 0 else none
 | k+1=>if (b.drop (k+1)).take w.length=w then some (k+1) else zcZ w b k
def zcu (w b:List UInt8):Option Nat:=if b.length<w.length then none else zcZ w b (b.length-w.length)
def zbh (bs:List UInt8) (kn:List Bool):Int×Int×Int :=
 if zaR kn (bs.length-64)<bs.length then (0,(zaR kn (bs.length-64):Int),6)
 else match zcu zbp (bs.drop (bs.length-64)) with
   | none=>(0,0,22)
   | some k =>
     let V:=zah (bs.drop (bs.length-64)) ((k:Int)+9) true
     if V.2.2.2≠0∨zaE V.1=false∨V.1.vn<0∨(bs.length:Int)≤V.1.vn then (0,0,22) else (V.1.vn,0,0)
def zc3 (bs:List UInt8) (kn:List Bool) (a:Nat):Sec×Int×Int:=secV ((bs.drop a).take (zaR kn a-a)) (zaR kn a==bs.length) 0
def zcy (bs:List UInt8) (kn:List Bool):Nat→List Int→List Sec→Int→List Sec×Int×Int
 | 0,_,_,_=>([],0,21)
 | g+1,rd,l,a =>
   if a<0∨(bs.length:Int)≤a then ([],0,20)
   else if a∈rd∨32≤l.length then ([],0,21)
   else
     let s:=zc3 bs kn a.toNat
     if s.2.2=6 then ([],(zaR kn a.toNat:Int),6)
     else if s.2.2≠0 then ([],0,20)
     else match getV s.1.tr kPrev with
       | none=>(l++[s.1],0,0)
       | some v=>if v.kind≠2 then ([],0,20) else zcy bs kn g (rd++[a]) (l++[s.1]) v.n
def zch:List Sec→Int→Int
 | [],_=>-1
 | s::l,n=>match zcE s.gs n with
   | none=>zch l n
   | some e=>if e.used=true∧e.gen=0 then e.at_ else -1
structure Tab where
 ps:List Int:=[]
 root:Int:=0
def tabV (l:List Sec):Tab×Int :=
 match l with
 | []=>({},20)
 | s::_ =>
   let size:=(getP (getV s.tr zdJ)).1
   let root:=(getP (getV s.tr kRoot)).1
   if size.kind≠2∨size.n<1∨4097<size.n then ({},20)
   else if root.kind≠8 then ({},23)
   else (⟨(List.range (size.n.toNat-1)).map fun (i:Nat)=>zch l ((i:Int)+1),root.n⟩,0)
def loadV (bs:List UInt8) (kn:List Bool):Tab×Int×Int :=
 if (zbh bs kn).2.2≠0 then ({},(zbh bs kn).2.1,(zbh bs kn).2.2)
 else
   let q:=zcy bs kn 33 [] [] (zbh bs kn).1
   if q.2.2≠0 then ({},q.2.1,q.2.2) else ((tabV q.1).1,0,(tabV q.1).2)
def tabF (t:Tab) (n:Int):Int×Bool:=if n<1∨(t.ps.length:Int)<n∨t.ps.getD (n-1).toNat 0<0 then (0,false) else (t.ps.getD (n-1).toNat 0,true)
end Go.Proofs.YtfafdeemfeaedaaGreat
namespace Go.Proofs.YtfafdeemfeaedaaGreat
open Go.RowKit
def Row (w:World) (sz:Nat) (a:Option Addr) (n cap:Nat) (xs:List Value):Prop :=
 xs.length=n * sz∧n≤cap∧cap≤maxLen∧(a=none→cap=0) ∧
   (0<n→∃b off,a=some ⟨b,off,none⟩∧b<w.heap.size∧∀j u,xs[j]?=some u→w.cell? ⟨b,off+j,none⟩=some u)
theorem cell?_keep {w w':World} (hb:Below w.heap.size w w') {a:Addr} {v:Value} (h:w.cell? a=some v):w'.cell? a=some v :=
 (hb.cell (World.block_lt_of_cell? w a h)).trans h
theorem Row.mono {w w':World} {sz:Nat} {a:Option Addr} {n cap:Nat} {xs:List Value} (h:Row w sz a n cap xs) (hb:Below w.heap.size w w'):Row w' sz a n cap xs:=by
 obtain ⟨h1,h2,h3,h4,h5⟩:=h
 refine ⟨h1,h2,h3,h4,fun hn=>?_⟩
 obtain ⟨b,off,ha,hlt,hc⟩:=h5 hn
 exact ⟨b,off,ha,Nat.lt_of_lt_of_le hlt hb.size,fun j u hj=>cell?_keep hb (hc j u hj)⟩
theorem Row.i64 {w:World} {sz:Nat} {a:Option Addr} {n cap:Nat} {xs:List Value} (h:Row w sz a n cap xs):(n:Int)≤9223372036854775807:=by
 have:=h.2.1;have:=h.2.2.1;unfold maxLen at this;omega
theorem Row.i64c {w:World} {sz:Nat} {a:Option Addr} {n cap:Nat} {xs:List Value} (h:Row w sz a n cap xs):(cap:Int)≤9223372036854775807:=by
 have:=h.2.2.1;unfold maxLen at this;omega
theorem Row.at {α:Type} {enc:α→Value} (d:α) {w:World} {a:Option Addr} {n cap:Nat} {l:List α} (h:Row w 1 a n cap (l.map enc)) (k:Nat) (hk:k<n) :
   ∃b off,a=some ⟨b,off,none⟩∧b<w.heap.size∧∀k,k<n→w.cell? ⟨b,off+k,none⟩=some (enc (l.getD k d)):=by
 obtain ⟨h1,h2,h3,h4,h5⟩:=h
 obtain ⟨b,off,rfl,hb,hc⟩:=h5 (by omega)
 refine ⟨b,off,rfl,hb,fun k hk=>hc k _ ?_⟩
 simp at h1 ⊢
 have:k<l.length:=by omega
 simp [this]
theorem Row.len1 {α:Type} {enc:α→Value} {w:World} {a:Option Addr} {n cap:Nat} {l:List α} (h:Row w 1 a n cap (l.map enc)):l.length=n:=by
 have:=h.1;simpa using this
theorem Row.nil (w:World) (sz:Nat):Row w sz none 0 0 []:=⟨by simp,Nat.le_refl _,by simp [maxLen],fun _=>rfl,fun h=>by omega⟩
theorem Row.of_owns {w:World} {base e sz:Nat} {v:Value} {n:Nat} {xs:List Value} (h:w.ownsRow base e sz v n xs) :
   ∃a cap,v=.slice a n cap∧Row w sz a n cap xs∧∀x,a=some x→base≤x.block:=by
 obtain ⟨h1,h2⟩:=h
 rcases h2 with ⟨rfl,rfl⟩|⟨g,cap,cur,rfl,hb,hg,hn,hm,hs,ht⟩
 · have:xs=[]:=List.eq_nil_of_length_eq_zero (by simpa using h1)
   subst this
   exact ⟨none,0,rfl,Row.nil w sz,fun x hx=>by cases hx⟩
 · refine ⟨some ⟨g,0,none⟩,cap,rfl,⟨h1,hn,hm,fun h=>(by cases h),fun _=>⟨g,0,rfl,(Array.getElem?_eq_some_iff.1 hg).1,fun j u hj=>?_⟩⟩,fun x hx=>by cases hx;exact hb⟩
   rw [Nat.zero_add,cell_of_row w g j cur e (0,0) hg]
   rw [←ht,List.getElem?_take] at hj
   split at hj
   · simpa using hj
   · cases hj
theorem Row.of_own {w:World} {base e sz:Nat} {a:Option Addr} {n m cap:Nat} {xs:List Value} (h:w.ownsRow base e sz (.slice a n cap) m xs):n=m∧Row w sz a n cap xs:=by
 obtain ⟨a',cap',hv,hr,_⟩:=Row.of_owns h
 simp only [Value.slice.injEq] at hv
 obtain ⟨rfl,rfl,rfl⟩:=hv
 exact ⟨rfl,hr⟩
theorem zaG {w w':World} {base e sz:Nat} {v:Value} {n:Nat} {xs:List Value} (h:w.ownsRow base e sz v n xs) (hb:Below w.heap.size w w'):w'.ownsRow base e sz v n xs:=by
 obtain ⟨h1,h2⟩:=h
 refine ⟨h1,?_⟩
 rcases h2 with h2|⟨g,cap,cur,hv,hg,hh,r⟩
 · exact .inl h2
 · exact .inr ⟨g,cap,cur,hv,hg,by rw [hb.block g (Array.getElem?_eq_some_iff.1 hh).1];exact hh,r⟩
theorem za9 {w:World} {base base' e sz:Nat} {v:Value} {n:Nat} {xs:List Value} (h:w.ownsRow base e sz v n xs) (hb:base'≤base):w.ownsRow base' e sz v n xs:=by
 obtain ⟨h1,h2⟩:=h
 refine ⟨h1,?_⟩
 rcases h2 with h2|⟨g,cap,cur,hv,hg,r⟩
 · exact .inl h2
 · exact .inr ⟨g,cap,cur,hv,by omega,r⟩
theorem zab {w w':World} (hb:Below w.heap.size w w') {b:Nat} {o:Obj} (h:w.heap[b]?=some o):w'.heap[b]?=some o:=by
 rw [hb.block b (Array.getElem?_eq_some_iff.1 h).1];exact h
structure zc6 (P:Program) (t e:TypeId) (z:Value) (size bytes:Nat):Prop where
 und:P.underlying t=some (.slice e)
 info:(P.info? e).map (fun i=>(i.zero,i.size,i.bytes))=some (some z,size,bytes)
 cells:z.cells.size=size
 pos:0<size
theorem zaI {k:IntKind} {a b:Int} (h:a=b):Ending.returned (.int k a)=.returned (.int k b):=by rw [h]
theorem zba {a b:Bool} (h:a=b):Ending.returned (.bool a)=.returned (.bool b):=by rw [h]
theorem make_full {P:Program} {w:World} {ops:Array Oper} {rest:List Oper} {o:Oper} {a:Act} {Q:Exit→Act→World→Prop} {t e:TypeId} {z:Value} {size bytes:Nat} (T:zc6 P t e z size bytes)
   (hg:o.guard=none) (l c:Operand) (hop:o.op=Op.makeSlice t l c)
   (kl kc:IntKind) (L C:Int) (n:Nat) (hl:a.eval l=.int kl L) (hc:a.eval c=.int kc C) (hL:L=(n:Int)) (hC:C=(n:Int)) (b2:bytes * n≤281474976710656) (b3:n≤maxLen)
   (hK:∀w',w'.ownsRow w.heap.size e size (.slice (some ⟨w.heap.size,0,none⟩) n n) n (madeCells z.cells (n * size)).toList→Below w.heap.size w w'→wpList P ops Q rest (a.put o.dst (.slice (some ⟨w.heap.size,0,none⟩) n n)) w') :
   wpList P ops Q (o::rest) a w:=by
 obtain ⟨i,hi,hz,hs,hb⟩:=info_parts T.info
 subst hb
 exact wpList_make_full w hg l c t hop w.heap.size e i z size T.und hi hz hs kl kc L C n hl hc hL hC b2 b3 (Nat.le_refl _)
   fun w' h1 h2=>hK w' h1 ((Below.refl _ _).grown h2 (Nat.le_refl _) (fun k hk=>by cases hk))
def fl (n:Nat) (enc:Nat→Value):List Value:=(List.range n).map enc
theorem zbW (n:Nat) (enc:Nat→Value):(fl n enc).length=n:=by simp [fl]
theorem zeE {n:Nat} (enc:Nat→Value) {i:Nat} (h:i<n):(fl n enc)[i]?=some (enc i):=by simp [fl,h]
theorem fl_set (n:Nat) (enc:Nat→Value) (i:Nat) (v:Value):(fl n enc).set i v=fl n (fun j=>if j=i then v else enc j):=by
 apply List.ext_getElem?
 intro j
 simp only [fl,List.getElem?_set,List.getElem?_map,List.length_map,List.length_range]
 by_cases hj:j<n
 · by_cases hi:i=j
   · subst hi;simp [hj]
   · simp [hi,hj,Ne.symm hi]
 · by_cases hi:i=j
   · subst hi;simp [hj]
   · simp [hi,hj]
theorem zds {n:Nat} {f g:Nat→Value} (h:∀i,i<n→f i=g i):fl n f=fl n g:=by
 apply List.map_congr_left
 intro i hi
 exact h i (by simpa using hi)
theorem zei (n:Nat) (v:Value):List.replicate n v=fl n (fun _=>v):=by
 apply List.ext_getElem?
 intro j
 by_cases hj:j<n<;>simp [fl,hj]
theorem zac {w:World} {b:Nat} (o:Obj) (h:b=w.heap.size):(w.alloc o).heap[b]?=some o:=by subst h;exact heap_alloc_new w o
theorem zal {w:World} {b:Nat} (o:Obj) {o':Obj} (h:w.heap[b]?=some o'):(w.alloc o).heap[b]?=some o':=by
 rw [Below.heap_alloc w o b (Array.getElem?_eq_some_iff.1 h).1];exact h
theorem zap (w:World) (o:Obj):(w.alloc o).heap.size=w.heap.size+1:=by
 show (w.heap.push o).size=_
 simp
theorem zak (w:World) (o:Obj):Below w.heap.size w (w.alloc o):=(Below.refl _ _).alloc (Nat.le_refl _) o
theorem zbD (w:World) (o o2:Obj):Below w.heap.size w ((w.alloc o).alloc o2):=(zak w o).alloc (by rw [zap];omega) o2
theorem belowA3 (w:World) (o o2 o3:Obj):Below w.heap.size w (((w.alloc o).alloc o2).alloc o3):=(zbD w o o2).alloc (by rw [zap,zap];omega) o3
theorem zaH {P:Program} {w:World} {ops:Array Oper} {rest:List Oper} {o:Oper} {a:Act} {Q:Exit→Act→World→Prop} {t e:TypeId} {z:Value} {size bytes:Nat} (T:zc6 P t e z size bytes)
   (hgd:o.guard=none) (s x:Operand) (ho:o.op=.call { callee:=.builtin .append,args:=#[s,x],argTypes:=#[t,t] })
   (base:Nat) (v:Value) (n:Nat) (xs:List Value) (hs:a.eval s=v) (hown:w.ownsRow base e size v n xs)
   (ao:Option Addr) (m c:Nat) (news:List Value) (hx:a.eval x=.slice ao m c) (hr:Row w size ao m c news) (h1:∀u∈news,u.oneCell'=true)
   (h63:n+m≤maxLen) (hbytes:(n+m) * bytes≤140737488355328) (hbase:base≤w.heap.size)
   (h:∀v' w',w'.ownsRow base e size v' (n+m) (xs++news)→w.grownBy w' v.ownBlock→(v'=.slice none 0 0↔v=.slice none 0 0∧m=0)→wpList P ops Q rest (a.put o.dst v') w'):wpList P ops Q (o::rest) a w:=by
 obtain ⟨i,hi,hz,hs',hb⟩:=info_parts T.info
 subst hb
 obtain ⟨r1,r2,r3,r4,r5⟩:=hr
 cases ao with
 | some ad =>
   refine wpList_append_own w hgd s x t ho base e i z size i.bytes T.und hi hz hs' rfl T.cells T.pos v n xs hs hown ad m c news hx r1 (fun j u hj=>?_) h1 h63 hbytes hbase h
   by_cases hm:0<m
   · obtain ⟨b,off,hab,_,hc⟩:=r5 hm
     obtain rfl:=Option.some.inj hab
     rw [Addr.add_lit];exact hc j u hj
   · obtain rfl:m=0:=by omega
     have:news=[]:=List.eq_nil_of_length_eq_zero (by simpa using r1)
     subst this;simp at hj
 | none =>
   obtain rfl:=r4 rfl
   obtain rfl:m=0:=by omega
   have:news=[]:=List.eq_nil_of_length_eq_zero (by simpa using r1)
   subst this
   refine wpList_plain hgd fun K hK=>?_
   have hrun:=run_append_owned_none (P:=P) w base t o.type e i size T.und hi v n xs hown
   unfold Oper.wp
   simp [execOp,ho,resolve,invoke,builtin,hs,hx,hrun,Result.andThen]
   exact hK _ _ (h v w (by simpa using hown) ⟨rfl,rfl,rfl,Nat.le_refl _,fun _ _ _=>rfl⟩ (by simp))
def NN (a:Option Addr) (v:Value):Prop:=a≠none→v≠.slice none 0 0
theorem below_grown {B:Nat} {w0 w w':World} {row:Option Nat} (h:Below B w0 w) (hg:w.grownBy w' row) (hB:B≤w.heap.size) (hr:∀k,row=some k→B≤k):Below B w0 w':=h.grown hg hB hr
theorem zbk (w:World) (x:Value) (e:TypeId):Row (w.alloc (.cells #[x] e)) 1 (some ⟨w.heap.size,0,none⟩) 1 1 [x] :=
 ⟨rfl,Nat.le_refl _,by simp [maxLen],fun h=>(by cases h),fun _=>⟨w.heap.size,0,rfl,by rw [zap];omega,fun j u hj=>by
   rw [cell_of_row _ _ _ _ _ _ (zac _ rfl)]
   rcases j with _|j
   · simpa using hj
   · simp at hj⟩⟩
theorem zbz {x:Value} (h:x.oneCell'=true):∀u∈[x],u.oneCell'=true:=by
 intro u hu;simp at hu;subst hu;exact h
theorem below_cell {B:Nat} {w w':World} (h:Below B w w') {b o:Nat} {v:Value} (hb:b<B) (hc:w.cell? ⟨b,o,none⟩=some v):w'.cell? ⟨b,o,none⟩=some v:=(h.cell (p:=⟨b,o,none⟩) hb).trans hc
theorem Row.below {B:Nat} {w w':World} {sz:Nat} {a:Option Addr} {n cap:Nat} {xs:List Value} (h:Row w sz a n cap xs) (hb:Below B w w') (ha:∀x,a=some x→x.block<B):Row w' sz a n cap xs:=by
 obtain ⟨h1,h2,h3,h4,h5⟩:=h
 refine ⟨h1,h2,h3,h4,fun hn=>?_⟩
 obtain ⟨b,off,ha',hlt,hc⟩:=h5 hn
 exact ⟨b,off,ha',Nat.lt_of_lt_of_le hlt hb.size,fun j u hj=>below_cell hb (ha _ ha') (hc j u hj)⟩
theorem Row.lt {w:World} {sz:Nat} {a:Option Addr} {n cap:Nat} {xs:List Value} (h:Row w sz a n cap xs) (hn:0<n):∀x,a=some x→x.block<w.heap.size:=by
 obtain ⟨b,off,ha,hlt,_⟩:=h.2.2.2.2 hn
 intro x hx
 rw [ha] at hx;cases hx;exact hlt
theorem zfh {w w':World} {row:Option Nat} {B:Nat} (hg:w.grownBy w' row) (hB:B≤w.heap.size) (hr:∀k,row=some k→B≤k):Below B w w' :=
 (Below.refl B w).grown hg hB hr
end Go.Proofs.YtfafdeemfeaedaaGreat
