/-
  Our texts NumP to App, in one.
-/
import Derived.Lib.Hide
import Derived.WalkKit
import Derived.WalkSpells
import Derived.WalkLawsBesides
set_option maxRecDepth 8000
set_option maxHeartbeats 8000000
namespace Go.Proofs.YtfafdeemfeaedaaGreat
theorem yb {p:Prop} (h:p):Go.RowKit.Hid p:=h
theorem yd {p:Prop} [inst:Decidable p] (h:p):decide p=true:=decide_eq_true h
theorem ye {p:Prop} [inst:Decidable p] (h:¬p):decide p=false:=decide_eq_false h
theorem yf {α:Type _} [BEq α] [LawfulBEq α] {a b:α}:(a==b)=false↔a≠b:=beq_eq_false_iff_ne
theorem yg {c:Prop} {h:Decidable c} (hc:c) {α:Sort _} {t e:α}:ite c t e=t:=if_pos hc
theorem yh {c:Prop} {h:Decidable c} (hc:¬c) {α:Sort _} {t e:α}:ite c t e=e:=if_neg hc
theorem yi {P:Program} {fn:Func} {R:Ending→World→Prop} {a:Act} {w:World} {v:Value} (hr:(results fn a.tmps).run P w=.ok v w) (hd:a.defers=[]) (hR:R (.returned v) w):bodyPost P fn R .ret a w:=bodyPost_ret hr hd hR
theorem yj:(!false)=true:=rfl
theorem ym {α:Type _} {i:Nat} {l:List α}:(l.drop i).length=l.length-i:=List.length_drop
theorem yo {w w1 w2:World} (h:Go.RowKit.Hid (Go.RowKit.Below w.heap.size w w1)) (h2:Go.RowKit.Below w1.heap.size w1 w2):Go.RowKit.Hid (Go.RowKit.Below w.heap.size w w2):=h.out.trans (h2.mono h.out.size)
theorem yp (n:Nat):n≤n:=Nat.le_refl n
end Go.Proofs.YtfafdeemfeaedaaGreat
open Go
variable {A A0 B N c2 e f g i j k kc m mb n' off p r tot u:Nat} {F G S U X:Nat->Prop} {L R T T':List (Int×Int)} {P at2 er gap tto x:Int} {W W' W0 W1 W2 W8 w' w0 w1 w2:World} {ad gv sl sv sx v' x0 x1 x2 x3 x4 y0 y1 y2 y3 z:Value} {c:UInt8} {cs xs:List Value} {ds rd:List Int} {ka sa:Option Addr} {key:List UInt8} {ov yq:Bool} {t ty:TypeId}
namespace Go.Proofs.YtfafdeemfeaedaaGreat
theorem snoc_ind {α:Type} {p:List α->Prop} (h0:p []) (h1:∀l c,p l->p (l++[c])) (l:List α):p l:=by
 have h:∀r:List α,p r.reverse:=by
  intro r
  induction r with
  | nil=>exact h0
  | cons c r ih=>rw [List.reverse_cons];exact h1 _ _ ih
 have h2:=h l.reverse
 rwa [List.reverse_reverse] at h2
def isDg (c:UInt8):Bool:=decide (48<=c.toNat)&&decide (c.toNat<=57)
def dgV (c:UInt8):Nat:=c.toNat-48
def decV:List UInt8->Nat->Nat
 | [],n=>n
 | c::l,n=>decV l (10*n+dgV c)
def valD (l:List UInt8):Nat:=decV l 0
theorem za6 :isDg c=true↔48<=c.toNat/\c.toNat<=57:=by unfold isDg;simp
theorem zbA :isDg c=false↔c.toNat<48\/57<c.toNat:=by
 rw [<-Bool.not_eq_true,za6];omega
theorem dgV_le (h:isDg c=true):dgV c<=9:=by rw [za6] at h;unfold dgV;omega
theorem zdc (h:isDg c=true):(dgV c:Int)=(c.toNat:Int)-48:=by rw [za6] at h;unfold dgV;omega
theorem zcQ:∀(l m:List UInt8) (n:Nat),decV (l++m) n=decV m (decV l n)
 | [],_,_=>rfl
 | c::l,m,n=>zcQ l m (10*n+dgV c)
theorem decV_ge:∀(l:List UInt8) (n:Nat),n<=decV l n
 | [],_=>yp _
 | c::l,n=>Nat.le_trans (by omega) (decV_ge l (10*n+dgV c))
theorem valD_nil:valD []=0:=rfl
theorem zcj (l:List UInt8) (c:UInt8):valD (l++[c])=10*valD l+dgV c:=by unfold valD;rw [zcQ];rfl
theorem zfY (l m:List UInt8):valD l<=valD (l++m):=by unfold valD;rw [zcQ];exact decV_ge _ _
theorem zem (l:List UInt8):∀j,valD (l++List.replicate j 48)=valD l*10 ^ j
 | 0=>by simp
 | j+1=>by
  rw [List.replicate_succ',<-List.append_assoc,zcj,zem l j,Nat.pow_succ,show dgV 48=0 from rfl]
  rw [Nat.add_zero,Nat.mul_comm (10 ^ j) 10,<-Nat.mul_assoc,<-Nat.mul_assoc,Nat.mul_comm (valD l) 10]
theorem zdo (l:List UInt8) (c:UInt8) (h:l.all isDg=true) (hc:isDg c=true):(l++[c]).all isDg=true:=by simp [hc];simpa using h
theorem valD_lt:∀(l:List UInt8),l.all isDg=true->valD l<10 ^ l.length:=by
 refine snoc_ind (fun _=>by decide) fun l c ih=>?_
 ·intro h
  rw [List.all_append,Bool.and_eq_true] at h
  have h1:=ih h.1
  have h2:=dgV_le (c:=c) (by simpa using h.2)
  rw [zcj,List.length_append,List.length_singleton,Nat.pow_succ]
  omega
def zaC (l:List UInt8):Int×Int:=if l=[]\/l.all isDg=false then (0,11) else if 2147483647<valD l then (0,5) else (((valD l:Nat):Int),0)
theorem zfi:zaC []=(0,11):=by simp [zaC]
theorem zc4 {l:List UInt8} (h:l.all isDg=false):zaC l=(0,11):=by unfold zaC;rw [yg (.inr h)]
theorem zc2 {l:List UInt8} (hn:l≠[]) (h:l.all isDg=true) (ho:2147483647<valD l):zaC l=(0,5):=by
 unfold zaC;rw [yh (by rw [h];simpa using hn),yg ho]
theorem zdk {l:List UInt8} (hn:l≠[]) (h:l.all isDg=true) (ho:valD l<=2147483647):zaC l=(((valD l:Nat):Int),0):=by
 unfold zaC;rw [yh (by rw [h];simpa using hn),yh (by omega)]
def mil (r:List UInt8):Nat:=valD ((r++List.replicate 6 48).take 6)
theorem mil_short {r:List UInt8} (h:r.length<=6):mil r=valD r*10 ^ (6-r.length):=by
 unfold mil
 rw [List.take_append,List.take_of_length_le h,List.take_replicate,Nat.min_eq_left (by omega),zem]
theorem zho {r:List UInt8} (h:6<=r.length):mil r=valD (r.take 6):=by
 unfold mil
 rw [List.take_append_of_le_length h]
theorem mil_snoc_lt (r:List UInt8) (c:UInt8) (h:r.length<6):mil (r++[c])=mil r+10 ^ (5-r.length)*dgV c:=by
 rw [mil_short (by simp;omega),mil_short (by omega),zcj,List.length_append,List.length_singleton]
 rw [show 6-r.length=(5-r.length)+1 from by omega,show 6-(r.length+1)=5-r.length from by omega,Nat.pow_succ,Nat.add_mul]
 rw [Nat.mul_comm (dgV c)]
 congr 1
 rw [Nat.mul_comm 10 (valD r),Nat.mul_assoc,Nat.mul_comm 10]
theorem mil_snoc_ge (r:List UInt8) (c:UInt8) (h:6<=r.length):mil (r++[c])=mil r:=by
 rw [zho h,zho (by simp;omega),List.take_append_of_le_length h]
theorem zgr (r:List UInt8) (h:r.all isDg=true):mil r<1000000:=by
 by_cases hl:r.length<=6
 ·have:=valD_lt ((r++List.replicate 6 48).take 6) (by
   rw [List.all_eq_true]
   intro x hx
   have hx:=List.mem_of_mem_take hx
   rw [List.mem_append] at hx
   rcases hx with hx|hx
   ·exact List.all_eq_true.1 h x hx
   ·rw [List.mem_replicate] at hx;rw [hx.2];rfl)
  unfold mil
  have hlen:((r++List.replicate 6 48).take 6:List UInt8).length=6:=by simp
  rw [hlen] at this
  omega
 ·rw [zho (by omega)]
  have:=valD_lt (r.take 6) (by rw [List.all_eq_true];intro x hx;exact List.all_eq_true.1 h x (List.mem_of_mem_take hx))
  rw [List.length_take,Nat.min_eq_left (by omega)] at this
  omega
def zc3 (s:List UInt8):Int:=if s.head?=some 45 then -1 else 1
def zde (s:List UInt8):List UInt8:=if s.head?=some 45\/s.head?=some 43 then s.tail else s
def zbp (b:List UInt8):List UInt8:=b.takeWhile (· != 46)
def zcB (b:List UInt8):List UInt8:=(b.dropWhile (· != 46)).tail
def zex (b:List UInt8):Bool:=b.any (·==46)
def za9 (sg:Int) (b:List UInt8):Int×Int×Int :=
 if (zbp b).length+(zcB b).length=0\/(zbp b).all isDg=false\/(zcB b).all isDg=false then (0,0,11)
 else if 2147483647<valD (zbp b) then (0,0,5)
 else if zex b=false then (2,sg*(valD (zbp b):Nat),0)
 else if 2147483647000000<valD (zbp b)*1000000+mil (zcB b) then (0,0,5)
 else (3,sg*((valD (zbp b)*1000000+mil (zcB b):Nat):Int),0)
def zaQ (s:List UInt8):Int×Int×Int:=za9 (zc3 s) (zde s)
theorem tw_app (w t:List UInt8) (hw:∀x∈w,x≠46):zbp (w++46::t)=w/\zcB (w++46::t)=t/\zex (w++46::t)=true:=by
 induction w with
 | nil=>simp [zbp,zcB,zex]
 | cons x w ih =>
  have hx:x≠46:=hw x (List.mem_cons_self)
  obtain ⟨h1,h2,h3⟩:=ih fun y hy=>hw y (List.mem_cons_of_mem _ hy)
  refine ⟨?_,?_,by simp [zex]⟩
  ·unfold zbp at *
   rw [List.cons_append,List.takeWhile_cons_of_pos (by simpa using hx),h1]
  ·unfold zcB at *
   rw [List.cons_append,List.dropWhile_cons_of_pos (by simpa using hx),h2]
theorem tw_none (b:List UInt8) (hb:∀x∈b,x≠46):zbp b=b/\zcB b=[]/\zex b=false:=by
 induction b with
 | nil=>simp [zbp,zcB,zex]
 | cons x w ih =>
  have hx:x≠46:=hb x (List.mem_cons_self)
  obtain ⟨h1,h2,h3⟩:=ih fun y hy=>hb y (List.mem_cons_of_mem _ hy)
  refine ⟨?_,?_,?_⟩
  ·unfold zbp at *
   rw [List.takeWhile_cons_of_pos (by simpa using hx),h1]
  ·unfold zcB at *
   rw [List.dropWhile_cons_of_pos (by simpa using hx),h2]
  ·unfold zex at *
   rw [List.any_cons,h3];simpa using hx
theorem dg_ne {x:UInt8} (h:isDg x=true):x≠46:=by rintro rfl;revert h;decide
theorem all_ne {w:List UInt8} (h:w.all isDg=true):∀x∈w,x≠46:=fun x hx=>dg_ne (List.all_eq_true.1 h x hx)
theorem tw_mem (w t:List UInt8) (c:UInt8) (hw:∀x∈w,x≠46) (hc:c≠46):c∈zbp (w++c::t):=by
 induction w with
 | nil=>unfold zbp;rw [List.nil_append,List.takeWhile_cons_of_pos (by simpa using hc)];exact List.mem_cons_self
 | cons x w ih =>
  have hx:x≠46:=hw x (List.mem_cons_self)
  unfold zbp at *
  rw [List.cons_append,List.takeWhile_cons_of_pos (by simpa using hx)]
  exact List.mem_cons_of_mem _ (ih fun y hy=>hw y (List.mem_cons_of_mem _ hy))
theorem zcG {l:List UInt8} (h:c∈l) (hc:isDg c=false):l.all isDg=false:=by
 rw [<-Bool.not_eq_true,List.all_eq_true];intro h2;rw [h2 c h] at hc;exact absurd hc (by decide)
theorem zbR (sg:Int) (w t:List UInt8) (c:UInt8) (hw:w.all isDg=true) (hc:c≠46) (hd:isDg c=false):za9 sg (w++c::t)=(0,0,11):=by
 unfold za9
 rw [yg (.inr (.inl (zcG (tw_mem w t c (all_ne hw) hc) hd)))]
theorem parseB_bad2 (sg:Int) (w r t:List UInt8) (c:UInt8) (hw:w.all isDg=true) (hd:isDg c=false):za9 sg (w++46::(r++c::t))=(0,0,11):=by
 obtain ⟨h1,h2,h3⟩:=tw_app w (r++c::t) (all_ne hw)
 unfold za9
 rw [h2,yg (.inr (.inr (zcG (c:=c) (by simp) hd)))]
theorem parseB_int (sg:Int) (b:List UInt8) (h:b.all isDg=true):za9 sg b=if b.length=0 then (0,0,11) else if 2147483647<valD b then (0,0,5) else (2,sg*(valD b:Nat),0):=by
 obtain ⟨h1,h2,h3⟩:=tw_none b (all_ne h)
 unfold za9
 rw [h1,h2,h3]
 by_cases hb:b.length=0
 ·rw [yg (.inl (by simp [hb])),yg hb]
 ·rw [yh (by rw [h];simp;intro e;exact hb (by simp [e])),yh hb];rfl
theorem parseB_real (sg:Int) (w r:List UInt8) (hw:w.all isDg=true) (hr:r.all isDg=true) :
  za9 sg (w++46::r)=if w.length+r.length=0 then (0,0,11) else if 2147483647<valD w\/(valD w=2147483647/\0<mil r) then (0,0,5) else (3,sg*((valD w*1000000+mil r:Nat):Int),0):=by
 obtain ⟨h1,h2,h3⟩:=tw_app w r (all_ne hw)
 have hm:=zgr r hr
 unfold za9
 rw [h1,h2,h3]
 by_cases hb:w.length+r.length=0
 ·rw [yg (.inl hb),yg hb]
 ·rw [yh (by rw [hw,hr];simp;intro e1 e2;exact hb (by simp [e1,e2])),yh hb,yh (by decide:¬(true=false))]
  by_cases h4:2147483647<valD w
  ·rw [yg h4,yg (.inl h4)]
  ·rw [yh h4]
   by_cases h5:valD w=2147483647/\0<mil r
   ·rw [yg (by omega),yg (.inr h5)]
   ·rw [yh (by omega),yh (by omega)]
def zcb (k n:Int) (bare:Bool):Int :=
 if bare=true/\((k=2/\-2147483647<=n/\n<=2147483647)\/(k=3/\-2147483647000000<=n/\n<=2147483647000000)) then 0 else 2
theorem valD_zl (j:Nat) (l:List UInt8):valD (List.replicate j 48++l)=valD l:=by
 have:=zem [] j
 simp only [List.nil_append,valD_nil,Nat.zero_mul] at this
 unfold valD at *
 rw [zcQ,this]
theorem parseV_check (s:List UInt8) (h:(zaQ s).2.2=0):zcb (zaQ s).1 (zaQ s).2.1 true=0:=by
 unfold zaQ za9 at *
 have hsg:zc3 s=1\/zc3 s=-1:=by unfold zc3;split<;>simp
 generalize zc3 s=sg at *
 generalize zbp (zde s)=w at *
 generalize zcB (zde s)=r at *
 generalize zex (zde s)=p at *
 split at h
 ·simp at h
 ·rename_i c1
  rw [yh c1]
  split at h
  ·simp at h
  ·rename_i c2
   rw [yh c2]
   split at h
   ·rename_i c3
    rw [yg c3]
    unfold zcb
    rw [yg]
    refine ⟨rfl,.inl ⟨rfl,?_⟩⟩
    simp only
    rcases hsg with rfl|rfl<;>omega
   ·rename_i c3
    rw [yh c3]
    split at h
    ·simp at h
    ·rename_i c4
     rw [yh c4]
     unfold zcb
     rw [yg]
     refine ⟨rfl,.inr ⟨rfl,?_⟩⟩
     simp only
     rcases hsg with rfl|rfl<;>omega
def isSp (c:UInt8):Bool:=c==0||c==9||c==10||c==12||c==13||c==32
def isDl (c:UInt8):Bool:=c==40||c==41||c==60||c==62||c==91||c==93||c==123||c==125||c==47||c==37
def isRg (c:UInt8):Bool:=!isSp c&&!isDl c
def isOc (c:UInt8):Bool:=decide (48<=c.toNat)&&decide (c.toNat<=55)
def hexD (c:UInt8):Int :=
 if 48<=c.toNat/\c.toNat<=57 then (c.toNat:Int)-48 else if 97<=c.toNat/\c.toNat<=102 then (c.toNat:Int)-87 else if 65<=c.toNat/\c.toNat<=70 then (c.toNat:Int)-55 else -1
theorem zgW (c:UInt8):-1<=hexD c/\hexD c<=15:=by
 unfold hexD
 repeat' split
 all_goals omega
def zbh:Bool->List UInt8->Nat
 | _,[]=>0
 | true,c::l=>1+zbh (c != 10&&c != 13) l
 | false,c::l=>if c=37 then 1+zbh true l else if isSp c=true then 1+zbh false l else 0
theorem zdN:∀(b:Bool) (l:List UInt8),zbh b l<=l.length
 | _,[]=>by simp [zbh]
 | true,c::l=>by have:=zdN (c != 10&&c != 13) l;simp only [zbh,List.length_cons];omega
 | false,c::l=>by
  have h1:=zdN true l
  have h2:=zdN false l
  simp only [zbh,List.length_cons]
  split
  ·omega
  ·split<;>omega
def zaM (bs:List UInt8) (k:Int):Nat:=if k<0 then 0 else if (bs.length:Int)<=k then bs.length else k.toNat+zbh false (bs.drop k.toNat)
def zd7 (yq:Bool):List UInt8->Option Nat
 | []=>if yq then some 0 else none
 | d::_=>some (if d=10 then 1 else 0)
def octV (yq:Bool) (c:UInt8):List UInt8->Option (Nat×Nat)
 | []=>if yq then some (c.toNat-48,1) else none
 | d::t=>if isOc d=true then
   (match t with
    | []=>if yq then some (8*(c.toNat-48)+(d.toNat-48),2) else none
    | e::_=>if isOc e=true then some (8*(8*(c.toNat-48)+(d.toNat-48))+(e.toNat-48),3) else some (8*(c.toNat-48)+(d.toNat-48),2))
  else some (c.toNat-48,1)
def escV (yq:Bool):List UInt8->Option (List UInt8×Nat)
 | []=>none
 | c::t =>
  if c=110 then some ([10],1) else if c=114 then some ([13],1) else if c=116 then some ([9],1) else if c=98 then some ([8],1) else if c=102 then some ([12],1)
  else if isOc c=true then (octV yq c t).map fun x=>([UInt8.ofNat x.1],x.2)
  else if c=10 then some ([],1)
  else if c=13 then (zd7 yq t).map fun k=>([],k+1)
  else some ([c],1)
def zbd (yq:Bool) (deep:Nat) (out:List UInt8) (l:List UInt8):Option (List UInt8×List UInt8) :=
 match l with
 | []=>none
 | c::t =>
  if c=92 then (match escV yq t with|none=>none|some (x,k)=>zbd yq deep (out++x) (t.drop k))
  else if c=13 then (match zd7 yq t with|none=>none|some k=>zbd yq deep (out++[10]) (t.drop k))
  else if c=40 then zbd yq (deep+1) (out++[c]) t
  else if c=41 then (if deep=1 then some (out,t) else zbd yq (deep-1) (out++[c]) t)
  else zbd yq deep (out++[c]) t
termination_by l.length
decreasing_by all_goals (simp only [List.length_cons,ym];omega)
def hexV (out:List UInt8) (half:Int):List UInt8->Int×List UInt8×List UInt8
 | []=>(1,[],[])
 | c::t =>
  if c=62 then (0,if 0<=half then out++[UInt8.ofNat (16*half).toNat] else out,t)
  else if isSp c=true then hexV out half t
  else if hexD c<0 then (11,[],[])
  else if half<0 then hexV out (hexD c) t
  else hexV (out++[UInt8.ofNat (16*half+hexD c).toNat]) (-1) t
def zcd (out:List UInt8):List UInt8->Option (List UInt8)
 | []=>some out
 | c::t=>if c=35 then
   (match t with
    | x::y::u=>if hexD x<0\/hexD y<0 then none else zcd (out++[UInt8.ofNat (16*hexD x+hexD y).toNat]) u
    | _=>none)
  else zcd (out++[c]) t
def zdu (w:List UInt8):Option (List UInt8):=match zcd [] w with|none=>none|some o=>if 127<o.length\/(0:UInt8)∈o then none else some o
structure Tk where
 kind:Int
 vk:Int:=0
 vn:Int:=0
 vs:List UInt8:=[]
 s:List UInt8:=[]
deriving DecidableEq
def za5 (yq:Bool):Int:=if yq then 10 else 6
def tokV (yq:Bool) (c:UInt8) (t:List UInt8):Int×Tk×List UInt8 :=
 if isRg c=true then
  (let w:=(c::t).takeWhile isRg;let r:=(c::t).dropWhile isRg
   if r=[]/\yq=false then (6,{ kind:=0 },[])
   else if isDg c=true\/c=43\/c=45\/c=46 then ((zaQ w).2.2,{ kind:=1,vk:=(zaQ w).1,vn:=(zaQ w).2.1 },r)
   else (0,{ kind:=6,s:=w },r))
 else if c=91 then (0,{ kind:=2 },t)
 else if c=93 then (0,{ kind:=3 },t)
 else if c=60 then
  (match t with
   | []=>(za5 yq,{ kind:=0 },[])
   | d::u=>if d=60 then (0,{ kind:=4 },u) else
    (match hexV [] (-1) (d::u) with
     |(e,x,r)=>if e=0 then (0,{ kind:=1,vk:=4,vs:=x },r) else if e=1 then (za5 yq,{ kind:=0 },[]) else (11,{ kind:=0 },[])))
 else if c=62 then
  (match t with
   | []=>(if yq then 11 else 6,{ kind:=0 },[])
   | d::u=>if d=62 then (0,{ kind:=5 },u) else (11,{ kind:=0 },[]))
 else if c=40 then
  (match zbd yq 1 [] t with
   | none=>(za5 yq,{ kind:=0 },[])
   | some (x,r)=>(0,{ kind:=1,vk:=4,vs:=x },r))
 else if c=47 then
  (let w:=t.takeWhile isRg;let r:=t.dropWhile isRg
   if r=[]/\yq=false then (6,{ kind:=0 },[])
   else match zdu w with
   | none=>(17,{ kind:=0 },[])
   | some o=>(0,{ kind:=1,vk:=5,vs:=o },r))
 else (11,{ kind:=0 },[])
def zal (bs:List UInt8) (k:Int) (yq:Bool):Tk×Int×Int×Int :=
 if k<0\/(bs.length:Int)<k then ({ kind:=0 },0,0,2)
 else
  (let f:=zaM bs k
   match bs.drop f with
   | []=>({ kind:=0 },(f:Int),(f:Int),if yq then 0 else 6)
   | c::t =>
    (match tokV yq c t with
     |(e,x,r)=>if e=0 then (x,(f:Int),(bs.length:Int)-(r.length:Int),0) else ({ kind:=0 },(f:Int),(f:Int),e)))
theorem zdh:∀(b:Bool) (l:List UInt8),zbh false (l.drop (zbh b l))=0
 | _,[]=>by simp [zbh]
 | true,c::l=>by
  simp only [zbh]
  rw [Nat.add_comm,List.drop_succ_cons];exact zdh _ l
 | false,c::l=>by
  by_cases h:c=37
  ·rw [zbh,yg h,Nat.add_comm,List.drop_succ_cons];exact zdh _ l
  ·by_cases h2:isSp c=true
   ·rw [zbh,yh h,yg h2,Nat.add_comm,List.drop_succ_cons];exact zdh _ l
   ·rw [zbh,yh h,yh h2,List.drop_zero,zbh,yh h,yh h2]
theorem ze1 {bs:List UInt8} {k:Int} (h:0<=k) (h2:k<=bs.length):k<=(zaM bs k:Nat)/\zaM bs k<=bs.length:=by
 unfold zaM
 rw [yh (by omega)]
 split
 ·omega
 ·have:=zdN false (bs.drop k.toNat)
  rw [ym] at this;omega
theorem zgn {bs:List UInt8} {k:Int} (h:0<=k) (h2:k<=bs.length):zaM bs (zaM bs k:Nat)=zaM bs k:=by
 have hb:=ze1 h h2
 by_cases h3:(bs.length:Int)<=(zaM bs k:Nat)
 ·have e:zaM bs k=bs.length:=by omega
  rw [e];unfold zaM;rw [yh (by omega),yg (by omega)]
 ·have e:zaM bs k=k.toNat+zbh false (bs.drop k.toNat):=by
   unfold zaM
   rw [yh (by omega),yh (by omega)]
  have e3:zbh false (bs.drop (zaM bs k))=0:=by
   rw [e,<-List.drop_drop]
   exact zdh false _
  have gen:∀f:Nat,¬(bs.length:Int)<=(f:Int)->zbh false (bs.drop f)=0->zaM bs (f:Int)=f:=fun f h1 h2=>by
   unfold zaM
   rw [yh (by omega),yh h1,Int.toNat_natCast,h2];rfl
  exact gen _ h3 e3
theorem zdX (u:List UInt8):∀(l:List UInt8) (out:List UInt8) (half:Int),((hexV out half l).1=0->hexV out half (l++u)=(0,(hexV out half l).2.1,(hexV out half l).2.2++u)/\(hexV out half l).2.2.length<l.length) /\
  ((hexV out half l).1≠0->(hexV out half l).1≠1->(hexV out half l).1=11/\hexV out half (l++u)=(11,[],[]))
 | [],out,half=>by simp [hexV]
 | c::t,out,half=>by
  rw [List.cons_append]
  simp only [hexV,List.length_cons]
  by_cases h1:c=62
  ·simp only [yg h1]
   exact ⟨fun _=>⟨by simp,by omega⟩,fun h=>absurd rfl h⟩
  simp only [yh h1]
  by_cases h2:isSp c=true
  ·simp only [yg h2]
   obtain ⟨g1,g2⟩:=zdX u t out half
   exact ⟨fun h=>⟨(g1 h).1,by have:=(g1 h).2;omega⟩,g2⟩
  simp only [yh h2]
  by_cases h3:hexD c<0
  ·simp only [yg h3]
   exact ⟨fun h=>by simp at h,fun _ _=>⟨by simp,by simp⟩⟩
  simp only [yh h3]
  by_cases h4:half<0
  ·simp only [yg h4]
   obtain ⟨g1,g2⟩:=zdX u t out (hexD c)
   exact ⟨fun h=>⟨(g1 h).1,by have:=(g1 h).2;omega⟩,g2⟩
  simp only [yh h4]
  obtain ⟨g1,g2⟩:=zdX u t (out++[UInt8.ofNat (16*half+hexD c).toNat]) (-1)
  exact ⟨fun h=>⟨(g1 h).1,by have:=(g1 h).2;omega⟩,g2⟩
theorem drop_len (p:UInt8->Bool) (l:List UInt8):(l.dropWhile p).length<=l.length:=List.Sublist.length_le (List.dropWhile_sublist _)
theorem textV_len (yq:Bool):∀(n:Nat) (l:List UInt8),l.length<=n->∀(deep:Nat) (out x r:List UInt8),zbd yq deep out l=some (x,r)->r.length<l.length:=by
 intro n
 induction n with
 | zero =>
  intro l hl deep out x r h
  obtain rfl:l=[]:=List.eq_nil_of_length_eq_zero (by omega)
  rw [zbd] at h;cases h
 | succ n ih =>
  intro l hl deep out x r h
  cases l with
  | nil=>rw [zbd] at h;cases h
  | cons c t =>
   simp only [List.length_cons] at hl |-
   rw [zbd.eq_def] at h
   simp only at h
   split at h
   ·split at h
    ·cases h
    ·have:=ih _ (by rw [ym];omega) _ _ _ _ h
     rw [ym] at this;omega
   ·split at h
    ·split at h
     ·cases h
     ·have:=ih _ (by rw [ym];omega) _ _ _ _ h
      rw [ym] at this;omega
    ·split at h
     ·have:=ih _ (by omega) _ _ _ _ h
      omega
     ·split at h
      ·split at h
       ·cases h;omega
       ·have:=ih _ (by omega) _ _ _ _ h
        omega
      ·have:=ih _ (by omega) _ _ _ _ h
       omega
theorem tokV_some (yq:Bool) (c:UInt8) (t:List UInt8) (h:(tokV yq c t).1=0):(tokV yq c t).2.1.kind≠0/\(tokV yq c t).2.2.length<=t.length:=by
 obtain ⟨V,hV⟩:∃V,tokV yq c t=V:=⟨_,rfl⟩
 rw [hV] at h |-
 unfold tokV at hV
 split at hV
 ·next hr =>
  have hd:((c::t).dropWhile isRg).length<=t.length:=by rw [List.dropWhile_cons_of_pos hr];exact drop_len _ _
  simp only at hV
  split at hV
  ·subst hV;simp at h
  ·split at hV
   ·subst hV;exact ⟨by simp,hd⟩
   ·subst hV;exact ⟨by simp,hd⟩
 split at hV
 ·subst hV;exact ⟨by simp,yp _⟩
 split at hV
 ·subst hV;exact ⟨by simp,yp _⟩
 split at hV
 ·cases t with
  | nil=>subst hV;cases yq<;>simp [za5] at h
  | cons d t =>
   simp only at hV
   split at hV
   ·subst hV;exact ⟨by simp,by simp⟩
   ·have hx:=(zdX [] (d::t) [] (-1)).1
    split at hV
    ·subst hV
     exact ⟨by simp,Nat.le_of_lt (hx ‹_›).2⟩
    ·split at hV
     ·subst hV;cases yq<;>simp [za5] at h
     ·subst hV;simp at h
 split at hV
 ·cases t with
  | nil=>subst hV;cases yq<;>simp at h
  | cons d t =>
   simp only at hV
   split at hV
   ·subst hV;exact ⟨by simp,by simp⟩
   ·subst hV;simp at h
 split at hV
 ·cases he:zbd yq 1 [] t with
  | none=>rw [he] at hV;subst hV;cases yq<;>simp [za5] at h
  | some y =>
   obtain ⟨x,r⟩:=y
   rw [he] at hV
   subst hV
   exact ⟨by simp,by have:=textV_len yq _ t (yp _) _ _ _ _ he;simp only;omega⟩
 split at hV
 ·simp only at hV
  split at hV
  ·subst hV;simp at h
  ·split at hV
   ·subst hV;simp at h
   ·subst hV;exact ⟨by simp,drop_len _ _⟩
 ·subst hV;simp at h
def zbi (bs:List UInt8) (f:Nat) (yq:Bool):Tk×Int×Int×Int :=
 match bs.drop f with
 | []=>({ kind:=0 },(f:Int),(f:Int),if yq then 0 else 6)
 | c::t=>if (tokV yq c t).1=0 then ((tokV yq c t).2.1,(f:Int),(bs.length:Int)-((tokV yq c t).2.2.length:Int),0) else ({ kind:=0 },(f:Int),(f:Int),(tokV yq c t).1)
theorem zdY {bs:List UInt8} {k:Int} (yq:Bool) (h:0<=k) (h2:k<=bs.length):zal bs k yq=zbi bs (zaM bs k) yq:=by
 have h3:¬(k<0\/(bs.length:Int)<k):=by omega
 unfold zal
 rw [yh h3]
 show (match bs.drop (zaM bs k) with | []=>_|c::t=>_)=_
 unfold zbi
 cases bs.drop (zaM bs k)<;>rfl
theorem zdV {bs:List UInt8} (yq:Bool) (h:bs.drop f=[]):zbi bs f yq=({ kind:=0 },(f:Int),(f:Int),if yq then 0 else 6):=by unfold zbi;rw [h]
theorem zdj {bs:List UInt8} (yq:Bool) {t:List UInt8} (h:bs.drop f=c::t):zbi bs f yq=if (tokV yq c t).1=0 then ((tokV yq c t).2.1,(f:Int),(bs.length:Int)-((tokV yq c t).2.2.length:Int),0) else ({ kind:=0 },(f:Int),(f:Int),(tokV yq c t).1):=by unfold zbi;rw [h]
theorem nextV_places {bs:List UInt8} {k:Int} (yq:Bool) (h:0<=k) (h2:k<=bs.length) :
  ((zal bs k yq).2.2.2≠0->(zal bs k yq).1={ kind:=0 }/\(zal bs k yq).2.1=(zal bs k yq).2.2.1/\k<=(zal bs k yq).2.1/\(zal bs k yq).2.1<=bs.length) /\
  ((zal bs k yq).2.2.2=0->(zal bs k yq).1.kind=0->yq=true/\(zal bs k yq).2.1=bs.length/\(zal bs k yq).2.2.1=bs.length) /\
  ((zal bs k yq).2.2.2=0->(zal bs k yq).1.kind≠0->zal bs (zal bs k yq).2.1 yq=zal bs k yq/\k<=(zal bs k yq).2.1/\(zal bs k yq).2.1<(zal bs k yq).2.2.1/\(zal bs k yq).2.2.1<=bs.length):=by
 obtain ⟨hb1,hb2⟩:=ze1 h h2
 have hi:=zgn h h2
 have hV:=zdY (bs:=bs) yq h h2
 have hV2:=zdY (bs:=bs) (k:=(zaM bs k:Nat)) yq (by omega) (by omega)
 rw [hi] at hV2
 generalize zaM bs k=f at *
 rw [hV]
 cases hd:bs.drop f with
 | nil =>
  have hn:=zdV yq hd
  rw [hn] at hV2 |-
  have hfl:f=bs.length:=by have:=List.drop_eq_nil_iff.1 hd;omega
  refine ⟨fun _=>⟨rfl,rfl,hb1,by simp only;omega⟩,fun h0 _=>⟨?_,by simp only;omega,by simp only;omega⟩,fun _ h=>absurd rfl h⟩
  cases yq
  ·simp at h0
  ·rfl
 | cons c t =>
  have hn:=zdj yq hd
  have hlen:f+(t.length+1)=bs.length:=by
   have:=congrArg List.length hd
   rw [ym,List.length_cons] at this;omega
  by_cases h0:(tokV yq c t).1=0
  ·obtain ⟨g1,g2⟩:=tokV_some yq c t h0
   rw [yg h0] at hn
   rw [hn] at hV2 |-
   generalize tokV yq c t=T at *
   obtain ⟨e,x,r⟩:=T
   simp only at g1 g2 hV2 |-
   exact ⟨fun h=>absurd rfl h,fun _ h=>absurd h g1,fun _ _=>⟨hV2,hb1,by omega,by omega⟩⟩
  ·rw [yh h0] at hn
   rw [hn]
   exact ⟨fun _=>⟨rfl,rfl,hb1,by simp only;omega⟩,fun h=>absurd h h0,fun h=>absurd h h0⟩
inductive PV where
 | mk (kind n:Int) (s:List UInt8) (l:List PV)
def PV.kind:PV->Int | .mk k _ _ _=>k
def PV.n:PV->Int | .mk _ n _ _=>n
def PV.s:PV->List UInt8 | .mk _ _ s _=>s
def PV.l:PV->List PV | .mk _ _ _ l=>l
def PV.none:PV:=.mk 0 0 [] []
instance:Inhabited PV:=⟨PV.none⟩
structure Lv where
 dict:Bool
 l:List PV
def zcZ (v:Lv):Bool:=v.dict&&v.l.length % 2==0
def topW:List Lv->Bool
 | []=>false
 | v::_=>zcZ v
def zaH (t:Tk):Bool:=t.kind==1&&t.vk==2
def moreV (e:Int):Int:=if e=6 then 6 else 0
def tkV (t:Tk):PV:=.mk t.vk t.vn t.vs []
def refV (bs:List UInt8) (yq:Bool) (at_:Int) (v:PV):PV×Int×Int :=
 let g:=zal bs at_ yq
 if g.2.2.2≠0\/zaH g.1=false then (v,at_,moreV g.2.2.2) else
 let r:=zal bs g.2.2.1 yq
 if r.2.2.2≠0\/r.1.kind≠6\/r.1.s≠[82] then (v,at_,moreV r.2.2.2) else
 if v.n<1\/4096<v.n\/g.1.vn≠0 then (v,at_,26) else (.mk 8 v.n [] [],r.2.2.1,0)
def zdq (w:List UInt8):Option PV :=
 if w=[116,114,117,101] then some (.mk 1 1 [] []) else if w=[102,97,108,115,101] then some (.mk 1 0 [] []) else if w=[110,117,108,108] then some PV.none else none
def zaN (bs:List UInt8) (yq:Bool) (st:List Lv) (at_:Int) (t:Tk):PV×Int×Int :=
 if topW st=true/\(t.kind≠1\/t.vk≠5) then (PV.none,at_,11)
 else if t.kind=6 then (match zdq t.s with|none=>(PV.none,at_,11)|some v=>(v,at_,0))
 else if zaH t=true then refV bs yq at_ (tkV t)
 else (tkV t,at_,0)
def zcg (st:List Lv) (dict:Bool):List Lv×Int:=if topW st=true then (st,11) else if 64<=st.length then (st,15) else ({ dict:=dict,l:=[] }::st,0)
def twoV:List PV->List (PV×PV)
 | a::b::l=>(a,b)::twoV l
 | _=>[]
def zaV:List (PV×PV)->List PV
 | []=>[]
 |(a,b)::l=>a::b::zaV l
def sLt:List UInt8->List UInt8->Bool
 | [],[]=>false
 | [],_::_=>true
 | _::_,[]=>false
 | a::l,b::m=>if a.toNat<b.toNat then true else if b.toNat<a.toNat then false else sLt l m
def insV (x:PV×PV):List (PV×PV)->List (PV×PV)
 | []=>[x]
 | y::l=>if sLt y.1.s x.1.s then y::insV x l else x::y::l
def zdH:List (PV×PV)->List (PV×PV)
 | []=>[]
 | x::l=>insV x (zdH l)
def zb3:List (PV×PV)->Bool
 | x::y::l=>x.1.s==y.1.s||zb3 (y::l)
 | _=>false
def zcW (l:List PV):Option (List PV):=if zb3 (zdH (twoV l))=true then none else some (zaV (zdH (twoV l)))
def zbH (st:List Lv) (dict:Bool):PV×List Lv×Int :=
 match st with
 | []=>(PV.none,st,11)
 | v::rest =>
  if v.dict≠dict\/(dict=true/\zcZ v=false) then (PV.none,st,11)
  else if dict=false then (.mk 6 0 [] v.l,rest,0)
  else match zcW v.l with
   | none=>(PV.none,st,16)
   | some l=>(.mk 7 0 [] l,rest,0)
def za8 (bs:List UInt8) (yq:Bool) (st:List Lv) (at_:Int) (t:Tk):Option PV×List Lv×Int×Int :=
 if t.kind=0 then (none,st,at_,10)
 else if t.kind=2\/t.kind=4 then (none,(zcg st (t.kind==4)).1,at_,(zcg st (t.kind==4)).2)
 else if t.kind=3\/t.kind=5 then
  (let r:=zbH st (t.kind==5)
   if r.2.2=0 then (some r.1,r.2.1,at_,0) else (none,r.2.1,at_,r.2.2))
 else
  (let r:=zaN bs yq st at_ t
   if r.2.2≠0 then (none,st,r.2.1,r.2.2) else if 64<=st.length then (none,st,r.2.1,15) else (some r.1,st,r.2.1,0))
def valO (bs:List UInt8) (yq:Bool):Nat->List Lv->Int->Option (PV×Int×Int)
 | 0,_,_=>none
 | g+1,st,at_ =>
  let t:=zal bs at_ yq
  if t.2.2.2≠0 then some (PV.none,0,t.2.2.2) else
  match za8 bs yq st t.2.2.1 t.1 with
  |(v,st2,at2,e) =>
   if e≠0 then some (PV.none,0,e) else
   match v with
   | none=>valO bs yq g st2 at2
   | some x=>match st2 with
    | []=>some (x,at2,0)
    | top::rest=>valO bs yq g ({ top with l:=top.l++[x] }::rest) at2
theorem za1 {bs:List UInt8} {k:Int} (yq:Bool) (h:0<=k) (h2:k<=bs.length):k<=(zal bs k yq).2.2.1/\(zal bs k yq).2.2.1<=bs.length:=by
 rw [zdY yq h h2]
 have hs:=ze1 h h2
 cases hd:bs.drop (zaM bs k) with
 | nil=>rw [zdV yq hd];exact ⟨hs.1,by have:=hs.2;show ((zaM bs k:Nat):Int)<=_;omega⟩
 | cons c t =>
  rw [zdj yq hd]
  have hl:(bs.drop (zaM bs k)).length=t.length+1:=by rw [hd];rfl
  rw [ym] at hl
  split
  ·rename_i h0
   have:=(tokV_some yq c t h0).2
   exact ⟨by show k<=(bs.length:Int)-_;omega,by show (bs.length:Int)-_<=_;omega⟩
  ·exact ⟨hs.1,by have:=hs.2;show ((zaM bs k:Nat):Int)<=_;omega⟩
mutual
def zcp:PV->Nat
 | .mk k _ _ l=>if k=6\/k=7 then 1+zgF l else 1
def zgF:List PV->Nat
 | []=>0
 | x::l=>max (zcp x) (zgF l)
end
def ascV:List (PV×PV)->Bool
 | x::y::l=>sLt x.1.s y.1.s&&ascV (y::l)
 | _=>true
def zew:List PV->Bool
 | []=>true
 | [a]=>a.kind==5
 | a::_::l=>a.kind==5&&zew l
def ownC:PV->Int
 | .mk k n s l =>
  if k=0 then (if n=0/\s=[]/\l=[] then 0 else 2)
  else if k=1 then (if (n=0\/n=1)/\s=[]/\l=[] then 0 else 2)
  else if k=2\/k=3 then (if s=[]/\l=[] then zcb k n true else 2)
  else if k=4 then (if n=0/\l=[] then 0 else 2)
  else if k=5 then (if 127<s.length\/(0:UInt8)∈s then 17 else if n=0/\l=[] then 0 else 2)
  else if k=6 then (if n=0/\s=[] then 0 else 2)
  else if k=7 then (if n≠0\/s≠[]\/l.length % 2≠0 then 2 else if zew l=false then 2 else if ascV (twoV l)=true then 0 else 16)
  else if k=8 then (if 1<=n/\n<=4096/\s=[]/\l=[] then 0 else 2)
  else 2
mutual
def zb4:PV->Int
 | .mk k n s l=>if ownC (.mk k n s l)≠0 then ownC (.mk k n s l) else if k=6\/k=7 then firstL l else 0
def firstL:List PV->Int
 | []=>0
 | x::l=>if zb4 x≠0 then zb4 x else firstL l
end
theorem zgu {n:Nat}:∀l:List PV,(∀x∈l,zcp x<=n)->zgF l<=n
 | [],_=>by simp [zgF]
 | x::l,h=>by
  have h1:=h x (List.mem_cons_self)
  have h2:=zgu l fun y hy=>h y (List.mem_cons_of_mem _ hy)
  simp only [zgF];omega
theorem zeC:∀l:List PV,(∀x∈l,zb4 x=0)->firstL l=0
 | [],_=>rfl
 | x::l,h=>by
  simp only [firstL]
  rw [yh (by simp [h x (List.mem_cons_self)])]
  exact zeC l fun y hy=>h y (List.mem_cons_of_mem _ hy)
theorem zcJ:∀a b:List UInt8,sLt a b=false->a≠b->sLt b a=true
 | [],[],_,h=>absurd rfl h
 | [],_::_,h,_=>by simp [sLt] at h
 | _::_,[],_,_=>by simp [sLt]
 | x::a,y::b,h,hn=>by
  simp only [sLt] at h |-
  by_cases h1:x.toNat<y.toNat
  ·rw [yg h1] at h;cases h
  ·rw [yh h1] at h
   by_cases h2:y.toNat<x.toNat
   ·rw [yg h2]
   ·rw [yh h2] at h |-
    rw [yh h1]
    have hxy:x=y:=UInt8.toNat_inj.1 (by omega)
    subst hxy
    exact zcJ a b h fun e=>hn (by rw [e])
def zfZ:List (PV×PV)->Prop
 | x::y::l=>sLt y.1.s x.1.s=false/\zfZ (y::l)
 | _=>True
theorem sLt_as:∀a b:List UInt8,sLt a b=true->sLt b a=false
 | [],[],h=>by simp [sLt] at h
 | [],_::_,_=>by simp [sLt]
 | _::_,[],h=>by simp [sLt] at h
 | x::a,y::b,h=>by
  simp only [sLt] at h |-
  by_cases h1:x.toNat<y.toNat
  ·rw [yh (by omega),yg h1]
  ·rw [yh h1] at h
   by_cases h2:y.toNat<x.toNat
   ·rw [yg h2] at h;cases h
   ·rw [yh h2] at h
    rw [yh h2,yh h1]
    exact sLt_as a b h
theorem ins_head (x:PV×PV):∀l,∃z t,insV x l=z::t/\(z=x\/∃t',l=z::t')
 | []=>⟨x,[],rfl,.inl rfl⟩
 | y::l=>by
  simp only [insV]
  split
  ·exact ⟨y,_,rfl,.inr ⟨l,rfl⟩⟩
  ·exact ⟨x,_,rfl,.inl rfl⟩
theorem zgk {x:PV×PV} {l:List (PV×PV)} (h:zfZ l) (hh:∀z t,l=z::t->sLt z.1.s x.1.s=false):zfZ (x::l):=by
 cases l with
 | nil=>trivial
 | cons y t=>exact ⟨hh y t rfl,h⟩
theorem notGt_tail {x:PV×PV} {l:List (PV×PV)} (h:zfZ (x::l)):zfZ l:=by
 cases l with
 | nil=>trivial
 | cons y t=>exact h.2
theorem ins_notGt (x:PV×PV):∀l,zfZ l->zfZ (insV x l)
 | [],_=>trivial
 | y::l,h=>by
  simp only [insV]
  split
  ·rename_i hy
   refine zgk (ins_notGt x l (notGt_tail h)) fun z t hz=>?_
   obtain ⟨z',t',e1,e2⟩:=ins_head x l
   rw [e1] at hz
   have hzz:z'=z:=(List.cons.inj hz).1
   rcases e2 with e2|⟨t2,e2⟩
   ·rw [<-hzz,e2];exact sLt_as _ _ hy
   ·rw [<-hzz];subst e2;exact h.1
  ·rename_i hy
   exact zgk h fun z t hz=>by
    have:y=z:=(List.cons.inj hz).1
    rw [<-this]
    simpa using hy
theorem zdg:∀l,zfZ (zdH l)
 | []=>trivial
 | x::l=>ins_notGt x _ (zdg l)
theorem asc_of:∀l,zfZ l->zb3 l=false->ascV l=true
 | [],_,_=>rfl
 | [_],_,_=>rfl
 | x::y::l,h,ht=>by
  simp only [zb3,Bool.or_eq_false_iff,yf] at ht
  simp only [ascV,Bool.and_eq_true]
  exact ⟨zcJ _ _ h.1 (fun e=>ht.1 e.symm),asc_of (y::l) h.2 ht.2⟩
theorem ins_perm (x:PV×PV):∀l,(insV x l).Perm (x::l)
 | []=>List.Perm.refl _
 | y::l=>by
  simp only [insV]
  split
  ·exact ((ins_perm x l).cons y).trans (List.Perm.swap x y l)
  ·exact List.Perm.refl _
theorem zfr:∀l,(zdH l).Perm l
 | []=>List.Perm.refl _
 | x::l=>(ins_perm x _).trans ((zfr l).cons x)
theorem flat_two:∀p,twoV (zaV p)=p
 | []=>rfl
 |(a,b)::l=>by simp only [zaV,twoV];rw [flat_two l]
theorem zhp:∀l:List PV,l.length % 2=0->zaV (twoV l)=l
 | [],_=>rfl
 | [_],h=>by simp at h
 | a::b::l,h=>by simp only [twoV,zaV];rw [zhp l (by simp at h;omega)]
theorem flat_len:∀p,(zaV p).length % 2=0
 | []=>rfl
 |(a,b)::l=>by have:=flat_len l;simp only [zaV,List.length_cons];omega
theorem zhr {x:PV}:∀p,x∈zaV p↔∃q∈p,x=q.1\/x=q.2
 | []=>by simp [zaV]
 |(a,b)::l=>by
  simp only [zaV,List.mem_cons,zhr l]
  constructor
  ·rintro (h|h|⟨q,hq,h⟩)
   ·exact ⟨(a,b),.inl rfl,.inl h⟩
   ·exact ⟨(a,b),.inl rfl,.inr h⟩
   ·exact ⟨q,.inr hq,h⟩
  ·rintro ⟨q,rfl|hq,h⟩
   ·exact h.elim .inl (fun h=>.inr (.inl h))
   ·exact .inr (.inr ⟨q,hq,h⟩)
theorem zed:∀p:List (PV×PV),zew (zaV p)=p.all fun q=>q.1.kind==5
 | []=>rfl
 |(a,b)::l=>by simp only [zaV,zew,List.all_cons];rw [zed l]
theorem zge:∀(l:List PV) (x:PV),zew l=true->(l.length % 2=0->x.kind=5)->zew (l++[x])=true
 | [],x,_,h=>by simpa [zew] using h rfl
 | [a],x,h,_=>by simpa [zew] using h
 | a::b::l,x,h,hx=>by
  simp only [zew,Bool.and_eq_true] at h
  simp only [List.cons_append,zew,Bool.and_eq_true]
  exact ⟨h.1,zge l x h.2 fun h2=>hx (by simp;omega)⟩
theorem pairs_ok {l l2:List PV} (he:l.length % 2=0) (hn:zew l=true) (h:zcW l=some l2):l2.length % 2=0/\zew l2=true/\ascV (twoV l2)=true/\∀x∈l2,x∈l:=by
 unfold zcW at h
 split at h
 ·cases h
 ·rename_i ht
  cases h
  have hp:=zfr (twoV l)
  refine ⟨flat_len _,?_,?_,fun x hx=>?_⟩
  ·rw [zed,List.all_eq_true]
   intro q hq
   have h1:=zed (twoV l)
   rw [zhp l he,hn] at h1
   exact List.all_eq_true.1 h1.symm q (hp.mem_iff.1 hq)
  ·rw [flat_two]
   exact asc_of _ (zdg _) (by simpa using ht)
  ·obtain ⟨q,hq,h1⟩:=(zhr _).1 hx
   rw [<-zhp l he]
   exact (zhr _).2 ⟨q,hp.mem_iff.1 hq,h1⟩
def lvOk (d:Nat) (v:Lv):Prop:=(∀x∈v.l,zb4 x=0/\zcp x+d<=64)/\(v.dict=true->zew v.l=true)
def stOk:List Lv->Prop
 | []=>True
 | v::rest=>lvOk (rest.length+1) v/\rest.length+1<=64/\topW rest=false/\stOk rest
theorem tk_depth {v:PV} (h:v.kind≠6) (h2:v.kind≠7):zcp v=1:=by
 obtain ⟨k,n,s,l⟩:=v
 simp only [zcp]
 rw [yh (by rintro (e|e);exact h e;exact h2 e)]
theorem first_own {v:PV} (h:ownC v=0) (h6:v.kind≠6) (h7:v.kind≠7):zb4 v=0:=by
 obtain ⟨k,n,s,l⟩:=v
 simp only [zb4]
 rw [yh (by simp [h]),yh (by rintro (e|e);exact h6 e;exact h7 e)]
def tkOk (t:Tk):Prop:=0<=t.kind/\t.kind<=6/\(t.kind=1->ownC (tkV t)=0/\t.vk≠6/\t.vk≠7)
theorem tkn {t:Tk} (n:Nat) (e:t.kind=n) (h:n<=6) (h1:n≠1):tkOk t:=⟨by omega,by omega,fun h2=>by omega⟩
theorem tk1 {t:Tk} (e:t.kind=1) (ho:ownC (tkV t)=0) (h6:t.vk≠6) (h7:t.vk≠7):tkOk t:=⟨by omega,by omega,fun _=>⟨ho,h6,h7⟩⟩
theorem own_num {k n:Int} (hk:k=2\/k=3) (hc:zcb k n true=0):ownC (.mk k n [] [])=0:=by
 simp only [ownC]
 rw [yh (by omega),yh (by omega),yg hk,yg ⟨by trivial,by trivial⟩]
 exact hc
theorem own_ref {n:Int} (h1:1<=n) (h2:n<=4096):ownC (.mk 8 n [] [])=0:=by simp [ownC,h1,h2]
theorem word_ok {w:List UInt8} {v:PV} (h:zdq w=some v):zb4 v=0/\zcp v=1:=by
 unfold zdq at h
 split at h
 ·cases h;decide
 ·split at h
  ·cases h;decide
  ·split at h
   ·cases h;decide
   ·cases h
theorem nameV_ok {w o:List UInt8} (h:zdu w=some o):¬(127<o.length\/(0:UInt8)∈o):=by
 unfold zdu at h
 split at h
 ·cases h
 ·split at h
  ·cases h
  ·rename_i hn
   cases h
   exact hn
theorem tokV_ok (yq:Bool) (c:UInt8) (t:List UInt8) (h:(tokV yq c t).1=0):tkOk (tokV yq c t).2.1:=by
 unfold tokV at h |-
 split
 ·rename_i q0
  rw [yg q0] at h
  try simp only at h |-
  split
  ·rename_i q1;rw [yg q1] at h;cases h
  ·rename_i q1
   rw [yh q1] at h
   split
   ·rename_i q2
    rw [yg q2] at h
    have hc:=parseV_check _ h
    try simp only at hc
    have hk:(zaQ ((c::t).takeWhile isRg)).1=2\/(zaQ ((c::t).takeWhile isRg)).1=3:=by
     unfold zcb at hc
     split at hc
     ·rename_i hq
      rcases hq.2 with hq|hq
      ·exact .inl hq.1
      ·exact .inr hq.1
     ·cases hc
    refine tk1 rfl ?_ ?_ ?_
    ·exact own_num hk hc
    ·show (zaQ _).1≠6;omega
    ·show (zaQ _).1≠7;omega
   ·exact (by first|exact tkn 0 rfl (by decide) (by decide)|exact tkn 2 rfl (by decide) (by decide)|exact tkn 3 rfl (by decide) (by decide)|exact tkn 4 rfl (by decide) (by decide)|exact tkn 5 rfl (by decide) (by decide)|exact tkn 6 rfl (by decide) (by decide))
 ·rename_i q0
  rw [yh q0] at h
  split
  ·exact (by first|exact tkn 0 rfl (by decide) (by decide)|exact tkn 2 rfl (by decide) (by decide)|exact tkn 3 rfl (by decide) (by decide)|exact tkn 4 rfl (by decide) (by decide)|exact tkn 5 rfl (by decide) (by decide)|exact tkn 6 rfl (by decide) (by decide))
  ·rename_i q1
   rw [yh q1] at h
   split
   ·exact (by first|exact tkn 0 rfl (by decide) (by decide)|exact tkn 2 rfl (by decide) (by decide)|exact tkn 3 rfl (by decide) (by decide)|exact tkn 4 rfl (by decide) (by decide)|exact tkn 5 rfl (by decide) (by decide)|exact tkn 6 rfl (by decide) (by decide))
   ·rename_i q2
    rw [yh q2] at h
    split
    ·split
     ·exact (by first|exact tkn 0 rfl (by decide) (by decide)|exact tkn 2 rfl (by decide) (by decide)|exact tkn 3 rfl (by decide) (by decide)|exact tkn 4 rfl (by decide) (by decide)|exact tkn 5 rfl (by decide) (by decide)|exact tkn 6 rfl (by decide) (by decide))
     ·split
      ·exact (by first|exact tkn 0 rfl (by decide) (by decide)|exact tkn 2 rfl (by decide) (by decide)|exact tkn 3 rfl (by decide) (by decide)|exact tkn 4 rfl (by decide) (by decide)|exact tkn 5 rfl (by decide) (by decide)|exact tkn 6 rfl (by decide) (by decide))
      ·simp only
       split
       ·exact tk1 rfl (by show ownC (.mk 4 0 _ [])=0;simp [ownC]) (by show (4:Int)≠6;decide) (by show (4:Int)≠7;decide)
       ·split
        ·exact (by first|exact tkn 0 rfl (by decide) (by decide)|exact tkn 2 rfl (by decide) (by decide)|exact tkn 3 rfl (by decide) (by decide)|exact tkn 4 rfl (by decide) (by decide)|exact tkn 5 rfl (by decide) (by decide)|exact tkn 6 rfl (by decide) (by decide))
        ·exact (by first|exact tkn 0 rfl (by decide) (by decide)|exact tkn 2 rfl (by decide) (by decide)|exact tkn 3 rfl (by decide) (by decide)|exact tkn 4 rfl (by decide) (by decide)|exact tkn 5 rfl (by decide) (by decide)|exact tkn 6 rfl (by decide) (by decide))
    ·rename_i q3
     rw [yh q3] at h
     split
     ·split
      ·exact (by first|exact tkn 0 rfl (by decide) (by decide)|exact tkn 2 rfl (by decide) (by decide)|exact tkn 3 rfl (by decide) (by decide)|exact tkn 4 rfl (by decide) (by decide)|exact tkn 5 rfl (by decide) (by decide)|exact tkn 6 rfl (by decide) (by decide))
      ·split
       ·exact (by first|exact tkn 0 rfl (by decide) (by decide)|exact tkn 2 rfl (by decide) (by decide)|exact tkn 3 rfl (by decide) (by decide)|exact tkn 4 rfl (by decide) (by decide)|exact tkn 5 rfl (by decide) (by decide)|exact tkn 6 rfl (by decide) (by decide))
       ·exact (by first|exact tkn 0 rfl (by decide) (by decide)|exact tkn 2 rfl (by decide) (by decide)|exact tkn 3 rfl (by decide) (by decide)|exact tkn 4 rfl (by decide) (by decide)|exact tkn 5 rfl (by decide) (by decide)|exact tkn 6 rfl (by decide) (by decide))
     ·rename_i q4
      rw [yh q4] at h
      split
      ·split
       ·exact (by first|exact tkn 0 rfl (by decide) (by decide)|exact tkn 2 rfl (by decide) (by decide)|exact tkn 3 rfl (by decide) (by decide)|exact tkn 4 rfl (by decide) (by decide)|exact tkn 5 rfl (by decide) (by decide)|exact tkn 6 rfl (by decide) (by decide))
       ·exact tk1 rfl (by show ownC (.mk 4 0 _ [])=0;simp [ownC]) (by show (4:Int)≠6;decide) (by show (4:Int)≠7;decide)
      ·rename_i q5
       rw [yh q5] at h
       split
       ·simp only
        split
        ·exact (by first|exact tkn 0 rfl (by decide) (by decide)|exact tkn 2 rfl (by decide) (by decide)|exact tkn 3 rfl (by decide) (by decide)|exact tkn 4 rfl (by decide) (by decide)|exact tkn 5 rfl (by decide) (by decide)|exact tkn 6 rfl (by decide) (by decide))
        ·split
         ·exact (by first|exact tkn 0 rfl (by decide) (by decide)|exact tkn 2 rfl (by decide) (by decide)|exact tkn 3 rfl (by decide) (by decide)|exact tkn 4 rfl (by decide) (by decide)|exact tkn 5 rfl (by decide) (by decide)|exact tkn 6 rfl (by decide) (by decide))
         ·rename_i o ho
          have hn:=nameV_ok ho
          exact tk1 rfl (by show ownC (.mk 5 0 o [])=0;simp only [ownC];simp [hn]) (by show (5:Int)≠6;decide) (by show (5:Int)≠7;decide)
       ·exact (by first|exact tkn 0 rfl (by decide) (by decide)|exact tkn 2 rfl (by decide) (by decide)|exact tkn 3 rfl (by decide) (by decide)|exact tkn 4 rfl (by decide) (by decide)|exact tkn 5 rfl (by decide) (by decide)|exact tkn 6 rfl (by decide) (by decide))
theorem zd0 {bs:List UInt8} {k:Int} (yq:Bool) (h:0<=k) (h2:k<=bs.length):tkOk (zal bs k yq).1:=by
 rw [zdY yq h h2]
 cases hd:bs.drop (zaM bs k) with
 | nil=>rw [zdV yq hd];exact (by first|exact tkn 0 rfl (by decide) (by decide)|exact tkn 2 rfl (by decide) (by decide)|exact tkn 3 rfl (by decide) (by decide)|exact tkn 4 rfl (by decide) (by decide)|exact tkn 5 rfl (by decide) (by decide)|exact tkn 6 rfl (by decide) (by decide))
 | cons c t =>
  rw [zdj yq hd]
  split
  ·rename_i h0;exact tokV_ok yq c t h0
  ·exact (by first|exact tkn 0 rfl (by decide) (by decide)|exact tkn 2 rfl (by decide) (by decide)|exact tkn 3 rfl (by decide) (by decide)|exact tkn 4 rfl (by decide) (by decide)|exact tkn 5 rfl (by decide) (by decide)|exact tkn 6 rfl (by decide) (by decide))
theorem zda {bs:List UInt8} {k:Int} (h:0<=k) (h2:k<=bs.length) (he:(zal bs k yq).2.2.2=0) (hk:(zal bs k yq).1.kind≠0):k<(zal bs k yq).2.2.1:=by
 have:=(nextV_places yq h h2).2.2 he hk
 omega
theorem refV_ok {bs:List UInt8} {k:Int} (h:0<=k) (h2:k<=bs.length) {v:PV} (hv:ownC v=0) (hk:v.kind≠6/\v.kind≠7) (he:(refV bs yq k v).2.2=0) :
  ownC (refV bs yq k v).1=0/\(refV bs yq k v).1.kind≠6/\(refV bs yq k v).1.kind≠7/\k<=(refV bs yq k v).2.1/\(refV bs yq k v).2.1<=bs.length:=by
 obtain ⟨g1,g2⟩:=za1 yq h h2
 unfold refV at he |-
 simp only at he |-
 split
 ·exact ⟨hv,hk.1,hk.2,Int.le_refl _,h2⟩
 ·rename_i q1
  simp only [yh q1] at he
  obtain ⟨r1,r2⟩:=za1 (bs:=bs) (k:=(zal bs k yq).2.2.1) yq (by omega) g2
  split
  ·exact ⟨hv,hk.1,hk.2,Int.le_refl _,h2⟩
  ·rename_i q2
   simp only [yh q2] at he
   split
   ·rename_i q3;rw [yg q3] at he;cases he
   ·rename_i q3
    refine ⟨?_,by show (8:Int)≠6;decide,by show (8:Int)≠7;decide,Int.le_trans g1 r1,r2⟩
    exact own_ref (by omega) (by omega)
theorem singleV_ok {bs:List UInt8} {st:List Lv} {k:Int} (h:0<=k) (h2:k<=bs.length) {t:Tk} (ht:tkOk t) (hk:t.kind=1\/t.kind=6) (he:(zaN bs yq st k t).2.2=0) :
  zb4 (zaN bs yq st k t).1=0/\zcp (zaN bs yq st k t).1=1/\(topW st=true->(zaN bs yq st k t).1.kind=5)/\k<=(zaN bs yq st k t).2.1/\(zaN bs yq st k t).2.1<=bs.length:=by
 unfold zaN at he |-
 split
 ·rename_i q;rw [yg q] at he;cases he
 ·rename_i q
  rw [yh q] at he
  split
  ·rename_i q6
   rw [yg q6] at he
   have hw:¬topW st=true:=fun e=>q ⟨e,.inl (by rw [q6];decide)⟩
   cases hwd:zdq t.s with
   | none=>rw [hwd] at he;cases he
   | some v =>
    obtain ⟨z1,z2⟩:=word_ok hwd
    exact ⟨z1,z2,fun e=>absurd e hw,Int.le_refl _,h2⟩
  ·rename_i q6
   rw [yh q6] at he
   have h1:t.kind=1:=hk.resolve_right q6
   obtain ⟨o1,o2,o3⟩:=ht.2.2 h1
   split
   ·rename_i qw
    rw [yg qw] at he
    obtain ⟨r1,r2,r3,r4,r5⟩:=refV_ok (yq:=yq) h h2 o1 ⟨o2,o3⟩ he
    have hw:¬topW st=true:=fun e=>q ⟨e,.inr (by
     unfold zaH at qw
     simp only [Bool.and_eq_true,beq_iff_eq] at qw
     rw [qw.2];decide)⟩
    exact ⟨first_own r1 r2 r3,tk_depth r2 r3,fun e=>absurd e hw,r4,r5⟩
   ·refine ⟨first_own o1 o2 o3,tk_depth o2 o3,fun e=>?_,Int.le_refl _,h2⟩
    exact Decidable.byContradiction fun hn=>q ⟨e,.inr hn⟩
theorem lv_snoc {d:Nat} {v:Lv} {x:PV} (h:lvOk d v) (hx:zb4 x=0/\zcp x+d<=64) (hw:zcZ v=true->x.kind=5):lvOk d { v with l:=v.l++[x] }:=by
 refine ⟨fun y hy=>?_,fun hd=>zge _ _ (h.2 hd) fun h2=>hw (by unfold zcZ;rw [show v.dict=true from hd];simp [h2])⟩
 rcases List.mem_append.1 hy with hy|hy
 ·exact h.1 y hy
 ·rw [List.mem_singleton.1 hy];exact hx
theorem end_ok {st:List Lv} {dict:Bool} (h:stOk st) (he:(zbH st dict).2.2=0) :
  ∃v rest,st=v::rest/\(zbH st dict).2.1=rest/\stOk rest/\zb4 (zbH st dict).1=0/\zcp (zbH st dict).1+rest.length<=64/\topW rest=false:=by
 cases st with
 | nil=>cases he
 | cons v rest =>
  obtain ⟨h1,h2,hw0,h3⟩:=h
  have hd:∀l:List PV,(∀x∈l,x∈v.l)->1+zgF l+rest.length<=64:=fun l hl=>by
   have:=zgu (n:=63-rest.length) l fun x hx=>by have:=(h1.1 x (hl x hx)).2;omega
   omega
  refine ⟨v,rest,rfl,?_⟩
  unfold zbH at he |-
  simp only at he |-
  by_cases q1:v.dict≠dict\/(dict=true/\zcZ v=false)
  ·rw [yg q1] at he;cases he
  ·rw [yh q1] at he |-
   by_cases q2:dict=false
   ·rw [yg q2]
    refine ⟨rfl,h3,?_,?_,hw0⟩
    ·simp only [zb4]
     rw [yh (by simp [ownC]),yg (by simp)]
     exact zeC _ fun x hx=>(h1.1 x hx).1
    ·simp only [zcp]
     rw [yg (by simp)]
     exact hd v.l fun _ h=>h
   ·rw [yh q2] at he |-
    have hdt:dict=true:=by cases dict;exact absurd rfl q2;rfl
    have hvd:v.dict=true:=Decidable.byContradiction fun hn=>q1 (.inl (by rw [hdt];exact hn))
    have hw:zcZ v=true:=Decidable.byContradiction fun hn=>q1 (.inr ⟨hdt,by simpa using hn⟩)
    have hev:v.l.length % 2=0:=by
     unfold zcZ at hw
     simp only [Bool.and_eq_true,beq_iff_eq] at hw
     exact hw.2
    cases hp:zcW v.l with
    | none=>rw [hp] at he;cases he
    | some l2 =>
     obtain ⟨p1,p2,p3,p4⟩:=pairs_ok hev (h1.2 hvd) hp
     refine ⟨rfl,h3,?_,?_,hw0⟩
     ·simp only [zb4]
      rw [yh (by simp [ownC,p1,p2,p3]),yg (by simp)]
      exact zeC _ fun x hx=>(h1.1 x (p4 x hx)).1
     ·simp only [zcp]
      rw [yg (by simp)]
      exact hd l2 p4
theorem valO_may {bs:List UInt8} {yq:Bool}:∀(g:Nat) (st:List Lv) (k:Int) (V:PV×Int×Int),0<=k->k<=bs.length->stOk st->valO bs yq g st k=some V ->
  (V.2.2=0->zb4 V.1=0/\zcp V.1<=64/\k<V.2.1/\V.2.1<=bs.length)/\(V.2.2≠0->V.1=PV.none/\V.2.1=0)
 | 0,_,_,_,_,_,_,hV=>by cases hV
 | g+1,st,k,V,h,h2,hs,hV=>by
  unfold valO at hV
  simp only at hV
  by_cases he:(zal bs k yq).2.2.2≠0
  ·rw [yg he] at hV
   cases hV
   exact ⟨fun e=>absurd e he,fun _=>⟨rfl,rfl⟩⟩
  ·rw [yh he] at hV
   have he0:(zal bs k yq).2.2.2=0:=by simpa using he
   obtain ⟨g1,g2⟩:=za1 yq h h2
   have hok:=zd0 yq h h2
   have hfar:=zda h h2 he0
   generalize (zal bs k yq).2.2.1=to at *
   generalize (zal bs k yq).1=t at *
   have key:∀v st2 at2 e2,za8 bs yq st to t=(v,st2,at2,e2)->e2=0->t.kind≠0/\to<=at2/\at2<=bs.length/\stOk st2/\(∀x,v=some x->zb4 x=0/\zcp x+st2.length<=64/\(topW st2=true->x.kind=5)):=by
    intro v st2 at2 e2 hq e20
    subst e20
    unfold za8 at hq
    by_cases k0:t.kind=0
    ·rw [yg k0] at hq;cases hq
    ·rw [yh k0] at hq
     refine ⟨k0,?_⟩
     by_cases k24:t.kind=2\/t.kind=4
     ·rw [yg k24] at hq
      simp only [Prod.mk.injEq] at hq
      obtain ⟨rfl,q2,rfl,q4⟩:=hq
      refine ⟨Int.le_refl _,g2,?_,fun x hx=>by cases hx⟩
      unfold zcg at q2 q4
      by_cases b1:topW st=true
      ·rw [yg b1] at q4;cases q4
      ·rw [yh b1] at q2 q4
       by_cases b2:64<=st.length
       ·rw [yg b2] at q4;cases q4
       ·rw [yh b2] at q2
        rw [<-q2]
        exact ⟨⟨fun x hx=>(by cases hx),fun _=>rfl⟩,by omega,by simpa using b1,hs⟩
     ·rw [yh k24] at hq
      by_cases k35:t.kind=3\/t.kind=5
      ·rw [yg k35] at hq
       simp only at hq
       by_cases b1:(zbH st (t.kind==5)).2.2=0
       ·rw [yg b1] at hq
        simp only [Prod.mk.injEq] at hq
        obtain ⟨rfl,rfl,rfl,-⟩:=hq
        obtain ⟨v0,rest,e1,e2,e3,e4,e5,e6⟩:=end_ok hs b1
        refine ⟨Int.le_refl _,g2,by rw [e2];exact e3,fun x hx=>?_⟩
        cases hx
        rw [e2]
        exact ⟨e4,e5,fun hw=>by rw [e6] at hw;cases hw⟩
       ·rw [yh b1] at hq
        simp only [Prod.mk.injEq] at hq
        exact absurd hq.2.2.2 b1
      ·rw [yh k35] at hq
       simp only at hq
       have hk16:t.kind=1\/t.kind=6:=by have:=hok.1;have:=hok.2.1;omega
       by_cases b1:(zaN bs yq st to t).2.2≠0
       ·rw [yg b1] at hq
        simp only [Prod.mk.injEq] at hq
        exact absurd hq.2.2.2 b1
       ·rw [yh b1] at hq
        by_cases b2:64<=st.length
        ·rw [yg b2] at hq
         simp only [Prod.mk.injEq] at hq
         exact absurd hq.2.2.2 (by decide)
        ·rw [yh b2] at hq
         simp only [Prod.mk.injEq] at hq
         obtain ⟨rfl,rfl,rfl,-⟩:=hq
         obtain ⟨s1,s2,s3,s4,s5⟩:=singleV_ok (yq:=yq) (st:=st) (by omega) g2 hok hk16 (by simpa using b1)
         exact ⟨s4,s5,hs,fun x hx=>by cases hx;exact ⟨s1,by omega,s3⟩⟩
   generalize hZ:za8 bs yq st to t=Z at hV key
   obtain ⟨v,st2,at2,e2⟩:=Z
   simp only at hV
   by_cases h0:e2≠0
   ·rw [yg h0] at hV
    cases hV
    exact ⟨fun e=>absurd e h0,fun _=>⟨rfl,rfl⟩⟩
   ·rw [yh h0] at hV
    obtain ⟨k1,k2,k3,k4,k5⟩:=key v st2 at2 e2 rfl (by simpa using h0)
    have hkt:=hfar k1
    have hrec:∀st3,stOk st3->valO bs yq g st3 at2=some V->(V.2.2=0->zb4 V.1=0/\zcp V.1<=64/\k<V.2.1/\V.2.1<=bs.length)/\(V.2.2≠0->V.1=PV.none/\V.2.1=0):=fun st3 hs3 hv3=>by
     obtain ⟨p1,p2⟩:=valO_may g st3 at2 V (by omega) k3 hs3 hv3
     exact ⟨fun e=>by obtain ⟨z1,z2,z3,z4⟩:=p1 e;exact ⟨z1,z2,by omega,z4⟩,p2⟩
    cases v with
    | none=>exact hrec st2 k4 hV
    | some x =>
     obtain ⟨x1,x2,x3⟩:=k5 x rfl
     cases st2 with
     | nil =>
      cases hV
      exact ⟨fun _=>⟨x1,by simpa using x2,by show k<at2;omega,k3⟩,fun e=>absurd rfl e⟩
     | cons top rest =>
      obtain ⟨z1,z2,zw,z3⟩:=k4
      exact hrec ({ top with l:=top.l++[x] }::rest) (show lvOk _ _/\_/\_/\_ from ⟨lv_snoc z1 ⟨x1,by simp only [List.length_cons] at x2;omega⟩ (fun hw=>x3 hw),z2,zw,z3⟩) hV
theorem refV_at {bs:List UInt8} {k:Int} (h:0<=k) (h2:k<=bs.length) (v:PV):k<=(refV bs yq k v).2.1/\(refV bs yq k v).2.1<=bs.length:=by
 obtain ⟨g1,g2⟩:=za1 yq h h2
 unfold refV
 simp only
 split
 ·exact ⟨Int.le_refl _,h2⟩
 ·obtain ⟨r1,r2⟩:=za1 (bs:=bs) (k:=(zal bs k yq).2.2.1) yq (by omega) g2
  split
  ·exact ⟨Int.le_refl _,h2⟩
  ·split
   ·exact ⟨Int.le_refl _,h2⟩
   ·exact ⟨Int.le_trans g1 r1,r2⟩
theorem singleV_at {bs:List UInt8} {k:Int} (h:0<=k) (h2:k<=bs.length) (st:List Lv) (t:Tk):k<=(zaN bs yq st k t).2.1/\(zaN bs yq st k t).2.1<=bs.length:=by
 unfold zaN
 split
 ·exact ⟨Int.le_refl _,h2⟩
 ·split
  ·split
   ·exact ⟨Int.le_refl _,h2⟩
   ·exact ⟨Int.le_refl _,h2⟩
  ·split
   ·exact refV_at h h2 _
   ·exact ⟨Int.le_refl _,h2⟩
theorem stepV_at {bs:List UInt8} {k:Int} (h:0<=k) (h2:k<=bs.length) (st:List Lv) (t:Tk):k<=(za8 bs yq st k t).2.2.1/\(za8 bs yq st k t).2.2.1<=bs.length:=by
 unfold za8
 split
 ·exact ⟨Int.le_refl _,h2⟩
 ·split
  ·exact ⟨Int.le_refl _,h2⟩
  ·split
   ·simp only
    split
    ·exact ⟨Int.le_refl _,h2⟩
    ·exact ⟨Int.le_refl _,h2⟩
   ·simp only
    have:=singleV_at (yq:=yq) h h2 st t
    split
    ·exact this
    ·split
     ·exact this
     ·exact this
theorem zgw {bs:List UInt8} {k:Int} {st:List Lv} {t:Tk} (h:(za8 bs yq st k t).2.2.2=0):t.kind≠0:=by
 intro e
 unfold za8 at h
 rw [yg e] at h
 cases h
theorem zfq (bs:List UInt8) (yq:Bool):∀(g:Nat) (st:List Lv) (k:Int),0<=k->k<=bs.length->((bs.length:Int)-k).toNat<g->∃V,valO bs yq g st k=some V
 | 0,_,_,_,_,h=>by omega
 | g+1,st,k,h,h2,hg=>by
  unfold valO
  simp only
  by_cases he:(zal bs k yq).2.2.2≠0
  ·rw [yg he];exact ⟨_,rfl⟩
  ·rw [yh he]
   have he0:(zal bs k yq).2.2.2=0:=by simpa using he
   obtain ⟨g1,g2⟩:=za1 yq h h2
   have hfar:=zda h h2 he0
   generalize (zal bs k yq).2.2.1=to at *
   generalize (zal bs k yq).1=t at *
   obtain ⟨s1,s2⟩:=stepV_at (bs:=bs) (yq:=yq) (k:=to) (by omega) g2 st t
   have sk:=zgw (bs:=bs) (yq:=yq) (k:=to) (st:=st) (t:=t)
   generalize za8 bs yq st to t=Z at *
   obtain ⟨v,st2,at2,e2⟩:=Z
   simp only at s1 s2 sk |-
   by_cases h0:e2≠0
   ·rw [yg h0];exact ⟨_,rfl⟩
   ·rw [yh h0]
    have hk:=hfar (sk (by simpa using h0))
    cases v with
    | none=>exact zfq bs yq g st2 at2 (by omega) s2 (by omega)
    | some x =>
     cases st2 with
     | nil=>exact ⟨_,rfl⟩
     | cons top rest=>exact zfq bs yq g _ at2 (by omega) s2 (by omega)
def insK (x:PV×PV):List (PV×PV)->List (PV×PV)
 | []=>[x]
 | y::l=>if sLt x.1.s y.1.s then x::y::l else y::insK x l
def hasK (s:List UInt8) (l:List (PV×PV)):Bool:=l.any fun y=>y.1.s==s
def repK (x:PV×PV):List (PV×PV)->List (PV×PV)
 | []=>[]
 | y::l=>if y.1.s=x.1.s then (y.1,x.2)::l else y::repK x l
def putK (x:PV×PV) (l:List (PV×PV)):List (PV×PV):=if hasK x.1.s l then repK x l else insK x l
def docS:List (PV×PV)->List (PV×PV)->Bool->List (PV×PV)×Bool
 | [],l,tw=>(l,tw)
 | x::p,l,tw=>docS p (putK x l) (tw||hasK x.1.s l)
def ascP:List (PV×PV)->Prop
 | []=>True
 | x::l=>(∀y∈l,sLt x.1.s y.1.s=true)/\ascP l
theorem sLt_tr:∀a b c:List UInt8,sLt a b=true->sLt b c=true->sLt a c=true
 | [],[],_,h,_=>by simp [sLt] at h
 | [],_::_,[],_,h=>by simp [sLt] at h
 | [],_::_,_::_,_,_=>by simp [sLt]
 | _::_,[],_,h,_=>by simp [sLt] at h
 | _::_,_::_,[],_,h=>by simp [sLt] at h
 | x::a,y::b,z::c,h1,h2=>by
  simp only [sLt] at h1 h2 |-
  by_cases p1:x.toNat<y.toNat
  ·by_cases p2:y.toNat<z.toNat
   ·rw [yg (by omega)]
   ·rw [yh p2] at h2
    by_cases p3:z.toNat<y.toNat
    ·rw [yg p3] at h2;cases h2
    ·rw [yg (by omega)]
  ·rw [yh p1] at h1
   by_cases p4:y.toNat<x.toNat
   ·rw [yg p4] at h1;cases h1
   ·rw [yh p4] at h1
    by_cases p2:y.toNat<z.toNat
    ·rw [yg (by omega)]
    ·rw [yh p2] at h2
     by_cases p3:z.toNat<y.toNat
     ·rw [yg p3] at h2;cases h2
     ·rw [yh p3] at h2
      rw [yh (by omega),yh (by omega)]
      exact sLt_tr a b c h1 h2
theorem sLt_ir:∀a:List UInt8,sLt a a=false
 | []=>rfl
 | x::a=>by simp only [sLt];rw [yh (by omega),yh (by omega)];exact sLt_ir a
theorem zgV {x y:PV×PV}:∀l,y∈insK x l↔y=x\/y∈l
 | []=>by simp [insK]
 | z::l=>by
  simp only [insK]
  split
  ·simp
  ·rw [List.mem_cons,zgV l,List.mem_cons]
   constructor
   ·rintro (h|h|h)
    ·exact .inr (.inl h)
    ·exact .inl h
    ·exact .inr (.inr h)
   ·rintro (h|h|h)
    ·exact .inr (.inl h)
    ·exact .inl h
    ·exact .inr (.inr h)
theorem zfG (x:PV×PV):∀l,(insK x l).Perm (x::l)
 | []=>List.Perm.refl _
 | y::l=>by
  simp only [insK]
  split
  ·exact List.Perm.refl _
  ·exact ((zfG x l).cons y).trans (List.Perm.swap x y l)
theorem insK_asc {x:PV×PV}:∀l,ascP l->hasK x.1.s l=false->ascP (insK x l)
 | [],_,_=>⟨fun y hy=>(by cases hy),trivial⟩
 | y::l,h,hh=>by
  simp only [hasK,List.any_cons,Bool.or_eq_false_iff,yf] at hh
  simp only [insK]
  split
  ·rename_i hlt
   refine ⟨fun z hz=>?_,h⟩
   rcases List.mem_cons.1 hz with rfl|hz
   ·exact hlt
   ·exact sLt_tr _ _ _ hlt (h.1 z hz)
  ·rename_i hlt
   have hyx:sLt y.1.s x.1.s=true:=zcJ _ _ (by simpa using hlt) (fun e=>hh.1 e.symm)
   refine ⟨fun z hz=>?_,insK_asc l h.2 hh.2⟩
   rcases (zgV l).1 hz with rfl|hz
   ·exact hyx
   ·exact h.1 z hz
theorem zgp:∀l m:List (PV×PV),ascP l->ascP m->l.Perm m->l=m
 | [],m,_,_,h=>(List.Perm.nil_eq h).symm▸rfl
 | x::l,[],_,_,h=>absurd h.length_eq (by simp)
 | x::l,y::m,hl,hm,h=>by
  have hxy:x=y:=by
   have h1:x∈y::m:=h.mem_iff.1 (List.mem_cons_self)
   have h2:y∈x::l:=h.mem_iff.2 (List.mem_cons_self)
   rcases List.mem_cons.1 h1 with h1|h1
   ·exact h1
   ·rcases List.mem_cons.1 h2 with h2|h2
    ·exact h2.symm
    ·have a1:=hm.1 x h1
     have a2:=hl.1 y h2
     rw [sLt_as _ _ a1] at a2
     cases a2
  subst hxy
  rw [zgp l m hl.2 hm.2 ((List.perm_cons x).1 h)]
theorem zec:∀l:List (PV×PV),zfZ l->zb3 l=false->ascP l
 | [],_,_=>trivial
 | [x],_,_=>⟨fun y hy=>(by cases hy),trivial⟩
 | x::y::l,h,ht=>by
  simp only [zb3,Bool.or_eq_false_iff,yf] at ht
  have hr:=zec (y::l) h.2 ht.2
  have hxy:sLt x.1.s y.1.s=true:=zcJ _ _ h.1 (fun e=>ht.1 e.symm)
  refine ⟨fun z hz=>?_,hr⟩
  rcases List.mem_cons.1 hz with rfl|hz
  ·exact hxy
  ·exact sLt_tr _ _ _ hxy (hr.1 z hz)
def zft:List (PV×PV)->Prop
 | []=>True
 | x::l=>(∀y∈l,y.1.s≠x.1.s)/\zft l
theorem zce {l m:List (PV×PV)} (h:l.Perm m):zft l->zft m:=by
 induction h with
 | nil=>exact id
 | cons x h ih=>exact fun ⟨h1,h2⟩=>⟨fun y hy=>h1 y (h.mem_iff.2 hy),ih h2⟩
 | swap x y l =>
  rintro ⟨h1,h2,h3⟩
  refine ⟨fun z hz=>?_,fun z hz=>h1 z (List.mem_cons_of_mem _ hz),h3⟩
  rcases List.mem_cons.1 hz with rfl|hz
  ·exact fun e=>h1 x (List.mem_cons_self) e.symm
  ·exact h2 z hz
 | trans _ _ ih1 ih2=>exact fun h=>ih2 (ih1 h)
theorem zfM:∀l:List (PV×PV),zb3 l=true->¬zft l
 | [],h,_=>by cases h
 | [_],h,_=>by cases h
 | x::y::l,h,hn=>by
  simp only [zb3,Bool.or_eq_true,beq_iff_eq] at h
  rcases h with h|h
  ·exact hn.1 y (List.mem_cons_self) h.symm
  ·exact zfM (y::l) h hn.2
theorem ze8:∀l:List (PV×PV),ascP l->zft l
 | [],_=>trivial
 | x::l,h=>⟨fun y hy e=>(by have:=h.1 y hy;rw [e,sLt_ir] at this;cases this),ze8 l h.2⟩
theorem hasK_no {s:List UInt8} {l:List (PV×PV)}:hasK s l=false↔∀y∈l,y.1.s≠s:=by
 unfold hasK
 rw [List.any_eq_false]
 simp
theorem docS_tw:∀p l,(docS p l true).2=true
 | [],_=>rfl
 | x::p,l=>by simp only [docS,Bool.true_or];exact docS_tw p _
theorem docS_is:∀(p l:List (PV×PV)),ascP l->((docS p l false).2=false->ascP (docS p l false).1/\(docS p l false).1.Perm (l++p))/\((docS p l false).2=true->¬zft (l++p))
 | [],l,h=>⟨fun _=>⟨h,by simp [docS]⟩,fun e=>by cases e⟩
 | x::p,l,h=>by
  simp only [docS,Bool.false_or]
  cases hk:hasK x.1.s l with
  | true =>
   refine ⟨fun e=>?_,fun _ hn=>?_⟩
   ·rw [docS_tw] at e;cases e
   ·have h1:=zce (List.perm_middle) hn
    have h2:hasK x.1.s l=false:=hasK_no.2 fun y hy=>h1.1 y (List.mem_append_left _ hy)
    rw [hk] at h2;cases h2
  | false =>
   have e1:putK x l=insK x l:=by unfold putK;rw [hk];rfl
   rw [e1]
   obtain ⟨r1,r2⟩:=docS_is p (insK x l) (insK_asc l h hk)
   have hp:(insK x l++p).Perm (l++x::p):=((zfG x l).append_right p).trans (List.perm_middle.symm)
   exact ⟨fun e=>⟨(r1 e).1,(r1 e).2.trans hp⟩,fun e hn=>r2 e (zce hp.symm hn)⟩
theorem pairs_doc (l:List PV):zcW l=if (docS (twoV l) [] false).2=true then none else some (zaV (docS (twoV l) [] false).1):=by
 obtain ⟨r1,r2⟩:=docS_is (twoV l) [] trivial
 have hp:=zfr (twoV l)
 unfold zcW
 cases hd:(docS (twoV l) [] false).2 with
 | true =>
  have hn:=r2 hd
  have ht:zb3 (zdH (twoV l))=true:=by
   cases h:zb3 (zdH (twoV l)) with
   | true=>rfl
   | false=>exact absurd (zce hp (ze8 _ (zec _ (zdg _) h))) hn
  rw [yg ht,yg rfl]
 | false =>
  obtain ⟨q1,q2⟩:=r1 hd
  have hn:zft (twoV l):=zce q2 (ze8 _ q1)
  have ht:zb3 (zdH (twoV l))=false:=by
   cases h:zb3 (zdH (twoV l)) with
   | false=>rfl
   | true=>exact absurd (zce hp.symm hn) (zfM _ h)
  rw [yh (by simp [ht]),yh (by simp)]
  rw [zgp _ _ (zec _ (zdg _) ht) q1 (hp.trans q2.symm)]
theorem docS_snoc:∀(p:List (PV×PV)) (x:PV×PV) (l:List (PV×PV)) (tw:Bool),docS (p++[x]) l tw=(putK x (docS p l tw).1,(docS p l tw).2||hasK x.1.s (docS p l tw).1)
 | [],_,_,_=>rfl
 | y::p,x,l,tw=>by simp only [List.cons_append,docS];exact docS_snoc p x _ _
theorem two_snoc:∀(l:List PV) (a b:PV),l.length % 2=0->twoV (l++[a,b])=twoV l++[(a,b)]
 | [],_,_,_=>rfl
 | [_],_,_,h=>by simp at h
 | x::y::l,a,b,h=>by simp only [List.cons_append,twoV];rw [two_snoc l a b (by simp at h;omega)]
def refD (bs:List UInt8) (yq:Bool) (at_ n:Int):Bool×Int×Int :=
 let g:=zal bs at_ yq
 if g.2.2.2=6 then (false,0,6) else
 if g.2.2.2≠0\/zaH g.1=false then (false,0,0) else
 let r:=zal bs g.2.2.1 yq
 if r.2.2.2=6 then (false,0,6) else
 if r.2.2.2≠0\/r.1.kind≠6\/r.1.s≠[82] then (false,0,0) else
 if n<1\/4096<n\/g.1.vn≠0 then (false,0,26) else (true,r.2.2.1,0)
def zbK (bs:List UInt8) (yq:Bool) (t:Tk) (tto:Int):PV×Int×Int :=
 if t.kind=6 then (match zdq t.s with|none=>(PV.none,0,11)|some v=>(v,tto,0))
 else if zaH t=true then
  (if (refD bs yq tto t.vn).2.2≠0 then (PV.none,0,(refD bs yq tto t.vn).2.2) else if (refD bs yq tto t.vn).1=true then (.mk 8 t.vn [] [],(refD bs yq tto t.vn).2.1,0) else (tkV t,tto,0))
 else (tkV t,tto,0)
def arrD (bs:List UInt8) (yq:Bool) (f:Tk->Int->PV×Int×Int):Nat->List PV->Int->PV×Int×Int
 | 0,_,_=>(PV.none,0,10)
 | r+1,l,at_ =>
  if (zal bs at_ yq).2.2.2≠0 then (PV.none,0,(zal bs at_ yq).2.2.2)
  else if (zal bs at_ yq).1.kind=3 then (.mk 6 0 [] l,(zal bs at_ yq).2.2.1,0)
  else if (f (zal bs at_ yq).1 (zal bs at_ yq).2.2.1).2.2≠0 then (PV.none,0,(f (zal bs at_ yq).1 (zal bs at_ yq).2.2.1).2.2)
  else arrD bs yq f r (l++[(f (zal bs at_ yq).1 (zal bs at_ yq).2.2.1).1]) (f (zal bs at_ yq).1 (zal bs at_ yq).2.2.1).2.1
def zd3 (bs:List UInt8) (yq:Bool) (f:Tk->Int->PV×Int×Int) (d:Nat):Nat->List (PV×PV)->Bool->Int->PV×Int×Int
 | 0,_,_,_=>(PV.none,0,10)
 | r+1,ps,tw,at_ =>
  let t:=zal bs at_ yq
  if t.2.2.2≠0 then (PV.none,0,t.2.2.2)
  else if t.1.kind=5 then (if tw=true then (PV.none,0,16) else (.mk 7 0 [] (zaV ps),t.2.2.1,0))
  else if t.1.kind=0 then (PV.none,0,10)
  else if t.1.kind≠1\/t.1.vk≠5 then (PV.none,0,11)
  else if d=0 then (PV.none,0,15)
  else
   let u:=zal bs t.2.2.1 yq
   if u.2.2.2≠0 then (PV.none,0,u.2.2.2)
   else if (f u.1 u.2.2.1).2.2≠0 then (PV.none,0,(f u.1 u.2.2.1).2.2)
   else zd3 bs yq f d r (putK (.mk 5 0 t.1.vs [],(f u.1 u.2.2.1).1) ps) (tw||hasK t.1.vs ps) (f u.1 u.2.2.1).2.1
def vlD (bs:List UInt8) (yq:Bool):Nat->Tk->Int->PV×Int×Int
 | 0,t,tto =>
  if t.kind=0 then (PV.none,0,10) else if t.kind=2\/t.kind=4 then (PV.none,0,15) else if t.kind=3\/t.kind=5 then (PV.none,0,11)
  else if (zbK bs yq t tto).2.2≠0 then (PV.none,0,(zbK bs yq t tto).2.2) else (PV.none,0,15)
 | d+1,t,tto =>
  if t.kind=0 then (PV.none,0,10)
  else if t.kind=2 then arrD bs yq (vlD bs yq d) (bs.length+1) [] tto
  else if t.kind=4 then zd3 bs yq (vlD bs yq d) d (bs.length+1) [] false tto
  else if t.kind=3\/t.kind=5 then (PV.none,0,11)
  else zbK bs yq t tto
def zbB (bs:List UInt8) (yq:Bool) (at_:Int):PV×Int×Int :=
 if (zal bs at_ yq).2.2.2≠0 then (PV.none,0,(zal bs at_ yq).2.2.2) else vlD bs yq 64 (zal bs at_ yq).1 (zal bs at_ yq).2.2.1
theorem refD_is {bs:List UInt8} {k:Int} (v:PV) (n:Int) (hn:v.n=n) :
  (refV bs yq k v).2.2=(refD bs yq k n).2.2/\((refD bs yq k n).2.2=0->(refV bs yq k v).1=(if (refD bs yq k n).1=true then .mk 8 n [] [] else v)/\(refV bs yq k v).2.1=if (refD bs yq k n).1=true then (refD bs yq k n).2.1 else k):=by
 unfold refV refD
 simp only
 by_cases g6:(zal bs k yq).2.2.2=6
 ·rw [yg (.inl (by rw [g6];decide)),yg g6,g6]
  exact ⟨rfl,fun h=>by cases h⟩
 ·rw [yh g6]
  by_cases hc:(zal bs k yq).2.2.2≠0\/zaH (zal bs k yq).1=false
  ·rw [yg hc,yg hc]
   have:moreV (zal bs k yq).2.2.2=0:=yh g6
   exact ⟨this,fun _=>⟨rfl,rfl⟩⟩
  ·rw [yh hc,yh hc]
   by_cases r6:(zal bs (zal bs k yq).2.2.1 yq).2.2.2=6
   ·rw [yg (.inl (by rw [r6];decide)),yg r6,r6]
    exact ⟨rfl,fun h=>by cases h⟩
   ·rw [yh r6]
    by_cases hd:(zal bs (zal bs k yq).2.2.1 yq).2.2.2≠0\/(zal bs (zal bs k yq).2.2.1 yq).1.kind≠6\/(zal bs (zal bs k yq).2.2.1 yq).1.s≠[82]
    ·rw [yg hd,yg hd]
     have:moreV (zal bs (zal bs k yq).2.2.1 yq).2.2.2=0:=yh r6
     exact ⟨this,fun _=>⟨rfl,rfl⟩⟩
    ·rw [yh hd,yh hd,hn]
     by_cases he:n<1\/4096<n\/(zal bs k yq).1.vn≠0
     ·rw [yg he,yg he]
      exact ⟨rfl,fun h=>by cases h⟩
     ·rw [yh he,yh he]
      exact ⟨rfl,fun _=>⟨rfl,rfl⟩⟩
theorem singD_is {bs:List UInt8} {st:List Lv} {t:Tk} (hw:topW st=false) :
  ((zbK bs yq t tto).2.2=0->zaN bs yq st tto t=((zbK bs yq t tto).1,(zbK bs yq t tto).2.1,0))/\((zbK bs yq t tto).2.2≠0->(zaN bs yq st tto t).2.2=(zbK bs yq t tto).2.2):=by
 have hs:zaN bs yq st tto t=(if t.kind=6 then (match zdq t.s with|none=>(PV.none,tto,11)|some v=>(v,tto,0)) else if zaH t=true then refV bs yq tto (tkV t) else (tkV t,tto,0)):=by
  unfold zaN
  rw [yh (by rintro ⟨h,-⟩;rw [hw] at h;cases h)]
  all_goals (try rfl)
 rw [hs]
 unfold zbK
 by_cases k6:t.kind=6
 ·simp only [yg k6]
  cases hq:zdq t.s with
  | none=>exact ⟨fun h=>(by cases h),fun _=>rfl⟩
  | some v=>exact ⟨fun _=>rfl,fun h=>absurd rfl h⟩
 ·simp only [yh k6]
  by_cases hq:zaH t=true
  ·simp only [yg hq]
   obtain ⟨r1,r2⟩:=refD_is (bs:=bs) (yq:=yq) (k:=tto) (tkV t) t.vn rfl
   by_cases he:(refD bs yq tto t.vn).2.2≠0
   ·simp only [yg he]
    exact ⟨fun h=>absurd h he,fun _=>r1⟩
   ·simp only [yh he]
    have he0:(refD bs yq tto t.vn).2.2=0:=by simpa using he
    obtain ⟨p1,p2⟩:=r2 he0
    rw [he0] at r1
    by_cases hb:(refD bs yq tto t.vn).1=true
    ·simp only [yg hb] at p1 p2 |-
     exact ⟨fun _=>Prod.ext p1 (Prod.ext p2 r1),fun h=>absurd rfl h⟩
    ·simp only [yh hb] at p1 p2 |-
     exact ⟨fun _=>Prod.ext p1 (Prod.ext p2 r1),fun h=>absurd rfl h⟩
  ·simp only [yh hq]
   exact ⟨fun _=>by trivial,fun h=>absurd rfl h⟩
def contO (bs:List UInt8) (yq:Bool) (g:Nat) (st:List Lv) (at_:Int) (x:PV):Option (PV×Int×Int) :=
 match st with
 | []=>some (x,at_,0)
 | top::rest=>valO bs yq g ({ top with l:=top.l++[x] }::rest) at_
def aftO (bs:List UInt8) (yq:Bool) (g:Nat) (st:List Lv) (tto:Int) (t:Tk):Option (PV×Int×Int) :=
 if (za8 bs yq st tto t).2.2.2≠0 then some (PV.none,0,(za8 bs yq st tto t).2.2.2) else
 match (za8 bs yq st tto t).1 with
 | none=>valO bs yq g (za8 bs yq st tto t).2.1 (za8 bs yq st tto t).2.2.1
 | some x=>contO bs yq g (za8 bs yq st tto t).2.1 (za8 bs yq st tto t).2.2.1 x
theorem zeA (bs:List UInt8) (yq:Bool) (g:Nat) (st:List Lv) (k:Int):valO bs yq (g+1) st k=if (zal bs k yq).2.2.2≠0 then some (PV.none,0,(zal bs k yq).2.2.2) else aftO bs yq g st (zal bs k yq).2.2.1 (zal bs k yq).1:=by
 unfold aftO contO
 rw [valO]
 all_goals (try rfl)
def AnsD (bs:List UInt8) (yq:Bool) (st:List Lv) (R:PV×Int×Int) (P:PV×Int×Int->Prop):Prop :=
 (R.2.2=0->∀V,(∃g,contO bs yq g st R.2.1 R.1=some V)->P V)/\(R.2.2≠0->P (PV.none,0,R.2.2))
theorem zb0 {bs:List UInt8} {st:List Lv} {t:Tk} {e:Int} (h:(za8 bs yq st tto t).2.2.2=e) (he:e≠0):∃g,aftO bs yq g st tto t=some (PV.none,0,e):=by
 refine ⟨0,?_⟩
 unfold aftO
 rw [yg (by rw [h];exact he),h]
theorem zeU {bs:List UInt8} {st st2:List Lv} {t:Tk} (h:za8 bs yq st tto t=(none,st2,at2,0)) (g:Nat):aftO bs yq g st tto t=valO bs yq g st2 at2:=by
 unfold aftO
 rw [h]
 simp only
 rw [yh (by decide)]
theorem zeV {bs:List UInt8} {st st2:List Lv} {t:Tk} {x:PV} (h:za8 bs yq st tto t=(some x,st2,at2,0)) (g:Nat):aftO bs yq g st tto t=contO bs yq g st2 at2 x:=by
 unfold aftO
 rw [h]
 simp only
 rw [yh (by decide)]
theorem sing_ans {bs:List UInt8} {st:List Lv} {t:Tk} (hw:topW st=false) (hk:t.kind=1\/t.kind=6) :
  (st.length<64->AnsD bs yq st (zbK bs yq t tto) fun V=>∃g,aftO bs yq g st tto t=some V) /\
  (64<=st.length->∃g,aftO bs yq g st tto t=some (PV.none,0,if (zbK bs yq t tto).2.2≠0 then (zbK bs yq t tto).2.2 else 15)):=by
 obtain ⟨s1,s2⟩:=singD_is (bs:=bs) (yq:=yq) (tto:=tto) (t:=t) hw
 have hst:za8 bs yq st tto t=(if (zaN bs yq st tto t).2.2≠0 then (none,st,(zaN bs yq st tto t).2.1,(zaN bs yq st tto t).2.2) else if 64<=st.length then (none,st,(zaN bs yq st tto t).2.1,15) else (some (zaN bs yq st tto t).1,st,(zaN bs yq st tto t).2.1,0)):=by
  unfold za8
  rw [yh (by omega),yh (by omega),yh (by omega)]
 by_cases he:(zbK bs yq t tto).2.2=0
 ·have h1:=s1 he
  rw [h1] at hst
  simp only at hst
  rw [yh (by decide)] at hst
  refine ⟨fun hl=>⟨fun _ V hV=>?_,fun h=>absurd he h⟩,fun hl=>?_⟩
  ·rw [yh (by omega)] at hst
   obtain ⟨g,hg⟩:=hV
   exact ⟨g,by rw [zeV hst];exact hg⟩
  ·rw [yg hl] at hst
   rw [yh (by simp [he])]
   exact zb0 (by rw [hst]) (by decide)
 ·have h1:=s2 he
  rw [yg (by rw [h1];exact he)] at hst
  refine ⟨fun hl=>⟨fun h=>absurd h he,fun _=>?_⟩,fun hl=>?_⟩
  ·exact zb0 (by rw [hst];exact h1) he
  ·rw [yg he]
   exact zb0 (by rw [hst];exact h1) he
def ValAt (bs:List UInt8) (yq:Bool) (d:Nat):Prop:=∀(st:List Lv) (t:Tk) (tto:Int),st.length+d=64->topW st=false->(t.kind=3->∀v rest,st=v::rest->v.dict=true)->tkOk t->0<=tto->tto<=bs.length ->
 AnsD bs yq st (vlD bs yq d t tto) (fun V=>∃g,aftO bs yq g st tto t=some V)/\((vlD bs yq d t tto).2.2=0->t.kind≠0/\tto<=(vlD bs yq d t tto).2.1/\(vlD bs yq d t tto).2.1<=bs.length)
theorem arr_ans {bs:List UInt8} {yq:Bool} {d:Nat} (hf:ValAt bs yq d) (st:List Lv) (hd:st.length+1+d=64):∀(r:Nat) (l:List PV) (k:Int),0<=k->k<=bs.length->((bs.length:Int)-k).toNat<r ->
  AnsD bs yq st (arrD bs yq (vlD bs yq d) r l k) (fun V=>∃g,valO bs yq g ({ dict:=false,l:=l }::st) k=some V)/\((arrD bs yq (vlD bs yq d) r l k).2.2=0->k<=(arrD bs yq (vlD bs yq d) r l k).2.1/\(arrD bs yq (vlD bs yq d) r l k).2.1<=bs.length)
 | 0,_,_,_,_,h=>by omega
 | r+1,l,k,h,h2,hr=>by
  obtain ⟨g1,g2⟩:=za1 yq h h2
  have hok:=zd0 yq h h2
  have hfar:=zda (yq:=yq) h h2
  have hval:=zeA bs yq
  simp only [arrD]
  by_cases he:(zal bs k yq).2.2.2≠0
  ·rw [yg he]
   exact ⟨⟨fun h=>absurd h he,fun _=>⟨1,by rw [hval,yg he]⟩⟩,fun h=>absurd h he⟩
  ·rw [yh he]
   have he0:(zal bs k yq).2.2.2=0:=by simpa using he
   have hfar2:=hfar he0
   have hgo:∀V,(∃g,aftO bs yq g ({ dict:=false,l:=l }::st) (zal bs k yq).2.2.1 (zal bs k yq).1=some V)->∃g,valO bs yq g ({ dict:=false,l:=l }::st) k=some V:=fun V ⟨g,hg⟩=>⟨g+1,by rw [hval,yh he];exact hg⟩
   generalize (zal bs k yq).2.2.1=tto at *
   generalize (zal bs k yq).1=t at *
   by_cases k3:t.kind=3
   ·rw [yg k3]
    have hst:za8 bs yq ({ dict:=false,l:=l }::st) tto t=(some (.mk 6 0 [] l),st,tto,0):=by
     unfold za8
     rw [yh (by omega),yh (by omega),yg (.inl k3)]
     have hk:(t.kind==5)=false:=by rw [yf];omega
     rw [hk]
     simp [zbH]
    exact ⟨⟨fun _ V ⟨g,hg⟩=>hgo V ⟨g,by rw [zeV hst];exact hg⟩,fun h=>absurd rfl h⟩,fun _=>⟨g1,g2⟩⟩
   ·rw [yh k3]
    obtain ⟨f1,f2⟩:=hf ({ dict:=false,l:=l }::st) t tto (by simpa using hd) rfl (fun h=>absurd h k3) hok (by omega) g2
    by_cases hv:(vlD bs yq d t tto).2.2≠0
    ·rw [yg hv]
     exact ⟨⟨fun h=>absurd h hv,fun _=>hgo _ (f1.2 hv)⟩,fun h=>absurd h hv⟩
    ·rw [yh hv]
     have hv0:(vlD bs yq d t tto).2.2=0:=by simpa using hv
     obtain ⟨q1,q2,q3⟩:=f2 hv0
     have hlt:=hfar2 q1
     obtain ⟨r1,r2⟩:=arr_ans hf st hd r (l++[(vlD bs yq d t tto).1]) (vlD bs yq d t tto).2.1 (by omega) q3 (by omega)
     exact ⟨⟨fun h V hV=>hgo V (f1.1 hv0 V (r1.1 h V hV)),fun h=>hgo _ (f1.1 hv0 _ (r1.2 h))⟩,fun h=>⟨by have:=(r2 h).1;omega,(r2 h).2⟩⟩
theorem name_tk {t:Tk} (ht:tkOk t) (h1:t.kind=1) (h5:t.vk=5):tkV t=.mk 5 0 t.vs []:=by
 obtain ⟨o1,-,-⟩:=ht.2.2 h1
 have hn:t.vn=0:=by
  unfold tkV at o1
  rw [h5] at o1
  simp only [ownC] at o1
  rw [yh (by decide),yh (by decide),yh (by decide),yh (by decide),yg (by trivial)] at o1
  split at o1
  ·cases o1
  ·split at o1
   ·rename_i h;exact h.1
   ·cases o1
 unfold tkV
 rw [h5,hn]
theorem step_name {bs:List UInt8} {st:List Lv} {t:Tk} (ht:tkOk t) (h1:t.kind=1) (h5:t.vk=5):za8 bs yq st tto t=if 64<=st.length then (none,st,tto,15) else (some (.mk 5 0 t.vs []),st,tto,0):=by
 have hs:zaN bs yq st tto t=(tkV t,tto,0):=by
  unfold zaN
  rw [yh (by rintro ⟨-,h|h⟩;exact h h1;exact h h5),yh (by omega),yh (by unfold zaH;rw [h5];simp)]
 unfold za8
 rw [yh (by omega),yh (by omega),yh (by omega),hs,name_tk ht h1 h5]
 simp only
 rw [yh (by decide)]
theorem dict_ans {bs:List UInt8} {yq:Bool} {d:Nat} (hf:ValAt bs yq d) (st:List Lv) (hd:st.length+1+d=64):∀(r:Nat) (l:List PV) (k:Int),l.length % 2=0->0<=k->k<=bs.length->((bs.length:Int)-k).toNat<r ->
  AnsD bs yq st (zd3 bs yq (vlD bs yq d) d r (docS (twoV l) [] false).1 (docS (twoV l) [] false).2 k) (fun V=>∃g,valO bs yq g ({ dict:=true,l:=l }::st) k=some V)/\((zd3 bs yq (vlD bs yq d) d r (docS (twoV l) [] false).1 (docS (twoV l) [] false).2 k).2.2=0->k<=(zd3 bs yq (vlD bs yq d) d r (docS (twoV l) [] false).1 (docS (twoV l) [] false).2 k).2.1/\(zd3 bs yq (vlD bs yq d) d r (docS (twoV l) [] false).1 (docS (twoV l) [] false).2 k).2.1<=bs.length)
 | 0,_,_,_,_,_,h=>by omega
 | r+1,l,k,hl,h,h2,hr=>by
  obtain ⟨g1,g2⟩:=za1 yq h h2
  have hok:=zd0 yq h h2
  have hfar:=zda (yq:=yq) h h2
  have hval:=zeA bs yq
  have hpd:=pairs_doc l
  have htw:=docS_snoc (twoV l)
  have hts:=two_snoc l
  simp only [zd3]
  generalize hps:docS (twoV l) [] false=D at *
  obtain ⟨ps,tw⟩:=D
  simp only at hpd |-
  by_cases he:(zal bs k yq).2.2.2≠0
  ·rw [yg he]
   exact ⟨⟨fun h=>absurd h he,fun _=>⟨1,by rw [hval,yg he]⟩⟩,fun h=>absurd h he⟩
  ·rw [yh he]
   have he0:(zal bs k yq).2.2.2=0:=by simpa using he
   have hfar2:=hfar he0
   have hgo:∀V,(∃g,aftO bs yq g ({ dict:=true,l:=l }::st) (zal bs k yq).2.2.1 (zal bs k yq).1=some V)->∃g,valO bs yq g ({ dict:=true,l:=l }::st) k=some V:=fun V ⟨g,hg⟩=>⟨g+1,by rw [hval,yh he];exact hg⟩
   generalize (zal bs k yq).2.2.1=tto at *
   generalize (zal bs k yq).1=t at *
   have hw:topW ({ dict:=true,l:=l }::st)=true:=by simp [topW,zcZ,hl]
   by_cases k5:t.kind=5
   ·rw [yg k5]
    have hst:za8 bs yq ({ dict:=true,l:=l }::st) tto t=if tw=true then (none,{ dict:=true,l:=l }::st,tto,16) else (some (.mk 7 0 [] (zaV ps)),st,tto,0):=by
     have hww:zcZ { dict:=true,l:=l }=true:=hw
     unfold za8
     rw [yh (by omega),yh (by omega),yg (.inr k5)]
     have hk:(t.kind==5)=true:=by rw [beq_iff_eq];exact k5
     rw [hk]
     cases tw with
     | true=>simp [zbH,hww,hpd]
     | false=>simp [zbH,hww,hpd]
    cases tw with
    | true =>
     rw [yg rfl] at hst |-
     exact ⟨⟨fun h=>(by cases h),fun _=>hgo _ (zb0 (by rw [hst]) (by decide))⟩,fun h=>by cases h⟩
    | false =>
     rw [yh (by decide)] at hst |-
     exact ⟨⟨fun _ V ⟨g,hg⟩=>hgo V ⟨g,by rw [zeV hst];exact hg⟩,fun h=>absurd rfl h⟩,fun _=>⟨g1,g2⟩⟩
   ·rw [yh k5]
    by_cases k0:t.kind=0
    ·rw [yg k0]
     exact ⟨⟨fun h=>(by cases h),fun _=>hgo _ (zb0 (by unfold za8;rw [yg k0]) (by decide))⟩,fun h=>by cases h⟩
    ·rw [yh k0]
     by_cases kv:t.kind≠1\/t.vk≠5
     ·rw [yg kv]
      have hst:(za8 bs yq ({ dict:=true,l:=l }::st) tto t).2.2.2=11:=by
       unfold za8
       rw [yh k0]
       by_cases k24:t.kind=2\/t.kind=4
       ·rw [yg k24]
        unfold zcg
        rw [yg hw]
       ·rw [yh k24]
        by_cases k3:t.kind=3
        ·rw [yg (.inl k3)]
         have hk:(t.kind==5)=false:=by rw [yf];omega
         rw [hk]
         simp [zbH]
        ·rw [yh (by omega)]
         have hs:zaN bs yq ({ dict:=true,l:=l }::st) tto t=(PV.none,tto,11):=by
          unfold zaN
          rw [yg ⟨hw,kv⟩]
         rw [hs]
         rfl
      exact ⟨⟨fun h=>(by cases h),fun _=>hgo _ (zb0 hst (by decide))⟩,fun h=>by cases h⟩
     ·rw [yh kv]
      have k1:t.kind=1:=Decidable.byContradiction fun h=>kv (.inl h)
      have v5:t.vk=5:=Decidable.byContradiction fun h=>kv (.inr h)
      have hst:=step_name (bs:=bs) (yq:=yq) (st:={ dict:=true,l:=l }::st) (tto:=tto) hok k1 v5
      by_cases d0:d=0
      ·rw [yg d0]
       rw [yg (by simp only [List.length_cons];omega)] at hst
       exact ⟨⟨fun h=>(by cases h),fun _=>hgo _ (zb0 (by rw [hst]) (by decide))⟩,fun h=>by cases h⟩
      ·rw [yh d0]
       rw [yh (by simp only [List.length_cons];omega)] at hst
       have hlt:=hfar2 k0
       have hgo2:∀V,(∃g,valO bs yq g ({ dict:=true,l:=l++[.mk 5 0 t.vs []] }::st) tto=some V)->∃g,valO bs yq g ({ dict:=true,l:=l }::st) k=some V:=fun V ⟨g,hg⟩=>hgo V ⟨g,by rw [zeV hst];exact hg⟩
       obtain ⟨u1,u2⟩:=za1 (bs:=bs) (k:=tto) yq (by omega) g2
       have uok:=zd0 (bs:=bs) (k:=tto) yq (by omega) g2
       by_cases ue:(zal bs tto yq).2.2.2≠0
       ·rw [yg ue]
        exact ⟨⟨fun h=>absurd h ue,fun _=>hgo2 _ ⟨1,by rw [hval,yg ue]⟩⟩,fun h=>absurd h ue⟩
       ·rw [yh ue]
        have hgo3:∀V,(∃g,aftO bs yq g ({ dict:=true,l:=l++[.mk 5 0 t.vs []] }::st) (zal bs tto yq).2.2.1 (zal bs tto yq).1=some V)->∃g,valO bs yq g ({ dict:=true,l:=l }::st) k=some V:=fun V ⟨g,hg⟩=>hgo2 V ⟨g+1,by rw [hval,yh ue];exact hg⟩
        generalize (zal bs tto yq).2.2.1=uto at *
        generalize (zal bs tto yq).1=u at *
        obtain ⟨f1,f2⟩:=hf ({ dict:=true,l:=l++[.mk 5 0 t.vs []] }::st) u uto (by simpa using hd) (by simp [topW,zcZ];omega) (fun _ v rest hv=>by cases hv;rfl) uok (by omega) u2
        by_cases hv:(vlD bs yq d u uto).2.2≠0
        ·rw [yg hv]
         exact ⟨⟨fun h=>absurd h hv,fun _=>hgo3 _ (f1.2 hv)⟩,fun h=>absurd h hv⟩
        ·rw [yh hv]
         have hv0:(vlD bs yq d u uto).2.2=0:=by simpa using hv
         obtain ⟨q1,q2,q3⟩:=f2 hv0
         obtain ⟨r1,r2⟩:=dict_ans hf st hd r (l++[.mk 5 0 t.vs [],(vlD bs yq d u uto).1]) (vlD bs yq d u uto).2.1 (by simp;omega) (by omega) q3 (by omega)
         rw [hts _ _ hl,htw,hps] at r1 r2
         have happ:∀x:PV,(l++[.mk 5 0 t.vs []])++[x]=l++[.mk 5 0 t.vs [],x]:=fun x=>by simp
         have hc:∀V,(∃g,valO bs yq g ({ dict:=true,l:=l++[.mk 5 0 t.vs [],(vlD bs yq d u uto).1] }::st) (vlD bs yq d u uto).2.1=some V)->∃g,contO bs yq g ({ dict:=true,l:=l++[.mk 5 0 t.vs []] }::st) (vlD bs yq d u uto).2.1 (vlD bs yq d u uto).1=some V:=fun V ⟨g,hg⟩=>⟨g,by show valO bs yq g ({ dict:=true,l:=(l++[.mk 5 0 t.vs []])++[_] }::st) _=_;rw [happ];exact hg⟩
         exact ⟨⟨fun h V hV=>hgo3 V (f1.1 hv0 V (hc V (r1.1 h V hV))),fun h=>hgo3 _ (f1.1 hv0 _ (hc _ (r1.2 h)))⟩,fun h=>⟨Int.le_trans (show k<=(vlD bs yq d u uto).2.1 by omega) (r2 h).1,(r2 h).2⟩⟩
theorem refD_at {bs:List UInt8} {k n:Int} (h:0<=k) (h2:k<=bs.length) (hb:(refD bs yq k n).1=true):k<=(refD bs yq k n).2.1/\(refD bs yq k n).2.1<=bs.length:=by
 obtain ⟨g1,g2⟩:=za1 yq h h2
 obtain ⟨r1,r2⟩:=za1 (bs:=bs) (k:=(zal bs k yq).2.2.1) yq (by omega) g2
 unfold refD at hb |-
 simp only at hb |-
 split at hb
 ·cases hb
 ·rename_i q1
  rw [yh q1]
  split at hb
  ·cases hb
  ·rename_i q2
   rw [yh q2]
   split at hb
   ·cases hb
   ·rename_i q3
    rw [yh q3]
    split at hb
    ·cases hb
    ·rename_i q4
     rw [yh q4]
     split at hb
     ·cases hb
     ·rename_i q5
      rw [yh q5]
      exact ⟨Int.le_trans g1 r1,r2⟩
theorem singD_at {bs:List UInt8} {k:Int} {t:Tk} (h:0<=k) (h2:k<=bs.length) (he:(zbK bs yq t k).2.2=0):k<=(zbK bs yq t k).2.1/\(zbK bs yq t k).2.1<=bs.length:=by
 unfold zbK at he |-
 split
 ·rename_i q
  rw [yg q] at he
  cases hw:zdq t.s with
  | none=>rw [hw] at he;cases he
  | some v=>exact ⟨Int.le_refl _,h2⟩
 ·rename_i q
  rw [yh q] at he
  split
  ·rename_i q2
   rw [yg q2] at he
   split
   ·rename_i q3;rw [yg q3] at he;exact absurd he q3
   ·split
    ·rename_i q4;exact refD_at h h2 q4
    ·exact ⟨Int.le_refl _,h2⟩
  ·exact ⟨Int.le_refl _,h2⟩
theorem close_err {bs:List UInt8} {st:List Lv} {t:Tk} (hw:topW st=false) (hn3:t.kind=3->∀v rest,st=v::rest->v.dict=true) (k:t.kind=3\/t.kind=5):(za8 bs yq st tto t).2.2.2=11:=by
 have he:(zbH st (t.kind==5)).2.2=11:=by
  cases st with
  | nil=>rfl
  | cons v rest =>
   unfold zbH
   simp only
   rw [yg]
   rcases k with k|k
   ·left
    have hk:(t.kind==5)=false:=by rw [yf];omega
    rw [hk,hn3 k v rest rfl]
    decide
   ·have hk:(t.kind==5)=true:=by rw [beq_iff_eq];exact k
    rw [hk]
    exact .inr ⟨rfl,hw⟩
 unfold za8
 rw [yh (by omega),yh (by omega),yg k]
 simp only
 rw [yh (by rw [he];decide)]
 exact he
theorem val_ans {bs:List UInt8} {yq:Bool}:∀d,ValAt bs yq d
 | 0=>fun st t tto hd hw hn3 ht h h2=>by
  unfold vlD
  by_cases k0:t.kind=0
  ·rw [yg k0]
   exact ⟨⟨fun h=>(by cases h),fun _=>zb0 (by unfold za8;rw [yg k0]) (by decide)⟩,fun h=>by cases h⟩
  ·rw [yh k0]
   by_cases k24:t.kind=2\/t.kind=4
   ·rw [yg k24]
    exact ⟨⟨fun h=>(by cases h),fun _=>zb0 (by unfold za8 zcg;rw [yh k0,yg k24,yh (by rw [hw];decide),yg (by omega)]) (by decide)⟩,fun h=>by cases h⟩
   ·rw [yh k24]
    by_cases k35:t.kind=3\/t.kind=5
    ·rw [yg k35]
     exact ⟨⟨fun h=>(by cases h),fun _=>zb0 (close_err hw hn3 k35) (by decide)⟩,fun h=>by cases h⟩
    ·rw [yh k35]
     have hk:t.kind=1\/t.kind=6:=by have:=ht.1;have:=ht.2.1;omega
     have hs:=(sing_ans (bs:=bs) (yq:=yq) (tto:=tto) hw hk).2 (by omega)
     by_cases he:(zbK bs yq t tto).2.2≠0
     ·rw [yg he] at hs |-
      exact ⟨⟨fun h=>absurd h he,fun _=>hs⟩,fun h=>absurd h he⟩
     ·rw [yh he] at hs |-
      exact ⟨⟨fun h=>(by cases h),fun _=>hs⟩,fun h=>by cases h⟩
 | d+1=>fun st t tto hd hw hn3 ht h h2=>by
  unfold vlD
  by_cases k0:t.kind=0
  ·rw [yg k0]
   exact ⟨⟨fun h=>(by cases h),fun _=>zb0 (by unfold za8;rw [yg k0]) (by decide)⟩,fun h=>by cases h⟩
  ·rw [yh k0]
   have hbeg:∀q:Bool,zcg st q=({ dict:=q,l:=[] }::st,0):=fun q=>by
    unfold zcg
    rw [yh (by rw [hw];decide),yh (by omega)]
   by_cases k2:t.kind=2
   ·rw [yg k2]
    have hst:za8 bs yq st tto t=(none,{ dict:=false,l:=[] }::st,tto,0):=by
     unfold za8
     have hk:(t.kind==4)=false:=by rw [yf];omega
     rw [yh k0,yg (.inl k2),hk,hbeg]
    obtain ⟨r1,r2⟩:=arr_ans (val_ans (bs:=bs) (yq:=yq) d) st (by omega) (bs.length+1) [] tto h h2 (by omega)
    exact ⟨⟨fun h V hV=>by obtain ⟨g,hg⟩:=r1.1 h V hV;exact ⟨g,by rw [zeU hst];exact hg⟩,fun h=>by obtain ⟨g,hg⟩:=r1.2 h;exact ⟨g,by rw [zeU hst];exact hg⟩⟩,fun h=>⟨k0,r2 h⟩⟩
   ·rw [yh k2]
    by_cases k4:t.kind=4
    ·rw [yg k4]
     have hst:za8 bs yq st tto t=(none,{ dict:=true,l:=[] }::st,tto,0):=by
      unfold za8
      have hk:(t.kind==4)=true:=by rw [beq_iff_eq];exact k4
      rw [yh k0,yg (.inr k4),hk,hbeg]
     obtain ⟨r1,r2⟩:=dict_ans (val_ans (bs:=bs) (yq:=yq) d) st (by omega) (bs.length+1) [] tto rfl h h2 (by omega)
     exact ⟨⟨fun h V hV=>by obtain ⟨g,hg⟩:=r1.1 h V hV;exact ⟨g,by rw [zeU hst];exact hg⟩,fun h=>by obtain ⟨g,hg⟩:=r1.2 h;exact ⟨g,by rw [zeU hst];exact hg⟩⟩,fun h=>⟨k0,r2 h⟩⟩
    ·rw [yh k4]
     by_cases k35:t.kind=3\/t.kind=5
     ·rw [yg k35]
      exact ⟨⟨fun h=>(by cases h),fun _=>zb0 (close_err hw hn3 k35) (by decide)⟩,fun h=>by cases h⟩
     ·rw [yh k35]
      have hk:t.kind=1\/t.kind=6:=by have:=ht.1;have:=ht.2.1;omega
      exact ⟨(sing_ans (bs:=bs) (yq:=yq) (tto:=tto) hw hk).1 (by omega),fun he=>⟨k0,singD_at h h2 he⟩⟩
def ErrS (R:PV×Int×Int):Prop:=R.2.2≠0->R=(PV.none,0,R.2.2)
theorem zgi (bs:List UInt8) (yq:Bool) (t:Tk) (tto:Int):ErrS (zbK bs yq t tto):=by
 unfold zbK ErrS
 split
 ·split
  ·exact fun _=>rfl
  ·exact fun h=>absurd rfl h
 ·split
  ·split
   ·exact fun _=>rfl
   ·split
    ·exact fun h=>absurd rfl h
    ·exact fun h=>absurd rfl h
  ·exact fun h=>absurd rfl h
theorem arr_shape (bs:List UInt8) (yq:Bool) (f:Tk->Int->PV×Int×Int):∀r l k,ErrS (arrD bs yq f r l k)
 | 0,_,_=>fun _=>rfl
 | r+1,l,k=>by
  unfold ErrS
  simp only [arrD]
  split
  ·exact fun _=>rfl
  ·split
   ·exact fun h=>absurd rfl h
   ·split
    ·exact fun _=>rfl
    ·exact arr_shape bs yq f r _ _
theorem zgd (bs:List UInt8) (yq:Bool) (f:Tk->Int->PV×Int×Int) (d:Nat):∀r ps tw k,ErrS (zd3 bs yq f d r ps tw k)
 | 0,_,_,_=>fun _=>rfl
 | r+1,ps,tw,k=>by
  unfold ErrS
  simp only [zd3]
  split
  ·exact fun _=>rfl
  ·split
   ·split
    ·exact fun _=>rfl
    ·exact fun h=>absurd rfl h
   ·split
    ·exact fun _=>rfl
    ·split
     ·exact fun _=>rfl
     ·split
      ·exact fun _=>rfl
      ·split
       ·exact fun _=>rfl
       ·split
        ·exact fun _=>rfl
        ·exact zgd bs yq f d r _ _ _
theorem vl_shape (bs:List UInt8) (yq:Bool) (d:Nat) (t:Tk) (tto:Int):ErrS (vlD bs yq d t tto):=by
 cases d with
 | zero =>
  unfold ErrS vlD
  split
  ·exact fun _=>rfl
  ·split
   ·exact fun _=>rfl
   ·split
    ·exact fun _=>rfl
    ·split
     ·exact fun _=>rfl
     ·exact fun _=>rfl
 | succ d =>
  unfold vlD
  split
  ·exact fun _=>rfl
  ·split
   ·exact arr_shape _ _ _ _ _ _
   ·split
    ·exact zgd _ _ _ _ _ _ _ _
    ·split
     ·exact fun _=>rfl
     ·exact zgi _ _ _ _
theorem wholeD_is {bs:List UInt8} {k:Int} (h:0<=k) (h2:k<=bs.length):∃g,valO bs yq g [] k=some (zbB bs yq k):=by
 obtain ⟨g1,g2⟩:=za1 yq h h2
 have hok:=zd0 yq h h2
 unfold zbB
 by_cases he:(zal bs k yq).2.2.2≠0
 ·rw [yg he]
  exact ⟨1,by rw [zeA,yg he]⟩
 ·rw [yh he]
  obtain ⟨⟨a1,a2⟩,-⟩:=val_ans (bs:=bs) (yq:=yq) 64 [] (zal bs k yq).1 (zal bs k yq).2.2.1 rfl rfl (fun _ v rest hv=>by cases hv) hok (by omega) g2
  by_cases hv:(vlD bs yq 64 (zal bs k yq).1 (zal bs k yq).2.2.1).2.2=0
  ·obtain ⟨g,hg⟩:=a1 hv (vlD bs yq 64 (zal bs k yq).1 (zal bs k yq).2.2.1) ⟨0,by
    show some (_,_,(0:Int))=some _
    rw [<-hv]⟩
   exact ⟨g+1,by rw [zeA,yh he];exact hg⟩
  ·obtain ⟨g,hg⟩:=a2 hv
   refine ⟨g+1,?_⟩
   rw [zeA,yh he,hg]
   exact congrArg some (vl_shape bs yq 64 _ _ hv).symm
theorem zfF {bs:List UInt8} {yq:Bool}:∀(g:Nat) (st:List Lv) (k:Int) (V:PV×Int×Int),valO bs yq g st k=some V->valO bs yq (g+1) st k=some V
 | 0,_,_,_,h=>by cases h
 | g+1,st,k,V,h=>by
  rw [zeA] at h |-
  by_cases he:(zal bs k yq).2.2.2≠0
  ·rw [yg he] at h |-;exact h
  ·rw [yh he] at h |-
   unfold aftO at h |-
   by_cases hs:(za8 bs yq st (zal bs k yq).2.2.1 (zal bs k yq).1).2.2.2≠0
   ·rw [yg hs] at h |-;exact h
   ·rw [yh hs] at h |-
    generalize za8 bs yq st (zal bs k yq).2.2.1 (zal bs k yq).1=Z at *
    obtain ⟨v,st2,at2,e2⟩:=Z
    cases v with
    | none=>exact zfF g st2 at2 V h
    | some x =>
     cases st2 with
     | nil=>exact h
     | cons top rest=>exact zfF g _ at2 V h
theorem zfl {bs:List UInt8} {yq:Bool} {g:Nat} {st:List Lv} {k:Int} {V:PV×Int×Int} (h:valO bs yq g st k=some V):∀j,valO bs yq (g+j) st k=some V
 | 0=>h
 | j+1=>zfF _ _ _ _ (zfl h j)
theorem valO_one {bs:List UInt8} {g2:Nat} {st:List Lv} {k:Int} {V V2:PV×Int×Int} (h:valO bs yq g st k=some V) (h2:valO bs yq g2 st k=some V2):V=V2:=by
 have a1:=zfl h g2
 have a2:=zfl h2 g
 rw [Nat.add_comm] at a2
 rw [a1] at a2
 exact Option.some.inj a2
theorem parse_doc {bs:List UInt8} {k:Int} (h:0<=k) (h2:k<=bs.length):valO bs yq (bs.length+2) [] k=some (zbB bs yq k):=by
 obtain ⟨V,hV⟩:=zfq bs yq (bs.length+2) [] k h h2 (by omega)
 obtain ⟨g,hg⟩:=wholeD_is (yq:=yq) h h2
 rw [hV,valO_one hV hg]
structure Ent where
 at_:Int:=0
 gen:Int:=0
 used:Bool:=false
 deriving DecidableEq,Inhabited
structure Grp where
 first:Int
 es:List Ent
 deriving DecidableEq,Inhabited
structure Sec where
 gs:List Grp
 tr:PV
def Sec.none:Sec:=⟨[],PV.none⟩
theorem zdm (l:List UInt8):0<=(zaC l).1/\(zaC l).1<=2147483647:=by
 unfold zaC
 split
 ·exact ⟨by decide,by decide⟩
 ·split
  ·exact ⟨by decide,by decide⟩
  ·exact ⟨by show (0:Int)<=(valD l:Nat);omega,by show ((valD l:Nat):Int)<=2147483647;omega⟩
def zcY (bs:List UInt8) (k:Nat):Nat:=k+((bs.drop k).takeWhile isSp).length
def entS (s:List UInt8):Option Ent :=
 if (zaC (s.take 10)).2≠0\/(zaC ((s.drop 11).take 5)).2≠0\/65535<(zaC ((s.drop 11).take 5)).1\/s.getD 10 0≠32\/s.getD 16 0≠32\/(s.getD 17 0≠110/\s.getD 17 0≠102) \/
  (s.getD 18 0≠32/\s.getD 18 0≠10/\s.getD 18 0≠13) then none
 else some { at_:=(zaC (s.take 10)).1,gen:=(zaC ((s.drop 11).take 5)).1,used:=s.getD 17 0==110 }
def entV (bs:List UInt8) (yq:Bool) (k:Nat):Ent×Nat×Int :=
 if bs.length<zcY bs k+19 then ({},0,za5 yq)
 else match entS ((bs.drop (zcY bs k)).take 19) with
  | none=>({},0,20)
  | some x=>(x,zcY bs k+19,0)
def zb5 (bs:List UInt8) (yq:Bool):Nat->Nat->List Ent->List Ent×Nat×Int
 | 0,k,l=>(l,k,0)
 | n+1,k,l=>if (entV bs yq k).2.2≠0 then ([],0,(entV bs yq k).2.2) else zb5 bs yq n (entV bs yq k).2.1 (l++[(entV bs yq k).1])
def nxtV (bs:List UInt8) (yq:Bool) (k:Int):Tk×Int×Int×Int :=
 if (zal bs k yq).2.2.2=0/\(zal bs k yq).1.kind=0 then ((zal bs k yq).1,(zal bs k yq).2.1,(zal bs k yq).2.2.1,10) else zal bs k yq
def zdb (f n:Int):Bool:=decide (0<=f)&&decide (f<=4097)&&decide (0<=n)&&decide (n<=4097-f)
def zdZ (t:Tk):Bool:=t.kind==6&&t.s==[116,114,97,105,108,101,114]
def zdM (t:Tk):Bool:=t.kind==6&&t.s==[120,114,101,102]
def zbF (bs:List UInt8) (yq:Bool):Nat->List Grp->Int->List Grp×Int×Int
 | 0,_,_=>([],0,20)
 | g+1,gs,k =>
  let t:=nxtV bs yq k
  if t.2.2.2≠0 then ([],0,t.2.2.2)
  else if zdZ t.1=true then (gs,t.2.2.1,0)
  else if zaH t.1=false then ([],0,20)
  else
   let u:=nxtV bs yq t.2.2.1
   if u.2.2.2≠0 then ([],0,u.2.2.2)
   else if zaH u.1=false\/gs.length=64\/zdb t.1.vn u.1.vn=false then ([],0,20)
   else
    let q:=zb5 bs yq u.1.vn.toNat u.2.2.1.toNat []
    if q.2.2≠0 then ([],0,q.2.2) else zbF bs yq g (gs++[⟨t.1.vn,q.1⟩]) (q.2.1:Int)
def oneX (p:Tk->Bool) (V:Tk×Int×Int×Int):Int×Int :=
 if V.2.2.2≠0 then (0,V.2.2.2) else if V.1.kind=0 then (0,10) else if p V.1=false then (0,11) else (V.2.2.1,0)
def secV (bs:List UInt8) (yq:Bool) (k:Int):Sec×Int×Int :=
 let o:=oneX zdM (zal bs k yq)
 if o.2≠0 then (Sec.none,0,o.2)
 else
  let g:=zbF bs yq 65 [] o.1
  if g.2.2≠0 then (Sec.none,0,g.2.2)
  else
   let v:=zbB bs yq g.2.1
   if v.2.2≠0 then (Sec.none,0,v.2.2) else if v.1.kind≠7 then (Sec.none,0,20) else (⟨g.1,v.1⟩,v.2.1,0)
def zca:List Grp->Int->Option Ent
 | [],_=>none
 | g::gs,n=>if g.first<=n/\n-g.first<(g.es.length:Int) then some (g.es.getD (n-g.first).toNat {}) else zca gs n
def findP (o:Option Ent):Ent×Bool:=match o with|none=>({},false)|some e=>(e,true)
def fN (key:List UInt8):List PV->Option Nat
 | []=>none
 | [x]=>if x.kind=5/\x.s=key then some 0 else none
 | x::_::l=>if x.kind=5/\x.s=key then some 0 else (fN key l).map (· + 2)
def zeo (v:PV) (key:List UInt8):Option Nat:=if v.kind=7 then fN key v.l else none
def getV (v:PV) (key:List UInt8):Option PV:=(zeo v key).map fun k=>v.l.getD (k+1) PV.none
def getP (o:Option PV):PV×Bool:=match o with|none=>(PV.none,false)|some v=>(v,true)
def kPrev:List UInt8:=[80,114,101,118]
def zdB:List UInt8:=[83,105,122,101]
def kRoot:List UInt8:=[82,111,111,116]
def zbv:List UInt8:=[115,116,97,114,116,120,114,101,102]
def zaU (kn:List Bool) (a:Nat):Nat:=a+((kn.drop a).takeWhile id).length
theorem zdf {kn:List Bool} {a:Nat} (h:a<=kn.length):a<=zaU kn a/\zaU kn a<=kn.length:=by
 unfold zaU
 have h1:((kn.drop a).takeWhile id).length<=(kn.drop a).length:=(List.takeWhile_sublist _).length_le
 rw [ym] at h1
 omega
def zdt (w b:List UInt8):Nat->Option Nat
 | 0=>if (b.drop 0).take w.length=w then some 0 else none
 | k+1=>if (b.drop (k+1)).take w.length=w then some (k+1) else zdt w b k
def zcN (w b:List UInt8):Option Nat:=if b.length<w.length then none else zdt w b (b.length-w.length)
def zbj (bs:List UInt8) (kn:List Bool):Int×Int×Int :=
 if zaU kn (bs.length-64)<bs.length then (0,(zaU kn (bs.length-64):Int),6)
 else match zcN zbv (bs.drop (bs.length-64)) with
  | none=>(0,0,22)
  | some k =>
   let V:=zal (bs.drop (bs.length-64)) ((k:Int)+9) true
   if V.2.2.2≠0\/zaH V.1=false\/V.1.vn<0\/(bs.length:Int)<=V.1.vn then (0,0,22) else (V.1.vn,0,0)
def zc8 (bs:List UInt8) (kn:List Bool) (a:Nat):Sec×Int×Int:=secV ((bs.drop a).take (zaU kn a-a)) (zaU kn a==bs.length) 0
def zcf (bs:List UInt8) (kn:List Bool):Nat->List Int->List Sec->Int->List Sec×Int×Int
 | 0,_,_,_=>([],0,21)
 | g+1,rd,l,a =>
  if a<0\/(bs.length:Int)<=a then ([],0,20)
  else if a∈rd\/32<=l.length then ([],0,21)
  else
   let s:=zc8 bs kn a.toNat
   if s.2.2=6 then ([],(zaU kn a.toNat:Int),6)
   else if s.2.2≠0 then ([],0,20)
   else match getV s.1.tr kPrev with
    | none=>(l++[s.1],0,0)
    | some v=>if v.kind≠2 then ([],0,20) else zcf bs kn g (rd++[a]) (l++[s.1]) v.n
def zbL:List Sec->Int->Int
 | [],_=>-1
 | s::l,n=>match zca s.gs n with
  | none=>zbL l n
  | some e=>if e.used=true/\e.gen=0 then e.at_ else -1
structure Tab where
 ps:List Int:=[]
 root:Int:=0
def tabV (l:List Sec):Tab×Int :=
 match l with
 | []=>({},20)
 | s::_ =>
  let size:=(getP (getV s.tr zdB)).1
  let root:=(getP (getV s.tr kRoot)).1
  if size.kind≠2\/size.n<1\/4097<size.n then ({},20)
  else if root.kind≠8 then ({},23)
  else (⟨(List.range (size.n.toNat-1)).map fun (i:Nat)=>zbL l ((i:Int)+1),root.n⟩,0)
def loadV (bs:List UInt8) (kn:List Bool):Tab×Int×Int :=
 if (zbj bs kn).2.2≠0 then ({},(zbj bs kn).2.1,(zbj bs kn).2.2)
 else
  let q:=zcf bs kn 33 [] [] (zbj bs kn).1
  if q.2.2≠0 then ({},q.2.1,q.2.2) else ((tabV q.1).1,0,(tabV q.1).2)
def tabF (t:Tab) (n:Int):Int×Bool:=if n<1\/(t.ps.length:Int)<n\/t.ps.getD (n-1).toNat 0<0 then (0,false) else (t.ps.getD (n-1).toNat 0,true)
end Go.Proofs.YtfafdeemfeaedaaGreat
namespace Go.Proofs.YtfafdeemfeaedaaGreat
open Go.RowKit
def Row (w:World) (sz:Nat) (a:Option Addr) (n cap:Nat) (xs:List Value):Prop :=
 xs.length=n*sz/\n<=cap/\cap<=maxLen/\(a=none->cap=0) /\
  (0<n->∃b off,a=some ⟨b,off,none⟩/\b<w.heap.size/\∀j u,xs[j]?=some u->w.cell? ⟨b,off+j,none⟩=some u)
theorem cell?_keep {w:World} (hb:Below w.heap.size w w') {a:Addr} {v:Value} (h:w.cell? a=some v):w'.cell? a=some v :=
 (hb.cell (World.block_lt_of_cell? w a h)).trans h
theorem Row.mono {w:World} {sz:Nat} {a:Option Addr} {n cap:Nat} (h:Row w sz a n cap xs) (hb:Below w.heap.size w w'):Row w' sz a n cap xs:=by
 obtain ⟨h1,h2,h3,h4,h5⟩:=h
 refine ⟨h1,h2,h3,h4,fun hn=>?_⟩
 obtain ⟨b,off,ha,hlt,hc⟩:=h5 hn
 exact ⟨b,off,ha,Nat.lt_of_lt_of_le hlt hb.size,fun j u hj=>cell?_keep hb (hc j u hj)⟩
theorem Row.i64 {w:World} {sz:Nat} {a:Option Addr} {n cap:Nat} (h:Row w sz a n cap xs):(n:Int)<=9223372036854775807:=by
 have:=h.2.1;have:=h.2.2.1;unfold maxLen at this;omega
theorem Row.i64c {w:World} {sz:Nat} {a:Option Addr} {n cap:Nat} (h:Row w sz a n cap xs):(cap:Int)<=9223372036854775807:=by
 have:=h.2.2.1;unfold maxLen at this;omega
theorem Row.at {α:Type} {enc:α->Value} (d:α) {w:World} {a:Option Addr} {n cap:Nat} {l:List α} (h:Row w 1 a n cap (l.map enc)) (k:Nat) (hk:k<n) :
  ∃b off,a=some ⟨b,off,none⟩/\b<w.heap.size/\∀k,k<n->w.cell? ⟨b,off+k,none⟩=some (enc (l.getD k d)):=by
 obtain ⟨h1,h2,h3,h4,h5⟩:=h
 obtain ⟨b,off,rfl,hb,hc⟩:=h5 (by omega)
 refine ⟨b,off,rfl,hb,fun k hk=>hc k _ ?_⟩
 simp at h1 |-
 have:k<l.length:=by omega
 simp [this]
theorem Row.len1 {α:Type} {enc:α->Value} {w:World} {a:Option Addr} {n cap:Nat} {l:List α} (h:Row w 1 a n cap (l.map enc)):l.length=n:=by
 have:=h.1;simpa using this
theorem Row.nil (w:World) (sz:Nat):Row w sz none 0 0 []:=⟨by simp,yp _,by simp [maxLen],fun _=>rfl,fun h=>by omega⟩
theorem Row.of_owns {w:World} {base sz:Nat} {v:Value} {n:Nat} (h:w.ownsRow base e sz v n xs) :
  ∃a cap,v=.slice a n cap/\Row w sz a n cap xs/\∀x,a=some x->base<=x.block:=by
 obtain ⟨h1,h2⟩:=h
 rcases h2 with ⟨rfl,rfl⟩|⟨g,cap,cur,rfl,hb,hg,hn,hm,hs,ht⟩
 ·have:xs=[]:=List.eq_nil_of_length_eq_zero (by simpa using h1)
  subst this
  exact ⟨none,0,rfl,Row.nil w sz,fun x hx=>by cases hx⟩
 ·refine ⟨some ⟨g,0,none⟩,cap,rfl,⟨h1,hn,hm,fun h=>(by cases h),fun _=>⟨g,0,rfl,(Array.getElem?_eq_some_iff.1 hg).1,fun j u hj=>?_⟩⟩,fun x hx=>by cases hx;exact hb⟩
  rw [Nat.zero_add,cell_of_row w g j cur e (0,0) hg]
  rw [<-ht,List.getElem?_take] at hj
  split at hj
  ·simpa using hj
  ·cases hj
theorem Row.of_own {w:World} {base sz:Nat} {a:Option Addr} {n cap:Nat} (h:w.ownsRow base e sz (.slice a n cap) m xs):n=m/\Row w sz a n cap xs:=by
 obtain ⟨a',cap',hv,hr,_⟩:=Row.of_owns h
 simp only [Value.slice.injEq] at hv
 obtain ⟨rfl,rfl,rfl⟩:=hv
 exact ⟨rfl,hr⟩
theorem zaO {w:World} {base sz:Nat} {v:Value} {n:Nat} (h:w.ownsRow base e sz v n xs) (hb:Below w.heap.size w w'):w'.ownsRow base e sz v n xs:=by
 obtain ⟨h1,h2⟩:=h
 refine ⟨h1,?_⟩
 rcases h2 with h2|⟨g,cap,cur,hv,hg,hh,r⟩
 ·exact .inl h2
 ·exact .inr ⟨g,cap,cur,hv,hg,by rw [hb.block g (Array.getElem?_eq_some_iff.1 hh).1];exact hh,r⟩
theorem zbf {w:World} {base base' sz:Nat} {v:Value} {n:Nat} (h:w.ownsRow base e sz v n xs) (hb:base'<=base):w.ownsRow base' e sz v n xs:=by
 obtain ⟨h1,h2⟩:=h
 refine ⟨h1,?_⟩
 rcases h2 with h2|⟨g,cap,cur,hv,hg,r⟩
 ·exact .inl h2
 ·exact .inr ⟨g,cap,cur,hv,by omega,r⟩
theorem zab {w:World} (hb:Below w.heap.size w w') {b:Nat} {o:Obj} (h:w.heap[b]?=some o):w'.heap[b]?=some o:=by
 rw [hb.block b (Array.getElem?_eq_some_iff.1 h).1];exact h
structure zc9 (P:Program) (t e:TypeId) (z:Value) (size bytes:Nat):Prop where
 und:P.underlying t=some (.slice e)
 info:(P.info? e).map (fun i=>(i.zero,i.size,i.bytes))=some (some z,size,bytes)
 cells:z.cells.size=size
 pos:0<size
theorem zaR {k:IntKind} {a b:Int} (h:a=b):Ending.returned (.int k a)=.returned (.int k b):=by rw [h]
theorem zbg {a b:Bool} (h:a=b):Ending.returned (.bool a)=.returned (.bool b):=by rw [h]
theorem make_full {P:Program} {w:World} {ops:Array Oper} {rest:List Oper} {o:Oper} {a:Act} {Q:Exit->Act->World->Prop} {e:TypeId} {size bytes:Nat} (T:zc9 P t e z size bytes)
  (hg:o.guard=none) (l c:Operand) (hop:o.op=Op.makeSlice t l c)
  (kl kc:IntKind) (L C:Int) (n:Nat) (hl:a.eval l=.int kl L) (hc:a.eval c=.int kc C) (hL:L=(n:Int)) (hC:C=(n:Int)) (b2:bytes*n<=281474976710656) (b3:n<=maxLen)
  (hK:∀w',w'.ownsRow w.heap.size e size (.slice (some ⟨w.heap.size,0,none⟩) n n) n (madeCells z.cells (n*size)).toList->Below w.heap.size w w'->wpList P ops Q rest (a.put o.dst (.slice (some ⟨w.heap.size,0,none⟩) n n)) w') :
  wpList P ops Q (o::rest) a w:=by
 obtain ⟨i,hi,hz,hs,hb⟩:=info_parts T.info
 subst hb
 exact wpList_make_full w hg l c t hop w.heap.size e i z size T.und hi hz hs kl kc L C n hl hc hL hC b2 b3 (yp _)
  fun w' h1 h2=>hK w' h1 ((Below.refl _ _).grown h2 (yp _) (fun k hk=>by cases hk))
def fl (n:Nat) (enc:Nat->Value):List Value:=(List.range n).map enc
theorem zb9 (n:Nat) (enc:Nat->Value):(fl n enc).length=n:=by simp [fl]
theorem zfe {n:Nat} (enc:Nat->Value) (h:i<n):(fl n enc)[i]?=some (enc i):=by simp [fl,h]
theorem fl_set (n:Nat) (enc:Nat->Value) (i:Nat) (v:Value):(fl n enc).set i v=fl n (fun j=>if j=i then v else enc j):=by
 apply List.ext_getElem?
 intro j
 simp only [fl,List.getElem?_set,List.getElem?_map,List.length_map,List.length_range]
 by_cases hj:j<n
 ·by_cases hi:i=j
  ·subst hi;simp [hj]
  ·simp [hi,hj,Ne.symm hi]
 ·by_cases hi:i=j
  ·subst hi;simp [hj]
  ·simp [hi,hj]
theorem zdG {n:Nat} {f g:Nat->Value} (h:∀i,i<n->f i=g i):fl n f=fl n g:=by
 apply List.map_congr_left
 intro i hi
 exact h i (by simpa using hi)
theorem zeK (n:Nat) (v:Value):List.replicate n v=fl n (fun _=>v):=by
 apply List.ext_getElem?
 intro j
 by_cases hj:j<n<;>simp [fl,hj]
theorem zac {w:World} {b:Nat} (o:Obj) (h:b=w.heap.size):(w.alloc o).heap[b]?=some o:=by subst h;exact heap_alloc_new w o
theorem zak {w:World} {b:Nat} (o:Obj) {o':Obj} (h:w.heap[b]?=some o'):(w.alloc o).heap[b]?=some o':=by
 rw [Below.heap_alloc w o b (Array.getElem?_eq_some_iff.1 h).1];exact h
theorem zan (w:World) (o:Obj):(w.alloc o).heap.size=w.heap.size+1:=by
 show (w.heap.push o).size=_
 simp
theorem zam (w:World) (o:Obj):Below w.heap.size w (w.alloc o):=(Below.refl _ _).alloc (yp _) o
theorem zbm (w:World) (o o2:Obj):Below w.heap.size w ((w.alloc o).alloc o2):=(zam w o).alloc (by rw [zan];omega) o2
theorem ze7 (w:World) (o o2 o3:Obj):Below w.heap.size w (((w.alloc o).alloc o2).alloc o3):=(zbm w o o2).alloc (by rw [zan,zan];omega) o3
theorem zav {P:Program} {w:World} {ops:Array Oper} {rest:List Oper} {o:Oper} {a:Act} {Q:Exit->Act->World->Prop} {e:TypeId} {size bytes:Nat} (T:zc9 P t e z size bytes)
  (hgd:o.guard=none) (s x:Operand) (ho:o.op=.call { callee:=.builtin .append,args:=#[s,x],argTypes:=#[t,t] })
  (base:Nat) (v:Value) (n:Nat) (xs:List Value) (hs:a.eval s=v) (hown:w.ownsRow base e size v n xs)
  (ao:Option Addr) (m c:Nat) (news:List Value) (hx:a.eval x=.slice ao m c) (hr:Row w size ao m c news) (h1:∀u∈news,u.oneCell'=true)
  (h63:n+m<=maxLen) (hbytes:(n+m)*bytes<=140737488355328) (hbase:base<=w.heap.size)
  (h:∀v' w',w'.ownsRow base e size v' (n+m) (xs++news)->w.grownBy w' v.ownBlock->(v'=.slice none 0 0↔v=.slice none 0 0/\m=0)->wpList P ops Q rest (a.put o.dst v') w'):wpList P ops Q (o::rest) a w:=by
 obtain ⟨i,hi,hz,hs',hb⟩:=info_parts T.info
 subst hb
 obtain ⟨r1,r2,r3,r4,r5⟩:=hr
 cases ao with
 | some ad =>
  refine wpList_append_own w hgd s x t ho base e i z size i.bytes T.und hi hz hs' rfl T.cells T.pos v n xs hs hown ad m c news hx r1 (fun j u hj=>?_) h1 h63 hbytes hbase h
  by_cases hm:0<m
  ·obtain ⟨b,off,hab,_,hc⟩:=r5 hm
   obtain rfl:=Option.some.inj hab
   rw [Addr.add_lit];exact hc j u hj
  ·obtain rfl:m=0:=by omega
   have:news=[]:=List.eq_nil_of_length_eq_zero (by simpa using r1)
   subst this;simp at hj
 | none =>
  obtain rfl:=r4 rfl
  obtain rfl:m=0:=by omega
  have:news=[]:=List.eq_nil_of_length_eq_zero (by simpa using r1)
  subst this
  refine wpList_plain hgd fun K hK=>?_
  have hrun:=run_append_owned_none (P:=P) w base t o.type e i size T.und hi v n xs hown
  unfold Oper.wp
  simp [execOp,ho,resolve,invoke,builtin,hs,hx,hrun,Result.andThen]
  exact hK _ _ (h v w (by simpa using hown) ⟨rfl,rfl,rfl,yp _,fun _ _ _=>rfl⟩ (by simp))
def NN (a:Option Addr) (v:Value):Prop:=a≠none->v≠.slice none 0 0
theorem below_grown {w:World} {row:Option Nat} (h:Below B w0 w) (hg:w.grownBy w' row) (hB:B<=w.heap.size) (hr:∀k,row=some k->B<=k):Below B w0 w':=h.grown hg hB hr
theorem zbq (w:World) (x:Value) (e:TypeId):Row (w.alloc (.cells #[x] e)) 1 (some ⟨w.heap.size,0,none⟩) 1 1 [x] :=
 ⟨rfl,yp _,by simp [maxLen],fun h=>(by cases h),fun _=>⟨w.heap.size,0,rfl,by rw [zan];omega,fun j u hj=>by
  rw [cell_of_row _ _ _ _ _ _ (zac _ rfl)]
  rcases j with _|j
  ·simpa using hj
  ·simp at hj⟩⟩
theorem zbO {x:Value} (h:x.oneCell'=true):∀u∈[x],u.oneCell'=true:=by
 intro u hu;simp at hu;subst hu;exact h
theorem below_cell {w:World} (h:Below B w w') {b o:Nat} {v:Value} (hb:b<B) (hc:w.cell? ⟨b,o,none⟩=some v):w'.cell? ⟨b,o,none⟩=some v:=(h.cell (p:=⟨b,o,none⟩) hb).trans hc
theorem Row.below {w:World} {sz:Nat} {a:Option Addr} {n cap:Nat} (h:Row w sz a n cap xs) (hb:Below B w w') (ha:∀x,a=some x->x.block<B):Row w' sz a n cap xs:=by
 obtain ⟨h1,h2,h3,h4,h5⟩:=h
 refine ⟨h1,h2,h3,h4,fun hn=>?_⟩
 obtain ⟨b,off,ha',hlt,hc⟩:=h5 hn
 exact ⟨b,off,ha',Nat.lt_of_lt_of_le hlt hb.size,fun j u hj=>below_cell hb (ha _ ha') (hc j u hj)⟩
theorem Row.lt {w:World} {sz:Nat} {a:Option Addr} {n cap:Nat} (h:Row w sz a n cap xs) (hn:0<n):∀x,a=some x->x.block<w.heap.size:=by
 obtain ⟨b,off,ha,hlt,_⟩:=h.2.2.2.2 hn
 intro x hx
 rw [ha] at hx;cases hx;exact hlt
theorem zf8 {w:World} {row:Option Nat} (hg:w.grownBy w' row) (hB:B<=w.heap.size) (hr:∀k,row=some k->B<=k):Below B w w' :=
 (Below.refl B w).grown hg hB hr
def NewAt (w:World) (v v':Value):Prop:=∀b,v'.ownBlock=some b->v.ownBlock=some b\/w.heap.size<=b
theorem zgO {P:Program} (w:World) (base:Nat) (t ty e:TypeId) (i:TypeInfo) (z:Value) (size bytes:Nat) (ht:P.underlying t=some (.slice e)) (hi:P.info? e=some i) (hz:i.zero=some z)
  (hsize:i.size=size) (hby:i.bytes=bytes) (hzs:z.cells.size=size) (hsz:0<size)
  (v:Value) (n:Nat) (xs:List Value) (hown:w.ownsRow base e size v n xs)
  (a:Addr) (m c:Nat) (news:List Value) (hl:news.length=m*size) (hnews:∀j u,news[j]?=some u->w.cell? (a.add j)=some u) (h1:∀u∈news,u.oneCell'=true)
  (h63:n+m<=maxLen) (hbytes:(n+m)*bytes<=140737488355328) (hbase:base<=w.heap.size) :
  ∃v' w',(Builtin.append_ #[t,t] ty #[v,.slice (some a) m c]).run P w=.ok v' w'/\w'.ownsRow base e size v' (n+m) (xs++news)/\w.grownBy w' v.ownBlock /\
   (v'=.slice none 0 0↔v=.slice none 0 0/\m=0)/\NewAt w v v':=by
 obtain ⟨v',w',hr,h2,h3,h4⟩:=run_append_own (P:=P) w base t ty e i z size bytes ht hi hz hsize hby hzs hsz v n xs hown a m c news hl hnews h1 h63 hbytes hbase
 refine ⟨v',w',hr,h2,h3,h4,?_⟩
 have hsmall:n+m<=9223372036854775807:=by simp only [maxLen] at h63;omega
 rcases hown.2 with ⟨rfl,hx⟩|⟨g,cap,cur,rfl,hbg,hg,hnc,hcm,hcs,htake⟩
 ·obtain ⟨v2,w2,hr2,g2,_,_⟩:=run_append_own (P:=P) w w.heap.size t ty e i z size bytes ht hi hz hsize hby hzs hsz _ n xs ⟨hown.1,.inl ⟨rfl,hx⟩⟩ a m c news hl hnews h1 h63 hbytes (yp _)
  rw [hr] at hr2
  simp only [Result.ok.injEq] at hr2
  obtain ⟨rfl,rfl⟩:=hr2
  exact fun b hb=>.inr (g2.lt b hb).1
 ·subst hsize hby
  by_cases hroom:n+m<=cap
  ·have hfit:n*i.size+news.length<=cur.size:=by rw [hl,hcs,<-Nat.add_mul];exact Nat.mul_le_mul_right _ hroom
   have hr2:=run_append_room (P:=P) w t ty e i ht hi g n cap cur hg a m c news hl hnews h1 hroom hfit
   rw [hr] at hr2
   simp only [Result.ok.injEq] at hr2
   obtain ⟨rfl,rfl⟩:=hr2
   exact fun b hb=>.inl hb
  ·have hr2:=run_append_grow (P:=P) w t ty e i z ht hi hz ⟨g,0,none⟩ n cap xs hown.1 (hown.cells (g:=g) rfl) a m c news hl hnews (by omega) (by omega) (growslice_fits (by omega) hbytes)
   rw [hr] at hr2
   simp only [Result.ok.injEq] at hr2
   obtain ⟨rfl,rfl⟩:=hr2
   intro b hb
   simp [Value.ownBlock] at hb
   right;omega
theorem zfu {P:Program} {w:World} {ops:Array Oper} {rest:List Oper} {o:Oper} {a:Act} {Q:Exit->Act->World->Prop} {e:TypeId} {size bytes:Nat} (T:zc9 P t e z size bytes)
  (hgd:o.guard=none) (s x:Operand) (ho:o.op=.call { callee:=.builtin .append,args:=#[s,x],argTypes:=#[t,t] })
  (base:Nat) (v:Value) (n:Nat) (xs:List Value) (hs:a.eval s=v) (hown:w.ownsRow base e size v n xs)
  (ao:Option Addr) (m c:Nat) (news:List Value) (hx:a.eval x=.slice ao m c) (hr:Row w size ao m c news) (h1:∀u∈news,u.oneCell'=true)
  (h63:n+m<=maxLen) (hbytes:(n+m)*bytes<=140737488355328) (hbase:base<=w.heap.size)
  (h:∀v' w',w'.ownsRow base e size v' (n+m) (xs++news)->w.grownBy w' v.ownBlock->NewAt w v v'->wpList P ops Q rest (a.put o.dst v') w'):wpList P ops Q (o::rest) a w:=by
 obtain ⟨i,hi,hz,hs',hb⟩:=info_parts T.info
 subst hb
 obtain ⟨r1,r2,r3,r4,r5⟩:=hr
 cases ao with
 | some ad =>
  refine wpList_plain hgd fun K hK=>?_
  obtain ⟨v',w',hrun,g2,g3,_,g5⟩:=zgO (P:=P) w base t o.type e i z size i.bytes T.und hi hz hs' rfl T.cells T.pos v n xs hown ad m c news r1 (fun j u hj=>by
   by_cases hm:0<m
   ·obtain ⟨b,off,hab,_,hc⟩:=r5 hm
    obtain rfl:=Option.some.inj hab
    rw [Addr.add_lit];exact hc j u hj
   ·obtain rfl:m=0:=by omega
    have:news=[]:=List.eq_nil_of_length_eq_zero (by simpa using r1)
    subst this;simp at hj) h1 h63 hbytes hbase
  unfold Oper.wp
  simp [execOp,ho,resolve,invoke,builtin,hs,hx,hrun,Result.andThen]
  exact hK _ _ (h v' w' g2 g3 g5)
 | none =>
  obtain rfl:=r4 rfl
  obtain rfl:m=0:=by omega
  have:news=[]:=List.eq_nil_of_length_eq_zero (by simpa using r1)
  subst this
  refine wpList_plain hgd fun K hK=>?_
  have hrun:=run_append_owned_none (P:=P) w base t o.type e i size T.und hi v n xs hown
  unfold Oper.wp
  simp [execOp,ho,resolve,invoke,builtin,hs,hx,hrun,Result.andThen]
  exact hK _ _ (h v w (by simpa using hown) ⟨rfl,rfl,rfl,yp _,fun _ _ _=>rfl⟩ (fun b hb=>.inl hb))
structure zaj (S:Nat->Prop) (w w':World):Prop where
 os:w'.os=w.os
 tape:w'.tape=w.tape
 output:w'.output=w.output
 size:w.heap.size<=w'.heap.size
 block:∀b,b<w.heap.size->¬S b->w'.heap[b]?=w.heap[b]?
theorem zaj.refl (S:Nat->Prop) (w:World):zaj S w w:=⟨rfl,rfl,rfl,yp _,fun _ _ _=>rfl⟩
theorem zaj.trans {S':Nat->Prop} {a b c:World} (h:zaj S a b) (k:zaj S' b c) (hS:∀x,S' x->S x\/a.heap.size<=x):zaj S a c :=
 ⟨k.os.trans h.os,k.tape.trans h.tape,k.output.trans h.output,Nat.le_trans h.size k.size,fun x hx hn=>(k.block x (Nat.lt_of_lt_of_le hx h.size) (fun e=>(hS x e).elim hn (fun h=>by omega))).trans (h.block x hx hn)⟩
theorem zaj.of_grown {w:World} {row:Option Nat} (h:w.grownBy w' row) (hr:∀k,row=some k->S k):zaj S w w' :=
 ⟨h.os,h.tape,h.output,h.size,fun b hb hn=>h.block b hb (fun e=>hn (hr b e.symm))⟩
theorem zaj.of_below {w:World} (h:Below B w w') (hS:∀b,B<=b->S b):zaj S w w' :=
 ⟨h.os,h.tape,h.output,h.size,fun b _ hn=>h.block b (Nat.lt_of_not_le fun e=>hn (hS b e))⟩
theorem zaj.below {w:World} (h:zaj S w w') (hB:B<=w.heap.size) (hS:∀b,S b->B<=b):Below B w w' :=
 ⟨h.os,h.tape,h.output,h.size,fun b hb=>h.block b (by omega) (fun e=>by have:=hS b e;omega)⟩
theorem zaj.cell {w:World} (h:zaj S w w') {b o:Nat} {v:Value} (hc:w.cell? ⟨b,o,none⟩=some v) (hn:¬S b):w'.cell? ⟨b,o,none⟩=some v:=by
 have hlt:b<w.heap.size:=World.block_lt_of_cell? w _ hc
 rw [World.cell?_of_block (w:=w) (a:=⟨b,o,none⟩) (h.block b hlt hn)];exact hc
theorem zaj.obj {w:World} (h:zaj S w w') {b:Nat} {o:Obj} (hc:w.heap[b]?=some o) (hn:¬S b):w'.heap[b]?=some o:=by
 rw [h.block b (Array.getElem?_eq_some_iff.1 hc).1 hn];exact hc
theorem Row.keeps {w:World} {sz:Nat} {a:Option Addr} {n cap:Nat} (h:Row w sz a n cap xs) (hk:zaj S w w') (hne:∀x,a=some x->¬S x.block):Row w' sz a n cap xs:=by
 obtain ⟨h1,h2,h3,h4,h5⟩:=h
 refine ⟨h1,h2,h3,h4,fun hn=>?_⟩
 obtain ⟨b,off,ha,hlt,hc⟩:=h5 hn
 exact ⟨b,off,ha,Nat.lt_of_lt_of_le hlt hk.size,fun j u hj=>hk.cell (hc j u hj) (hne _ ha)⟩
theorem owns_keeps {w:World} {base sz:Nat} {v:Value} {n:Nat} (h:w.ownsRow base e sz v n xs) (hk:zaj S w w') (hne:∀b,v.ownBlock=some b->¬S b):w'.ownsRow base e sz v n xs:=by
 obtain ⟨h1,h2⟩:=h
 refine ⟨h1,?_⟩
 rcases h2 with h2|⟨g,cap,cur,hv,hg,hh,r⟩
 ·exact .inl h2
 ·exact .inr ⟨g,cap,cur,hv,hg,hk.obj hh (hne g (by rw [hv];rfl)),r⟩
theorem zaj.weaken {S':Nat->Prop} {w:World} (h:zaj S w w') (hS:∀b,S b->S' b):zaj S' w w':=⟨h.os,h.tape,h.output,h.size,fun b hb hn=>h.block b hb (fun e=>hn (hS b e))⟩
theorem zaj.drewN {w:World} (h:zaj S w w') (q:Nat):zaj S w (w'.drewN q):=⟨h.os,h.tape,h.output,h.size,h.block⟩
theorem zaj.alloc {w:World} (h:zaj S w w') (o:Obj):zaj S w (w'.alloc o) :=
 ⟨h.os,h.tape,h.output,by rw [zan];have:=h.size;omega,fun b hb hn=>(Below.heap_alloc w' o b (Nat.lt_of_lt_of_le hb h.size)).trans (h.block b hb hn)⟩
theorem zaj.setCell {w:World} (h:zaj S w w') {a:Addr} (ha:S a.block\/w.heap.size<=a.block) (v:Value):zaj S w (w'.setCell a v) :=
 ⟨h.os,h.tape,h.output,by simpa [World.setCell] using h.size,fun b hb hn=>(heap_setCell_other w' a b v (fun e=>by rcases ha with h1|h1;exact hn (e▸h1);omega)).trans (h.block b hb hn)⟩
theorem zaj.grown {w:World} {row:Option Nat} (h:zaj S w w') (hg:w'.grownBy w2 row) (hr:∀k,row=some k->S k\/w.heap.size<=k):zaj S w w2 :=
 h.trans (zaj.of_grown (S:=fun k=>row=some k) hg fun _ hk=>hk) hr
end Go.Proofs.YtfafdeemfeaedaaGreat
