/-
  Our texts NumP to Base, in one.
-/
import Derived.Lib.Hide
import Derived.WalkKit
import Derived.WalkSpells
import Derived.WalkLawsBesides
set_option maxRecDepth 8000
set_option maxHeartbeats 8000000
namespace Go.Proofs.YtfafdeemfeaedaaGreat
theorem ya {p:Prop} (h:p):Go.RowKit.Hid p:=h
theorem yb {p:Prop} [inst:Decidable p] (h:p):decide p=true:=decide_eq_true h
theorem yd {p:Prop} [inst:Decidable p] (h:¬p):decide p=false:=decide_eq_false h
theorem ye {α:Type _} [BEq α] [LawfulBEq α] {a b:α}:(a==b)=false↔a≠b:=beq_eq_false_iff_ne
theorem yf {c:Prop} {h:Decidable c} (hc:c) {α:Sort _} {t e:α}:ite c t e=t:=if_pos hc
theorem yg {c:Prop} {h:Decidable c} (hc:¬c) {α:Sort _} {t e:α}:ite c t e=e:=if_neg hc
theorem yh {P:Program} {fn:Func} {R:Ending→World→Prop} {a:Act} {w:World} {v:Value} (hr:(results fn a.tmps).run P w=.ok v w) (hd:a.defers=[]) (hR:R (.returned v) w):bodyPost P fn R .ret a w:=bodyPost_ret hr hd hR
theorem yi:(!false)=true:=rfl
theorem yj {α:Type _} {i:Nat} {l:List α}:(l.drop i).length=l.length-i:=List.length_drop
theorem yl {w w1 w2:World} (h:Go.RowKit.Hid (Go.RowKit.Below w.heap.size w w1)) (h2:Go.RowKit.Below w1.heap.size w1 w2):Go.RowKit.Hid (Go.RowKit.Below w.heap.size w w2):=h.out.trans (h2.mono h.out.size)
theorem ym (n:Nat):n≤n:=Nat.le_refl n
end Go.Proofs.YtfafdeemfeaedaaGreat
namespace Go.Proofs.YtfafdeemfeaedaaGreat
theorem snoc_ind {α:Type} {p:List α->Prop} (h0:p []) (h1:∀l c,p l->p (l++[c])) (l:List α):p l:=by
 have h:∀r:List α,p r.reverse:=by
  intro r
  induction r with
  | nil=>exact h0
  | cons c r ih=>rw [List.reverse_cons];exact h1 _ _ ih
 have h2:=h l.reverse
 rwa [List.reverse_reverse] at h2
def isDg (c:UInt8):Bool:=decide (48<=c.toNat)&&decide (c.toNat<=57)
def dgV (c:UInt8):Nat:=c.toNat-48
def decV:List UInt8->Nat->Nat
 | [],n=>n
 | c::l,n=>decV l (10*n+dgV c)
def valD (l:List UInt8):Nat:=decV l 0
theorem zcj {c:UInt8}:isDg c=true↔48<=c.toNat/\c.toNat<=57:=by unfold isDg;simp
theorem isDg_no {c:UInt8}:isDg c=false↔c.toNat<48\/57<c.toNat:=by
 rw [<-Bool.not_eq_true,zcj];omega
theorem dgV_le {c:UInt8} (h:isDg c=true):dgV c<=9:=by rw [zcj] at h;unfold dgV;omega
theorem zgI {c:UInt8} (h:isDg c=true):(dgV c:Int)=(c.toNat:Int)-48:=by rw [zcj] at h;unfold dgV;omega
theorem zcT:∀(l m:List UInt8) (n:Nat),decV (l++m) n=decV m (decV l n)
 | [],_,_=>rfl
 | c::l,m,n=>zcT l m (10*n+dgV c)
theorem valD_nil:valD []=0:=rfl
theorem zbw (l:List UInt8) (c:UInt8):valD (l++[c])=10*valD l+dgV c:=by unfold valD;rw [zcT];rfl
theorem zcH (l:List UInt8):∀j,valD (l++List.replicate j 48)=valD l*10 ^ j
 | 0=>by simp
 | j+1=>by
  rw [List.replicate_succ',<-List.append_assoc,zbw,zcH l j,Nat.pow_succ,show dgV 48=0 from rfl]
  rw [Nat.add_zero,Nat.mul_comm (10 ^ j) 10,<-Nat.mul_assoc,<-Nat.mul_assoc,Nat.mul_comm (valD l) 10]
theorem zcI (l:List UInt8) (c:UInt8) (h:l.all isDg=true) (hc:isDg c=true):(l++[c]).all isDg=true:=by simp [hc];simpa using h
theorem valD_lt:∀(l:List UInt8),l.all isDg=true->valD l<10 ^ l.length:=by
 refine snoc_ind (fun _=>by decide) fun l c ih=>?_
 ·intro h
  rw [List.all_append,Bool.and_eq_true] at h
  have h1:=ih h.1
  have h2:=dgV_le (c:=c) (by simpa using h.2)
  rw [zbw,List.length_append,List.length_singleton,Nat.pow_succ]
  omega
def zaz (l:List UInt8):Int×Int:=if l=[]\/l.all isDg=false then (0,11) else if 2147483647<valD l then (0,5) else (((valD l:Nat):Int),0)
theorem digitsV_nil:zaz []=(0,11):=by simp [zaz]
theorem digitsV_form {l:List UInt8} (h:l.all isDg=false):zaz l=(0,11):=by unfold zaz;rw [yf (.inr h)]
theorem zdZ {l:List UInt8} (hn:l≠[]) (h:l.all isDg=true) (ho:2147483647<valD l):zaz l=(0,5):=by
 unfold zaz;rw [yg (by rw [h];simpa using hn),yf ho]
theorem zdv {l:List UInt8} (hn:l≠[]) (h:l.all isDg=true) (ho:valD l<=2147483647):zaz l=(((valD l:Nat):Int),0):=by
 unfold zaz;rw [yg (by rw [h];simpa using hn),yg (by omega)]
def mil (r:List UInt8):Nat:=valD ((r++List.replicate 6 48).take 6)
theorem zeS {r:List UInt8} (h:r.length<=6):mil r=valD r*10 ^ (6-r.length):=by
 unfold mil
 rw [List.take_append,List.take_of_length_le h,List.take_replicate,Nat.min_eq_left (by omega),zcH]
theorem zgp {r:List UInt8} (h:6<=r.length):mil r=valD (r.take 6):=by
 unfold mil
 rw [List.take_append_of_le_length h]
theorem mil_snoc_lt (r:List UInt8) (c:UInt8) (h:r.length<6):mil (r++[c])=mil r+10 ^ (5-r.length)*dgV c:=by
 rw [zeS (by simp;omega),zeS (by omega),zbw,List.length_append,List.length_singleton]
 rw [show 6-r.length=(5-r.length)+1 from by omega,show 6-(r.length+1)=5-r.length from by omega,Nat.pow_succ,Nat.add_mul]
 rw [Nat.mul_comm (dgV c)]
 congr 1
 rw [Nat.mul_comm 10 (valD r),Nat.mul_assoc,Nat.mul_comm 10]
theorem mil_snoc_ge (r:List UInt8) (c:UInt8) (h:6<=r.length):mil (r++[c])=mil r:=by
 rw [zgp h,zgp (by simp;omega),List.take_append_of_le_length h]
theorem zfu (r:List UInt8) (h:r.all isDg=true):mil r<1000000:=by
 by_cases hl:r.length<=6
 ·have:=valD_lt ((r++List.replicate 6 48).take 6) (by
   rw [List.all_eq_true]
   intro x hx
   have hx:=List.mem_of_mem_take hx
   rw [List.mem_append] at hx
   rcases hx with hx|hx
   ·exact List.all_eq_true.1 h x hx
   ·rw [List.mem_replicate] at hx;rw [hx.2];rfl)
  unfold mil
  have hlen:((r++List.replicate 6 48).take 6:List UInt8).length=6:=by simp
  rw [hlen] at this
  omega
 ·rw [zgp (by omega)]
  have:=valD_lt (r.take 6) (by rw [List.all_eq_true];intro x hx;exact List.all_eq_true.1 h x (List.mem_of_mem_take hx))
  rw [List.length_take,Nat.min_eq_left (by omega)] at this
  omega
def zd8 (s:List UInt8):Int:=if s.head?=some 45 then -1 else 1
def zdY (s:List UInt8):List UInt8:=if s.head?=some 45\/s.head?=some 43 then s.tail else s
def zbf (b:List UInt8):List UInt8:=b.takeWhile (· != 46)
def zb2 (b:List UInt8):List UInt8:=(b.dropWhile (· != 46)).tail
def zds (b:List UInt8):Bool:=b.any (·==46)
def za6 (sg:Int) (b:List UInt8):Int×Int×Int :=
 if (zbf b).length+(zb2 b).length=0\/(zbf b).all isDg=false\/(zb2 b).all isDg=false then (0,0,11)
 else if 2147483647<valD (zbf b) then (0,0,5)
 else if zds b=false then (2,sg*(valD (zbf b):Nat),0)
 else if 2147483647000000<valD (zbf b)*1000000+mil (zb2 b) then (0,0,5)
 else (3,sg*((valD (zbf b)*1000000+mil (zb2 b):Nat):Int),0)
def za4 (s:List UInt8):Int×Int×Int:=za6 (zd8 s) (zdY s)
theorem tw_app (w t:List UInt8) (hw:∀x∈w,x≠46):zbf (w++46::t)=w/\zb2 (w++46::t)=t/\zds (w++46::t)=true:=by
 induction w with
 | nil=>simp [zbf,zb2,zds]
 | cons x w ih =>
  have hx:x≠46:=hw x (List.mem_cons_self)
  obtain ⟨h1,h2,h3⟩:=ih fun y hy=>hw y (List.mem_cons_of_mem _ hy)
  refine ⟨?_,?_,by simp [zds]⟩
  ·unfold zbf at *
   rw [List.cons_append,List.takeWhile_cons_of_pos (by simpa using hx),h1]
  ·unfold zb2 at *
   rw [List.cons_append,List.dropWhile_cons_of_pos (by simpa using hx),h2]
theorem tw_none (b:List UInt8) (hb:∀x∈b,x≠46):zbf b=b/\zb2 b=[]/\zds b=false:=by
 induction b with
 | nil=>simp [zbf,zb2,zds]
 | cons x w ih =>
  have hx:x≠46:=hb x (List.mem_cons_self)
  obtain ⟨h1,h2,h3⟩:=ih fun y hy=>hb y (List.mem_cons_of_mem _ hy)
  refine ⟨?_,?_,?_⟩
  ·unfold zbf at *
   rw [List.takeWhile_cons_of_pos (by simpa using hx),h1]
  ·unfold zb2 at *
   rw [List.dropWhile_cons_of_pos (by simpa using hx),h2]
  ·unfold zds at *
   rw [List.any_cons,h3];simpa using hx
theorem dg_ne {x:UInt8} (h:isDg x=true):x≠46:=by rintro rfl;revert h;decide
theorem all_ne {w:List UInt8} (h:w.all isDg=true):∀x∈w,x≠46:=fun x hx=>dg_ne (List.all_eq_true.1 h x hx)
theorem all_false {l:List UInt8} {c:UInt8} (h:c∈l) (hc:isDg c=false):l.all isDg=false:=by
 rw [<-Bool.not_eq_true,List.all_eq_true];intro h2;rw [h2 c h] at hc;exact absurd hc (by decide)
theorem parseB_int (sg:Int) (b:List UInt8) (h:b.all isDg=true):za6 sg b=if b.length=0 then (0,0,11) else if 2147483647<valD b then (0,0,5) else (2,sg*(valD b:Nat),0):=by
 obtain ⟨h1,h2,h3⟩:=tw_none b (all_ne h)
 unfold za6
 rw [h1,h2,h3]
 by_cases hb:b.length=0
 ·rw [yf (.inl (by simp [hb])),yf hb]
 ·rw [yg (by rw [h];simp;intro e;exact hb (by simp [e])),yg hb];rfl
theorem parseB_real (sg:Int) (w r:List UInt8) (hw:w.all isDg=true) (hr:r.all isDg=true) :
  za6 sg (w++46::r)=if w.length+r.length=0 then (0,0,11) else if 2147483647<valD w\/(valD w=2147483647/\0<mil r) then (0,0,5) else (3,sg*((valD w*1000000+mil r:Nat):Int),0):=by
 obtain ⟨h1,h2,h3⟩:=tw_app w r (all_ne hw)
 have hm:=zfu r hr
 unfold za6
 rw [h1,h2,h3]
 by_cases hb:w.length+r.length=0
 ·rw [yf (.inl hb),yf hb]
 ·rw [yg (by rw [hw,hr];simp;intro e1 e2;exact hb (by simp [e1,e2])),yg hb,yg (by decide:¬(true=false))]
  by_cases h4:2147483647<valD w
  ·rw [yf h4,yf (.inl h4)]
  ·rw [yg h4]
   by_cases h5:valD w=2147483647/\0<mil r
   ·rw [yf (by omega),yf (.inr h5)]
   ·rw [yg (by omega),yg (by omega)]
def decL (n:Nat):List UInt8:=if n<10 then [UInt8.ofNat (48+n)] else decL (n / 10)++[UInt8.ofNat (48+n % 10)]
termination_by n
theorem zbi {n:Nat} (h:n<10):decL n=[UInt8.ofNat (48+n)]:=by rw [decL,yf h]
theorem zcA {n:Nat} (h:10<=n):decL n=decL (n / 10)++[UInt8.ofNat (48+n % 10)]:=by rw [decL,yg (by omega)]
theorem dig_isDg {d:Nat} (h:d<10):isDg (UInt8.ofNat (48+d))=true:=by
 rw [zcj,UInt8.toNat_ofNat'];omega
theorem dig_dgV {d:Nat} (h:d<10):dgV (UInt8.ofNat (48+d))=d:=by
 unfold dgV;rw [UInt8.toNat_ofNat'];omega
theorem zb7 (n:Nat):(decL n).all isDg=true/\valD (decL n)=n/\1<=(decL n).length:=by
 induction n using Nat.strongRecOn with
 | ind n ih =>
  by_cases h:n<10
  ·rw [zbi h]
   refine ⟨by rw [List.all_cons,dig_isDg h];rfl,?_,by simp⟩
   show valD ([]++[_])=n
   rw [zbw,valD_nil,dig_dgV h];omega
  ·obtain ⟨h1,h2,h3⟩:=ih (n / 10) (by omega)
   rw [zcA (by omega)]
   refine ⟨zcI _ _ h1 (dig_isDg (by omega)),?_,by simp⟩
   rw [zbw,h2,dig_dgV (by omega)];omega
theorem zbd:∀(k n:Nat),n<10 ^ (k+1)->(decL n).length<=k+1
 | 0,n,h=>by rw [zbi (by simpa using h)];simp
 | k+1,n,h=>by
  by_cases h10:n<10
  ·rw [zbi h10];simp
  ·rw [zcA (by omega),List.length_append,List.length_singleton]
   have:=zbd k (n / 10) (by rw [Nat.div_lt_iff_lt_mul (by omega)];rwa [Nat.pow_succ] at h)
   omega
theorem zez:∀(k n:Nat),10 ^ k<=n->k+1<=(decL n).length
 | 0,n,_=>(zb7 n).2.2
 | k+1,n,h=>by
  have hp:1<=10 ^ k:=Nat.pow_pos (by omega)
  rw [Nat.pow_succ] at h
  rw [zcA (by omega),List.length_append,List.length_singleton]
  have:=zez k (n / 10) (by rw [Nat.le_div_iff_mul_le (by omega)];exact h)
  omega
def fixD (n:Nat):Nat->List UInt8
 | 0=>[]
 | k+1=>UInt8.ofNat (48+n / 10 ^ k % 10)::fixD n k
theorem fixD_len (n:Nat):∀k,(fixD n k).length=k
 | 0=>rfl
 | k+1=>by simp [fixD,fixD_len n k]
theorem zex (n:Nat):∀k,fixD n (k+1)=fixD (n / 10) k++[UInt8.ofNat (48+n % 10)]
 | 0=>by simp [fixD]
 | k+1=>by
  rw [fixD,zex n k]
  show _=(UInt8.ofNat (48+n / 10 / 10 ^ k % 10)::fixD (n / 10) k)++_
  rw [Nat.div_div_eq_div_mul,Nat.pow_succ,Nat.mul_comm 10,List.cons_append]
theorem fixD_zero:∀k,fixD 0 k=List.replicate k 48
 | 0=>rfl
 | k+1=>by rw [fixD,fixD_zero k,List.replicate_succ,Nat.zero_div];rfl
def padL (n d:Nat):List UInt8:=List.replicate (d-(decL n).length) 48++decL n
theorem fixD_pad:∀(k n:Nat),n<10 ^ (k+1)->fixD n (k+1)=padL n (k+1)
 | 0,n,h=>by
  have h10:n<10:=by simpa using h
  unfold padL
  rw [zbi h10,zex]
  simp [fixD,Nat.mod_eq_of_lt h10]
 | k+1,n,h=>by
  rw [zex]
  by_cases h10:n<10
  ·unfold padL
   rw [zbi h10,show n / 10=0 from by omega,fixD_zero,Nat.mod_eq_of_lt h10];rfl
  ·rw [fixD_pad k (n / 10) (by rw [Nat.div_lt_iff_lt_mul (by omega)];rwa [Nat.pow_succ] at h)]
   unfold padL
   rw [zcA (n:=n) (by omega),List.length_append,List.length_singleton,show k+1+1-((decL (n / 10)).length+1)=k+1-(decL (n / 10)).length from by omega,List.append_assoc]
theorem zcG {n d:Nat} (h:d<=(decL n).length):padL n d=decL n:=by
 unfold padL;rw [show d-(decL n).length=0 from by omega];rfl
theorem fixD_end (n least k:Nat) (hl:1<=least) (hk:least<=k) (h0:n / 10 ^ k=0) (h1:least<k->n / 10 ^ (k-1)≠0):fixD n k=padL n least:=by
 have hn:n<10 ^ k:=by
  rcases Nat.lt_or_ge n (10 ^ k) with h|h
  ·exact h
  ·have:=(Nat.le_div_iff_mul_le (Nat.pow_pos (by omega:0<10))).2 (by rwa [Nat.one_mul]:1*10 ^ k<=n)
   omega
 obtain ⟨j,rfl⟩:∃j,k=j+1:=⟨k-1,by omega⟩
 rw [fixD_pad j n hn]
 by_cases he:least=j+1
 ·rw [he]
 ·have h2:10 ^ j<=n:=by
   have:=h1 (by omega)
   rw [show j+1-1=j from rfl] at this
   rcases Nat.lt_or_ge n (10 ^ j) with h|h
   ·exact absurd (Nat.div_eq_of_lt h) this
   ·exact h
  have h3:=zez j n h2
  rw [zcG h3,zcG (by omega)]
def padV (n digits:Int):List UInt8×Int :=
 if n<0\/digits<1\/20<digits\/digits<((decL n.toNat).length:Int) then ([],2) else (padL n.toNat digits.toNat,0)
def zaI (k n:Int) (bare:Bool):Int :=
 if bare=true/\((k=2/\-2147483647<=n/\n<=2147483647)\/(k=3/\-2147483647000000<=n/\n<=2147483647000000)) then 0 else 2
def zfk (l:List UInt8):List UInt8:=(l.reverse.dropWhile (·==48)).reverse
def zbk (f:List UInt8):List UInt8:=f.take 1++zfk (f.drop 1)
def absL (k:Int) (n:Nat):List UInt8:=if k=2 then decL n else decL (n / 1000000)++46::zbk (padL (n % 1000000) 6)
def zef (n:Int):List UInt8:=if n<0 then [45] else []
def zbF (k n:Int) (bare:Bool):List UInt8×Int:=if zaI k n bare=0 then (zef n++absL k n.natAbs,0) else ([],2)
theorem zfH (l:List UInt8):zfk (l++[48])=zfk l:=by unfold zfk;simp
theorem zfY (l:List UInt8) (c:UInt8) (h:c≠48):zfk (l++[c])=l++[c]:=by
 unfold zfk
 rw [List.reverse_append,List.reverse_singleton,List.singleton_append,List.dropWhile_cons_of_neg (by simpa using h)]
 simp
theorem trimR_zeros (l:List UInt8):∃j,l=zfk l++List.replicate j 48:=by
 refine snoc_ind (p:=fun l=>∃j,l=zfk l++List.replicate j 48) ⟨0,by simp [zfk]⟩ (fun l c ih=>?_) l
 ·by_cases h:c=48
  ·subst h
   obtain ⟨j,hj⟩:=ih
   refine ⟨j+1,?_⟩
   rw [zfH,List.replicate_succ',<-List.append_assoc,<-hj]
  ·exact ⟨0,by rw [zfY l c h];simp⟩
theorem zeo {n d:Nat} (h:(decL n).length<=d):(padL n d).length=d:=by unfold padL;simp;omega
theorem padL_all (n d:Nat):(padL n d).all isDg=true:=by
 unfold padL
 rw [List.all_append,(zb7 n).1,Bool.and_true,List.all_eq_true]
 intro x hx;rw [List.mem_replicate] at hx;rw [hx.2];rfl
theorem valD_zl (j:Nat) (l:List UInt8):valD (List.replicate j 48++l)=valD l:=by
 have:=zcH [] j
 simp only [List.nil_append,valD_nil,Nat.zero_mul] at this
 unfold valD at *
 rw [zcT,this]
theorem valD_pad (n d:Nat):valD (padL n d)=n:=by unfold padL;rw [valD_zl,(zb7 n).2.1]
theorem mil_trimF (m:Nat) (h:m<1000000):mil (zbk (padL m 6))=m/\(zbk (padL m 6)).all isDg=true/\1<=(zbk (padL m 6)).length/\(zbk (padL m 6)).length<=6:=by
 have hl:(padL m 6).length=6:=zeo (by have:=zbd 5 m (by omega);omega)
 have ha:=padL_all m 6
 have hv:=valD_pad m 6
 generalize padL m 6=f at *
 obtain ⟨j,hj⟩:=trimR_zeros (f.drop 1)
 have hf:f=zbk f++List.replicate j 48:=by
  unfold zbk;rw [List.append_assoc,<-hj,List.take_append_drop]
 have hlen:(zbk f).length+j=6:=by have:=congrArg List.length hf;simpa [hl] using this.symm
 have hal:(zbk f).all isDg=true:=by
  rw [hf,List.all_append,Bool.and_eq_true] at ha;exact ha.1
 refine ⟨?_,hal,?_,by omega⟩
 ·rw [zeS (by omega),show 6-(zbk f).length=j from by omega,<-zcH,<-hf,hv]
 ·unfold zbk;rw [List.length_append,List.length_take];omega
theorem zd4 {k n:Int} {b:Bool} (h:zaI k n b=0):b=true/\((k=2/\-2147483647<=n/\n<=2147483647)\/(k=3/\-2147483647000000<=n/\n<=2147483647000000)):=by
 unfold zaI at h
 split at h
 ·assumption
 ·omega
theorem parseV_check (s:List UInt8) (h:(za4 s).2.2=0):zaI (za4 s).1 (za4 s).2.1 true=0:=by
 unfold za4 za6 at *
 have hsg:zd8 s=1\/zd8 s=-1:=by unfold zd8;split<;>simp
 generalize zd8 s=sg at *
 generalize zbf (zdY s)=w at *
 generalize zb2 (zdY s)=r at *
 generalize zds (zdY s)=p at *
 split at h
 ·simp at h
 ·rename_i c1
  rw [yg c1]
  split at h
  ·simp at h
  ·rename_i c2
   rw [yg c2]
   split at h
   ·rename_i c3
    rw [yf c3]
    unfold zaI
    rw [yf]
    refine ⟨rfl,.inl ⟨rfl,?_⟩⟩
    simp only
    rcases hsg with rfl|rfl<;>omega
   ·rename_i c3
    rw [yg c3]
    split at h
    ·simp at h
    ·rename_i c4
     rw [yg c4]
     unfold zaI
     rw [yf]
     refine ⟨rfl,.inr ⟨rfl,?_⟩⟩
     simp only
     rcases hsg with rfl|rfl<;>omega
def isSp (c:UInt8):Bool:=c==0||c==9||c==10||c==12||c==13||c==32
def isDl (c:UInt8):Bool:=c==40||c==41||c==60||c==62||c==91||c==93||c==123||c==125||c==47||c==37
def isRg (c:UInt8):Bool:=!isSp c&&!isDl c
def isOc (c:UInt8):Bool:=decide (48<=c.toNat)&&decide (c.toNat<=55)
def hexD (c:UInt8):Int :=
 if 48<=c.toNat/\c.toNat<=57 then (c.toNat:Int)-48 else if 97<=c.toNat/\c.toNat<=102 then (c.toNat:Int)-87 else if 65<=c.toNat/\c.toNat<=70 then (c.toNat:Int)-55 else -1
theorem hexD_bd (c:UInt8):-1<=hexD c/\hexD c<=15:=by
 unfold hexD
 repeat' split
 all_goals omega
def zbq:Bool->List UInt8->Nat
 | _,[]=>0
 | true,c::l=>1+zbq (c != 10&&c != 13) l
 | false,c::l=>if c=37 then 1+zbq true l else if isSp c=true then 1+zbq false l else 0
theorem zda:∀(b:Bool) (l:List UInt8),zbq b l<=l.length
 | _,[]=>by simp [zbq]
 | true,c::l=>by have:=zda (c != 10&&c != 13) l;simp only [zbq,List.length_cons];omega
 | false,c::l=>by
  have h1:=zda true l
  have h2:=zda false l
  simp only [zbq,List.length_cons]
  split
  ·omega
  ·split<;>omega
def za8 (bs:List UInt8) (k:Int):Nat:=if k<0 then 0 else if (bs.length:Int)<=k then bs.length else k.toNat+zbq false (bs.drop k.toNat)
def zfd (yo:Bool):List UInt8->Option Nat
 | []=>if yo then some 0 else none
 | d::_=>some (if d=10 then 1 else 0)
def octV (yo:Bool) (c:UInt8):List UInt8->Option (Nat×Nat)
 | []=>if yo then some (c.toNat-48,1) else none
 | d::t=>if isOc d=true then
   (match t with
    | []=>if yo then some (8*(c.toNat-48)+(d.toNat-48),2) else none
    | e::_=>if isOc e=true then some (8*(8*(c.toNat-48)+(d.toNat-48))+(e.toNat-48),3) else some (8*(c.toNat-48)+(d.toNat-48),2))
  else some (c.toNat-48,1)
def escV (yo:Bool):List UInt8->Option (List UInt8×Nat)
 | []=>none
 | c::t =>
  if c=110 then some ([10],1) else if c=114 then some ([13],1) else if c=116 then some ([9],1) else if c=98 then some ([8],1) else if c=102 then some ([12],1)
  else if isOc c=true then (octV yo c t).map fun x=>([UInt8.ofNat x.1],x.2)
  else if c=10 then some ([],1)
  else if c=13 then (zfd yo t).map fun k=>([],k+1)
  else some ([c],1)
def za2 (yo:Bool) (deep:Nat) (out:List UInt8) (l:List UInt8):Option (List UInt8×List UInt8) :=
 match l with
 | []=>none
 | c::t =>
  if c=92 then (match escV yo t with|none=>none|some (x,k)=>za2 yo deep (out++x) (t.drop k))
  else if c=13 then (match zfd yo t with|none=>none|some k=>za2 yo deep (out++[10]) (t.drop k))
  else if c=40 then za2 yo (deep+1) (out++[c]) t
  else if c=41 then (if deep=1 then some (out,t) else za2 yo (deep-1) (out++[c]) t)
  else za2 yo deep (out++[c]) t
termination_by l.length
decreasing_by all_goals (simp only [List.length_cons,yj];omega)
def hexV (out:List UInt8) (half:Int):List UInt8->Int×List UInt8×List UInt8
 | []=>(1,[],[])
 | c::t =>
  if c=62 then (0,if 0<=half then out++[UInt8.ofNat (16*half).toNat] else out,t)
  else if isSp c=true then hexV out half t
  else if hexD c<0 then (11,[],[])
  else if half<0 then hexV out (hexD c) t
  else hexV (out++[UInt8.ofNat (16*half+hexD c).toNat]) (-1) t
def zbT (out:List UInt8):List UInt8->Option (List UInt8)
 | []=>some out
 | c::t=>if c=35 then
   (match t with
    | x::y::u=>if hexD x<0\/hexD y<0 then none else zbT (out++[UInt8.ofNat (16*hexD x+hexD y).toNat]) u
    | _=>none)
  else zbT (out++[c]) t
def zgM (w:List UInt8):Option (List UInt8):=match zbT [] w with|none=>none|some o=>if 127<o.length\/(0:UInt8)∈o then none else some o
structure Tk where
 kind:Int
 vk:Int:=0
 vn:Int:=0
 vs:List UInt8:=[]
 s:List UInt8:=[]
deriving DecidableEq
def zbt (yo:Bool):Int:=if yo then 10 else 6
def tokV (yo:Bool) (c:UInt8) (t:List UInt8):Int×Tk×List UInt8 :=
 if isRg c=true then
  (let w:=(c::t).takeWhile isRg;let r:=(c::t).dropWhile isRg
   if r=[]/\yo=false then (6,{ kind:=0 },[])
   else if isDg c=true\/c=43\/c=45\/c=46 then ((za4 w).2.2,{ kind:=1,vk:=(za4 w).1,vn:=(za4 w).2.1 },r)
   else (0,{ kind:=6,s:=w },r))
 else if c=91 then (0,{ kind:=2 },t)
 else if c=93 then (0,{ kind:=3 },t)
 else if c=60 then
  (match t with
   | []=>(zbt yo,{ kind:=0 },[])
   | d::u=>if d=60 then (0,{ kind:=4 },u) else
    (match hexV [] (-1) (d::u) with
     |(e,x,r)=>if e=0 then (0,{ kind:=1,vk:=4,vs:=x },r) else if e=1 then (zbt yo,{ kind:=0 },[]) else (11,{ kind:=0 },[])))
 else if c=62 then
  (match t with
   | []=>(if yo then 11 else 6,{ kind:=0 },[])
   | d::u=>if d=62 then (0,{ kind:=5 },u) else (11,{ kind:=0 },[]))
 else if c=40 then
  (match za2 yo 1 [] t with
   | none=>(zbt yo,{ kind:=0 },[])
   | some (x,r)=>(0,{ kind:=1,vk:=4,vs:=x },r))
 else if c=47 then
  (let w:=t.takeWhile isRg;let r:=t.dropWhile isRg
   if r=[]/\yo=false then (6,{ kind:=0 },[])
   else match zgM w with
   | none=>(17,{ kind:=0 },[])
   | some o=>(0,{ kind:=1,vk:=5,vs:=o },r))
 else (11,{ kind:=0 },[])
def zah (bs:List UInt8) (k:Int) (yo:Bool):Tk×Int×Int×Int :=
 if k<0\/(bs.length:Int)<k then ({ kind:=0 },0,0,2)
 else
  (let f:=za8 bs k
   match bs.drop f with
   | []=>({ kind:=0 },(f:Int),(f:Int),if yo then 0 else 6)
   | c::t =>
    (match tokV yo c t with
     |(e,x,r)=>if e=0 then (x,(f:Int),(bs.length:Int)-(r.length:Int),0) else ({ kind:=0 },(f:Int),(f:Int),e)))
theorem zcz:∀(b:Bool) (l:List UInt8),zbq false (l.drop (zbq b l))=0
 | _,[]=>by simp [zbq]
 | true,c::l=>by
  simp only [zbq]
  rw [Nat.add_comm,List.drop_succ_cons];exact zcz _ l
 | false,c::l=>by
  by_cases h:c=37
  ·rw [zbq,yf h,Nat.add_comm,List.drop_succ_cons];exact zcz _ l
  ·by_cases h2:isSp c=true
   ·rw [zbq,yg h,yf h2,Nat.add_comm,List.drop_succ_cons];exact zcz _ l
   ·rw [zbq,yg h,yg h2,List.drop_zero,zbq,yg h,yg h2]
theorem zgH {bs:List UInt8} {k:Int} (h:0<=k) (h2:k<=bs.length):k<=(za8 bs k:Nat)/\za8 bs k<=bs.length:=by
 unfold za8
 rw [yg (by omega)]
 split
 ·omega
 ·have:=zda false (bs.drop k.toNat)
  rw [yj] at this;omega
theorem skipV_idem {bs:List UInt8} {k:Int} (h:0<=k) (h2:k<=bs.length):za8 bs (za8 bs k:Nat)=za8 bs k:=by
 have hb:=zgH h h2
 by_cases h3:(bs.length:Int)<=(za8 bs k:Nat)
 ·have e:za8 bs k=bs.length:=by omega
  rw [e];unfold za8;rw [yg (by omega),yf (by omega)]
 ·have e:za8 bs k=k.toNat+zbq false (bs.drop k.toNat):=by
   unfold za8
   rw [yg (by omega),yg (by omega)]
  have e3:zbq false (bs.drop (za8 bs k))=0:=by
   rw [e,<-List.drop_drop]
   exact zcz false _
  have gen:∀f:Nat,¬(bs.length:Int)<=(f:Int)->zbq false (bs.drop f)=0->za8 bs (f:Int)=f:=fun f h1 h2=>by
   unfold za8
   rw [yg (by omega),yg h1,Int.toNat_natCast,h2];rfl
  exact gen _ h3 e3
theorem zdo (u:List UInt8):∀(l:List UInt8) (out:List UInt8) (half:Int),((hexV out half l).1=0->hexV out half (l++u)=(0,(hexV out half l).2.1,(hexV out half l).2.2++u)/\(hexV out half l).2.2.length<l.length) /\
  ((hexV out half l).1≠0->(hexV out half l).1≠1->(hexV out half l).1=11/\hexV out half (l++u)=(11,[],[]))
 | [],out,half=>by simp [hexV]
 | c::t,out,half=>by
  rw [List.cons_append]
  simp only [hexV,List.length_cons]
  by_cases h1:c=62
  ·simp only [yf h1]
   exact ⟨fun _=>⟨by simp,by omega⟩,fun h=>absurd rfl h⟩
  simp only [yg h1]
  by_cases h2:isSp c=true
  ·simp only [yf h2]
   obtain ⟨g1,g2⟩:=zdo u t out half
   exact ⟨fun h=>⟨(g1 h).1,by have:=(g1 h).2;omega⟩,g2⟩
  simp only [yg h2]
  by_cases h3:hexD c<0
  ·simp only [yf h3]
   exact ⟨fun h=>by simp at h,fun _ _=>⟨by simp,by simp⟩⟩
  simp only [yg h3]
  by_cases h4:half<0
  ·simp only [yf h4]
   obtain ⟨g1,g2⟩:=zdo u t out (hexD c)
   exact ⟨fun h=>⟨(g1 h).1,by have:=(g1 h).2;omega⟩,g2⟩
  simp only [yg h4]
  obtain ⟨g1,g2⟩:=zdo u t (out++[UInt8.ofNat (16*half+hexD c).toNat]) (-1)
  exact ⟨fun h=>⟨(g1 h).1,by have:=(g1 h).2;omega⟩,g2⟩
theorem drop_len (p:UInt8->Bool) (l:List UInt8):(l.dropWhile p).length<=l.length:=List.Sublist.length_le (List.dropWhile_sublist _)
theorem textV_len (yo:Bool):∀(n:Nat) (l:List UInt8),l.length<=n->∀(deep:Nat) (out x r:List UInt8),za2 yo deep out l=some (x,r)->r.length<l.length:=by
 intro n
 induction n with
 | zero =>
  intro l hl deep out x r h
  obtain rfl:l=[]:=List.eq_nil_of_length_eq_zero (by omega)
  rw [za2] at h;cases h
 | succ n ih =>
  intro l hl deep out x r h
  cases l with
  | nil=>rw [za2] at h;cases h
  | cons c t =>
   simp only [List.length_cons] at hl |-
   rw [za2.eq_def] at h
   simp only at h
   split at h
   ·split at h
    ·cases h
    ·have:=ih _ (by rw [yj];omega) _ _ _ _ h
     rw [yj] at this;omega
   ·split at h
    ·split at h
     ·cases h
     ·have:=ih _ (by rw [yj];omega) _ _ _ _ h
      rw [yj] at this;omega
    ·split at h
     ·have:=ih _ (by omega) _ _ _ _ h
      omega
     ·split at h
      ·split at h
       ·cases h;omega
       ·have:=ih _ (by omega) _ _ _ _ h
        omega
      ·have:=ih _ (by omega) _ _ _ _ h
       omega
theorem tokV_some (yo:Bool) (c:UInt8) (t:List UInt8) (h:(tokV yo c t).1=0):(tokV yo c t).2.1.kind≠0/\(tokV yo c t).2.2.length<=t.length:=by
 obtain ⟨V,hV⟩:∃V,tokV yo c t=V:=⟨_,rfl⟩
 rw [hV] at h |-
 unfold tokV at hV
 split at hV
 ·next hr =>
  have hd:((c::t).dropWhile isRg).length<=t.length:=by rw [List.dropWhile_cons_of_pos hr];exact drop_len _ _
  simp only at hV
  split at hV
  ·subst hV;simp at h
  ·split at hV
   ·subst hV;exact ⟨by simp,hd⟩
   ·subst hV;exact ⟨by simp,hd⟩
 split at hV
 ·subst hV;exact ⟨by simp,ym _⟩
 split at hV
 ·subst hV;exact ⟨by simp,ym _⟩
 split at hV
 ·cases t with
  | nil=>subst hV;cases yo<;>simp [zbt] at h
  | cons d t =>
   simp only at hV
   split at hV
   ·subst hV;exact ⟨by simp,by simp⟩
   ·have hx:=(zdo [] (d::t) [] (-1)).1
    split at hV
    ·subst hV
     exact ⟨by simp,Nat.le_of_lt (hx ‹_›).2⟩
    ·split at hV
     ·subst hV;cases yo<;>simp [zbt] at h
     ·subst hV;simp at h
 split at hV
 ·cases t with
  | nil=>subst hV;cases yo<;>simp at h
  | cons d t =>
   simp only at hV
   split at hV
   ·subst hV;exact ⟨by simp,by simp⟩
   ·subst hV;simp at h
 split at hV
 ·cases he:za2 yo 1 [] t with
  | none=>rw [he] at hV;subst hV;cases yo<;>simp [zbt] at h
  | some y =>
   obtain ⟨x,r⟩:=y
   rw [he] at hV
   subst hV
   exact ⟨by simp,by have:=textV_len yo _ t (ym _) _ _ _ _ he;simp only;omega⟩
 split at hV
 ·simp only at hV
  split at hV
  ·subst hV;simp at h
  ·split at hV
   ·subst hV;simp at h
   ·subst hV;exact ⟨by simp,drop_len _ _⟩
 ·subst hV;simp at h
def nextF (bs:List UInt8) (f:Nat) (yo:Bool):Tk×Int×Int×Int :=
 match bs.drop f with
 | []=>({ kind:=0 },(f:Int),(f:Int),if yo then 0 else 6)
 | c::t=>if (tokV yo c t).1=0 then ((tokV yo c t).2.1,(f:Int),(bs.length:Int)-((tokV yo c t).2.2.length:Int),0) else ({ kind:=0 },(f:Int),(f:Int),(tokV yo c t).1)
theorem zer {bs:List UInt8} {k:Int} (yo:Bool) (h:0<=k) (h2:k<=bs.length):zah bs k yo=nextF bs (za8 bs k) yo:=by
 have h3:¬(k<0\/(bs.length:Int)<k):=by omega
 unfold zah
 rw [yg h3]
 show (match bs.drop (za8 bs k) with | []=>_|c::t=>_)=_
 unfold nextF
 cases bs.drop (za8 bs k)<;>rfl
theorem zeZ {bs:List UInt8} {f:Nat} (yo:Bool) (h:bs.drop f=[]):nextF bs f yo=({ kind:=0 },(f:Int),(f:Int),if yo then 0 else 6):=by unfold nextF;rw [h]
theorem zdr {bs:List UInt8} {f:Nat} (yo:Bool) {c:UInt8} {t:List UInt8} (h:bs.drop f=c::t):nextF bs f yo=if (tokV yo c t).1=0 then ((tokV yo c t).2.1,(f:Int),(bs.length:Int)-((tokV yo c t).2.2.length:Int),0) else ({ kind:=0 },(f:Int),(f:Int),(tokV yo c t).1):=by unfold nextF;rw [h]
theorem nextV_places {bs:List UInt8} {k:Int} (yo:Bool) (h:0<=k) (h2:k<=bs.length) :
  ((zah bs k yo).2.2.2≠0->(zah bs k yo).1={ kind:=0 }/\(zah bs k yo).2.1=(zah bs k yo).2.2.1/\k<=(zah bs k yo).2.1/\(zah bs k yo).2.1<=bs.length) /\
  ((zah bs k yo).2.2.2=0->(zah bs k yo).1.kind=0->yo=true/\(zah bs k yo).2.1=bs.length/\(zah bs k yo).2.2.1=bs.length) /\
  ((zah bs k yo).2.2.2=0->(zah bs k yo).1.kind≠0->zah bs (zah bs k yo).2.1 yo=zah bs k yo/\k<=(zah bs k yo).2.1/\(zah bs k yo).2.1<(zah bs k yo).2.2.1/\(zah bs k yo).2.2.1<=bs.length):=by
 obtain ⟨hb1,hb2⟩:=zgH h h2
 have hi:=skipV_idem h h2
 have hV:=zer (bs:=bs) yo h h2
 have hV2:=zer (bs:=bs) (k:=(za8 bs k:Nat)) yo (by omega) (by omega)
 rw [hi] at hV2
 generalize za8 bs k=f at *
 rw [hV]
 cases hd:bs.drop f with
 | nil =>
  have hn:=zeZ yo hd
  rw [hn] at hV2 |-
  have hfl:f=bs.length:=by have:=List.drop_eq_nil_iff.1 hd;omega
  refine ⟨fun _=>⟨rfl,rfl,hb1,by simp only;omega⟩,fun h0 _=>⟨?_,by simp only;omega,by simp only;omega⟩,fun _ h=>absurd rfl h⟩
  cases yo
  ·simp at h0
  ·rfl
 | cons c t =>
  have hn:=zdr yo hd
  have hlen:f+(t.length+1)=bs.length:=by
   have:=congrArg List.length hd
   rw [yj,List.length_cons] at this;omega
  by_cases h0:(tokV yo c t).1=0
  ·obtain ⟨g1,g2⟩:=tokV_some yo c t h0
   rw [yf h0] at hn
   rw [hn] at hV2 |-
   generalize tokV yo c t=T at *
   obtain ⟨e,x,r⟩:=T
   simp only at g1 g2 hV2 |-
   exact ⟨fun h=>absurd rfl h,fun _ h=>absurd h g1,fun _ _=>⟨hV2,hb1,by omega,by omega⟩⟩
  ·rw [yg h0] at hn
   rw [hn]
   exact ⟨fun _=>⟨rfl,rfl,hb1,by simp only;omega⟩,fun h=>absurd h h0,fun h=>absurd h h0⟩
inductive PV where
 | mk (kind n:Int) (s:List UInt8) (l:List PV)
def PV.kind:PV->Int | .mk k _ _ _=>k
def PV.n:PV->Int | .mk _ n _ _=>n
def PV.s:PV->List UInt8 | .mk _ _ s _=>s
def PV.l:PV->List PV | .mk _ _ _ l=>l
def PV.none:PV:=.mk 0 0 [] []
instance:Inhabited PV:=⟨PV.none⟩
structure Lv where
 dict:Bool
 l:List PV
def zcw (v:Lv):Bool:=v.dict&&v.l.length % 2==0
def topW:List Lv->Bool
 | []=>false
 | v::_=>zcw v
def zaD (t:Tk):Bool:=t.kind==1&&t.vk==2
def moreV (e:Int):Int:=if e=6 then 6 else 0
def tkV (t:Tk):PV:=.mk t.vk t.vn t.vs []
def refV (bs:List UInt8) (yo:Bool) (at_:Int) (v:PV):PV×Int×Int :=
 let g:=zah bs at_ yo
 if g.2.2.2≠0\/zaD g.1=false then (v,at_,moreV g.2.2.2) else
 let r:=zah bs g.2.2.1 yo
 if r.2.2.2≠0\/r.1.kind≠6\/r.1.s≠[82] then (v,at_,moreV r.2.2.2) else
 if v.n<1\/4096<v.n\/g.1.vn≠0 then (v,at_,26) else (.mk 8 v.n [] [],r.2.2.1,0)
def zee (w:List UInt8):Option PV :=
 if w=[116,114,117,101] then some (.mk 1 1 [] []) else if w=[102,97,108,115,101] then some (.mk 1 0 [] []) else if w=[110,117,108,108] then some PV.none else none
def zaw (bs:List UInt8) (yo:Bool) (st:List Lv) (at_:Int) (t:Tk):PV×Int×Int :=
 if topW st=true/\(t.kind≠1\/t.vk≠5) then (PV.none,at_,11)
 else if t.kind=6 then (match zee t.s with|none=>(PV.none,at_,11)|some v=>(v,at_,0))
 else if zaD t=true then refV bs yo at_ (tkV t)
 else (tkV t,at_,0)
def zbH (st:List Lv) (dict:Bool):List Lv×Int:=if topW st=true then (st,11) else if 64<=st.length then (st,15) else ({ dict:=dict,l:=[] }::st,0)
def twoV:List PV->List (PV×PV)
 | a::b::l=>(a,b)::twoV l
 | _=>[]
def zbV:List (PV×PV)->List PV
 | []=>[]
 |(a,b)::l=>a::b::zbV l
def sLt:List UInt8->List UInt8->Bool
 | [],[]=>false
 | [],_::_=>true
 | _::_,[]=>false
 | a::l,b::m=>if a.toNat<b.toNat then true else if b.toNat<a.toNat then false else sLt l m
def insV (x:PV×PV):List (PV×PV)->List (PV×PV)
 | []=>[x]
 | y::l=>if sLt y.1.s x.1.s then y::insV x l else x::y::l
def zdi:List (PV×PV)->List (PV×PV)
 | []=>[]
 | x::l=>insV x (zdi l)
def zbB:List (PV×PV)->Bool
 | x::y::l=>x.1.s==y.1.s||zbB (y::l)
 | _=>false
def zco (l:List PV):Option (List PV):=if zbB (zdi (twoV l))=true then none else some (zbV (zdi (twoV l)))
def zbm (st:List Lv) (dict:Bool):PV×List Lv×Int :=
 match st with
 | []=>(PV.none,st,11)
 | v::rest =>
  if v.dict≠dict\/(dict=true/\zcw v=false) then (PV.none,st,11)
  else if dict=false then (.mk 6 0 [] v.l,rest,0)
  else match zco v.l with
   | none=>(PV.none,st,16)
   | some l=>(.mk 7 0 [] l,rest,0)
def zaL (bs:List UInt8) (yo:Bool) (st:List Lv) (at_:Int) (t:Tk):Option PV×List Lv×Int×Int :=
 if t.kind=0 then (none,st,at_,10)
 else if t.kind=2\/t.kind=4 then (none,(zbH st (t.kind==4)).1,at_,(zbH st (t.kind==4)).2)
 else if t.kind=3\/t.kind=5 then
  (let r:=zbm st (t.kind==5)
   if r.2.2=0 then (some r.1,r.2.1,at_,0) else (none,r.2.1,at_,r.2.2))
 else
  (let r:=zaw bs yo st at_ t
   if r.2.2≠0 then (none,st,r.2.1,r.2.2) else if 64<=st.length then (none,st,r.2.1,15) else (some r.1,st,r.2.1,0))
def valO (bs:List UInt8) (yo:Bool):Nat->List Lv->Int->Option (PV×Int×Int)
 | 0,_,_=>none
 | g+1,st,at_ =>
  let t:=zah bs at_ yo
  if t.2.2.2≠0 then some (PV.none,0,t.2.2.2) else
  match zaL bs yo st t.2.2.1 t.1 with
  |(v,st2,at2,e) =>
   if e≠0 then some (PV.none,0,e) else
   match v with
   | none=>valO bs yo g st2 at2
   | some x=>match st2 with
    | []=>some (x,at2,0)
    | top::rest=>valO bs yo g ({ top with l:=top.l++[x] }::rest) at2
theorem zaP {bs:List UInt8} {k:Int} (yo:Bool) (h:0<=k) (h2:k<=bs.length):k<=(zah bs k yo).2.2.1/\(zah bs k yo).2.2.1<=bs.length:=by
 rw [zer yo h h2]
 have hs:=zgH h h2
 cases hd:bs.drop (za8 bs k) with
 | nil=>rw [zeZ yo hd];exact ⟨hs.1,by have:=hs.2;show ((za8 bs k:Nat):Int)<=_;omega⟩
 | cons c t =>
  rw [zdr yo hd]
  have hl:(bs.drop (za8 bs k)).length=t.length+1:=by rw [hd];rfl
  rw [yj] at hl
  split
  ·rename_i h0
   have:=(tokV_some yo c t h0).2
   exact ⟨by show k<=(bs.length:Int)-_;omega,by show (bs.length:Int)-_<=_;omega⟩
  ·exact ⟨hs.1,by have:=hs.2;show ((za8 bs k:Nat):Int)<=_;omega⟩
mutual
def zaJ:PV->Nat
 | .mk k _ _ l=>if k=6\/k=7 then 1+zbc l else 1
def zbc:List PV->Nat
 | []=>0
 | x::l=>max (zaJ x) (zbc l)
end
def ascV:List (PV×PV)->Bool
 | x::y::l=>sLt x.1.s y.1.s&&ascV (y::l)
 | _=>true
def zby:List PV->Bool
 | []=>true
 | [a]=>a.kind==5
 | a::_::l=>a.kind==5&&zby l
def ownC:PV->Int
 | .mk k n s l =>
  if k=0 then (if n=0/\s=[]/\l=[] then 0 else 2)
  else if k=1 then (if (n=0\/n=1)/\s=[]/\l=[] then 0 else 2)
  else if k=2\/k=3 then (if s=[]/\l=[] then zaI k n true else 2)
  else if k=4 then (if n=0/\l=[] then 0 else 2)
  else if k=5 then (if 127<s.length\/(0:UInt8)∈s then 17 else if n=0/\l=[] then 0 else 2)
  else if k=6 then (if n=0/\s=[] then 0 else 2)
  else if k=7 then (if n≠0\/s≠[]\/l.length % 2≠0 then 2 else if zby l=false then 2 else if ascV (twoV l)=true then 0 else 16)
  else if k=8 then (if 1<=n/\n<=4096/\s=[]/\l=[] then 0 else 2)
  else 2
mutual
def zaX:PV->Int
 | .mk k n s l=>if ownC (.mk k n s l)≠0 then ownC (.mk k n s l) else if k=6\/k=7 then zdd l else 0
def zdd:List PV->Int
 | []=>0
 | x::l=>if zaX x≠0 then zaX x else zdd l
end
def zcl (v:PV):Int:=if 64<zaJ v then 15 else zaX v
theorem zfU {n:Nat}:∀l:List PV,(∀x∈l,zaJ x<=n)->zbc l<=n
 | [],_=>by simp [zbc]
 | x::l,h=>by
  have h1:=h x (List.mem_cons_self)
  have h2:=zfU l fun y hy=>h y (List.mem_cons_of_mem _ hy)
  simp only [zbc];omega
theorem zdx:∀l:List PV,(∀x∈l,zaX x=0)->zdd l=0
 | [],_=>rfl
 | x::l,h=>by
  simp only [zdd]
  rw [yg (by simp [h x (List.mem_cons_self)])]
  exact zdx l fun y hy=>h y (List.mem_cons_of_mem _ hy)
theorem zci:∀a b:List UInt8,sLt a b=false->a≠b->sLt b a=true
 | [],[],_,h=>absurd rfl h
 | [],_::_,h,_=>by simp [sLt] at h
 | _::_,[],_,_=>by simp [sLt]
 | x::a,y::b,h,hn=>by
  simp only [sLt] at h |-
  by_cases h1:x.toNat<y.toNat
  ·rw [yf h1] at h;cases h
  ·rw [yg h1] at h
   by_cases h2:y.toNat<x.toNat
   ·rw [yf h2]
   ·rw [yg h2] at h |-
    rw [yg h1]
    have hxy:x=y:=UInt8.toNat_inj.1 (by omega)
    subst hxy
    exact zci a b h fun e=>hn (by rw [e])
def zfm:List (PV×PV)->Prop
 | x::y::l=>sLt y.1.s x.1.s=false/\zfm (y::l)
 | _=>True
theorem sLt_as:∀a b:List UInt8,sLt a b=true->sLt b a=false
 | [],[],h=>by simp [sLt] at h
 | [],_::_,_=>by simp [sLt]
 | _::_,[],h=>by simp [sLt] at h
 | x::a,y::b,h=>by
  simp only [sLt] at h |-
  by_cases h1:x.toNat<y.toNat
  ·rw [yg (by omega),yf h1]
  ·rw [yg h1] at h
   by_cases h2:y.toNat<x.toNat
   ·rw [yf h2] at h;cases h
   ·rw [yg h2] at h
    rw [yg h2,yg h1]
    exact sLt_as a b h
theorem ins_head (x:PV×PV):∀l,∃z t,insV x l=z::t/\(z=x\/∃t',l=z::t')
 | []=>⟨x,[],rfl,.inl rfl⟩
 | y::l=>by
  simp only [insV]
  split
  ·exact ⟨y,_,rfl,.inr ⟨l,rfl⟩⟩
  ·exact ⟨x,_,rfl,.inl rfl⟩
theorem zfB {x:PV×PV} {l:List (PV×PV)} (h:zfm l) (hh:∀z t,l=z::t->sLt z.1.s x.1.s=false):zfm (x::l):=by
 cases l with
 | nil=>trivial
 | cons y t=>exact ⟨hh y t rfl,h⟩
theorem notGt_tail {x:PV×PV} {l:List (PV×PV)} (h:zfm (x::l)):zfm l:=by
 cases l with
 | nil=>trivial
 | cons y t=>exact h.2
theorem ins_notGt (x:PV×PV):∀l,zfm l->zfm (insV x l)
 | [],_=>trivial
 | y::l,h=>by
  simp only [insV]
  split
  ·rename_i hy
   refine zfB (ins_notGt x l (notGt_tail h)) fun z t hz=>?_
   obtain ⟨z',t',e1,e2⟩:=ins_head x l
   rw [e1] at hz
   have hzz:z'=z:=(List.cons.inj hz).1
   rcases e2 with e2|⟨t2,e2⟩
   ·rw [<-hzz,e2];exact sLt_as _ _ hy
   ·rw [<-hzz];subst e2;exact h.1
  ·rename_i hy
   exact zfB h fun z t hz=>by
    have:y=z:=(List.cons.inj hz).1
    rw [<-this]
    simpa using hy
theorem zcy:∀l,zfm (zdi l)
 | []=>trivial
 | x::l=>ins_notGt x _ (zcy l)
theorem asc_of:∀l,zfm l->zbB l=false->ascV l=true
 | [],_,_=>rfl
 | [_],_,_=>rfl
 | x::y::l,h,ht=>by
  simp only [zbB,Bool.or_eq_false_iff,ye] at ht
  simp only [ascV,Bool.and_eq_true]
  exact ⟨zci _ _ h.1 (fun e=>ht.1 e.symm),asc_of (y::l) h.2 ht.2⟩
theorem ins_perm (x:PV×PV):∀l,(insV x l).Perm (x::l)
 | []=>List.Perm.refl _
 | y::l=>by
  simp only [insV]
  split
  ·exact ((ins_perm x l).cons y).trans (List.Perm.swap x y l)
  ·exact List.Perm.refl _
theorem zeI:∀l,(zdi l).Perm l
 | []=>List.Perm.refl _
 | x::l=>(ins_perm x _).trans ((zeI l).cons x)
theorem flat_two:∀p,twoV (zbV p)=p
 | []=>rfl
 |(a,b)::l=>by simp only [zbV,twoV];rw [flat_two l]
theorem zgE:∀l:List PV,l.length % 2=0->zbV (twoV l)=l
 | [],_=>rfl
 | [_],h=>by simp at h
 | a::b::l,h=>by simp only [twoV,zbV];rw [zgE l (by simp at h;omega)]
theorem flat_len:∀p,(zbV p).length % 2=0
 | []=>rfl
 |(a,b)::l=>by have:=flat_len l;simp only [zbV,List.length_cons];omega
theorem zgl {x:PV}:∀p,x∈zbV p↔∃q∈p,x=q.1\/x=q.2
 | []=>by simp [zbV]
 |(a,b)::l=>by
  simp only [zbV,List.mem_cons,zgl l]
  constructor
  ·rintro (h|h|⟨q,hq,h⟩)
   ·exact ⟨(a,b),.inl rfl,.inl h⟩
   ·exact ⟨(a,b),.inl rfl,.inr h⟩
   ·exact ⟨q,.inr hq,h⟩
  ·rintro ⟨q,rfl|hq,h⟩
   ·exact h.elim .inl (fun h=>.inr (.inl h))
   ·exact .inr (.inr ⟨q,hq,h⟩)
theorem zdu:∀p:List (PV×PV),zby (zbV p)=p.all fun q=>q.1.kind==5
 | []=>rfl
 |(a,b)::l=>by simp only [zbV,zby,List.all_cons];rw [zdu l]
theorem zfT:∀(l:List PV) (x:PV),zby l=true->(l.length % 2=0->x.kind=5)->zby (l++[x])=true
 | [],x,_,h=>by simpa [zby] using h rfl
 | [a],x,h,_=>by simpa [zby] using h
 | a::b::l,x,h,hx=>by
  simp only [zby,Bool.and_eq_true] at h
  simp only [List.cons_append,zby,Bool.and_eq_true]
  exact ⟨h.1,zfT l x h.2 fun h2=>hx (by simp;omega)⟩
theorem pairs_ok {l l2:List PV} (he:l.length % 2=0) (hn:zby l=true) (h:zco l=some l2):l2.length % 2=0/\zby l2=true/\ascV (twoV l2)=true/\∀x∈l2,x∈l:=by
 unfold zco at h
 split at h
 ·cases h
 ·rename_i ht
  cases h
  have hp:=zeI (twoV l)
  refine ⟨flat_len _,?_,?_,fun x hx=>?_⟩
  ·rw [zdu,List.all_eq_true]
   intro q hq
   have h1:=zdu (twoV l)
   rw [zgE l he,hn] at h1
   exact List.all_eq_true.1 h1.symm q (hp.mem_iff.1 hq)
  ·rw [flat_two]
   exact asc_of _ (zcy _) (by simpa using ht)
  ·obtain ⟨q,hq,h1⟩:=(zgl _).1 hx
   rw [<-zgE l he]
   exact (zgl _).2 ⟨q,hp.mem_iff.1 hq,h1⟩
def lvOk (d:Nat) (v:Lv):Prop:=(∀x∈v.l,zaX x=0/\zaJ x+d<=64)/\(v.dict=true->zby v.l=true)
def stOk:List Lv->Prop
 | []=>True
 | v::rest=>lvOk (rest.length+1) v/\rest.length+1<=64/\topW rest=false/\stOk rest
theorem tk_depth {v:PV} (h:v.kind≠6) (h2:v.kind≠7):zaJ v=1:=by
 obtain ⟨k,n,s,l⟩:=v
 simp only [zaJ]
 rw [yg (by rintro (e|e);exact h e;exact h2 e)]
theorem first_own {v:PV} (h:ownC v=0) (h6:v.kind≠6) (h7:v.kind≠7):zaX v=0:=by
 obtain ⟨k,n,s,l⟩:=v
 simp only [zaX]
 rw [yg (by simp [h]),yg (by rintro (e|e);exact h6 e;exact h7 e)]
def tkOk (t:Tk):Prop:=0<=t.kind/\t.kind<=6/\(t.kind=1->ownC (tkV t)=0/\t.vk≠6/\t.vk≠7)
theorem tkn {t:Tk} (n:Nat) (e:t.kind=n) (h:n<=6) (h1:n≠1):tkOk t:=⟨by omega,by omega,fun h2=>by omega⟩
theorem tk1 {t:Tk} (e:t.kind=1) (ho:ownC (tkV t)=0) (h6:t.vk≠6) (h7:t.vk≠7):tkOk t:=⟨by omega,by omega,fun _=>⟨ho,h6,h7⟩⟩
theorem own_num {k n:Int} (hk:k=2\/k=3) (hc:zaI k n true=0):ownC (.mk k n [] [])=0:=by
 simp only [ownC]
 rw [yg (by omega),yg (by omega),yf hk,yf ⟨by trivial,by trivial⟩]
 exact hc
theorem own_ref {n:Int} (h1:1<=n) (h2:n<=4096):ownC (.mk 8 n [] [])=0:=by simp [ownC,h1,h2]
theorem word_ok {w:List UInt8} {v:PV} (h:zee w=some v):zaX v=0/\zaJ v=1:=by
 unfold zee at h
 split at h
 ·cases h;decide
 ·split at h
  ·cases h;decide
  ·split at h
   ·cases h;decide
   ·cases h
theorem nameV_ok {w o:List UInt8} (h:zgM w=some o):¬(127<o.length\/(0:UInt8)∈o):=by
 unfold zgM at h
 split at h
 ·cases h
 ·split at h
  ·cases h
  ·rename_i hn
   cases h
   exact hn
theorem tokV_ok (yo:Bool) (c:UInt8) (t:List UInt8) (h:(tokV yo c t).1=0):tkOk (tokV yo c t).2.1:=by
 unfold tokV at h |-
 split
 ·rename_i q0
  rw [yf q0] at h
  try simp only at h |-
  split
  ·rename_i q1;rw [yf q1] at h;cases h
  ·rename_i q1
   rw [yg q1] at h
   split
   ·rename_i q2
    rw [yf q2] at h
    have hc:=parseV_check _ h
    try simp only at hc
    have hk:(za4 ((c::t).takeWhile isRg)).1=2\/(za4 ((c::t).takeWhile isRg)).1=3:=by
     unfold zaI at hc
     split at hc
     ·rename_i hq
      rcases hq.2 with hq|hq
      ·exact .inl hq.1
      ·exact .inr hq.1
     ·cases hc
    refine tk1 rfl ?_ ?_ ?_
    ·exact own_num hk hc
    ·show (za4 _).1≠6;omega
    ·show (za4 _).1≠7;omega
   ·exact (by first|exact tkn 0 rfl (by decide) (by decide)|exact tkn 2 rfl (by decide) (by decide)|exact tkn 3 rfl (by decide) (by decide)|exact tkn 4 rfl (by decide) (by decide)|exact tkn 5 rfl (by decide) (by decide)|exact tkn 6 rfl (by decide) (by decide))
 ·rename_i q0
  rw [yg q0] at h
  split
  ·exact (by first|exact tkn 0 rfl (by decide) (by decide)|exact tkn 2 rfl (by decide) (by decide)|exact tkn 3 rfl (by decide) (by decide)|exact tkn 4 rfl (by decide) (by decide)|exact tkn 5 rfl (by decide) (by decide)|exact tkn 6 rfl (by decide) (by decide))
  ·rename_i q1
   rw [yg q1] at h
   split
   ·exact (by first|exact tkn 0 rfl (by decide) (by decide)|exact tkn 2 rfl (by decide) (by decide)|exact tkn 3 rfl (by decide) (by decide)|exact tkn 4 rfl (by decide) (by decide)|exact tkn 5 rfl (by decide) (by decide)|exact tkn 6 rfl (by decide) (by decide))
   ·rename_i q2
    rw [yg q2] at h
    split
    ·split
     ·exact (by first|exact tkn 0 rfl (by decide) (by decide)|exact tkn 2 rfl (by decide) (by decide)|exact tkn 3 rfl (by decide) (by decide)|exact tkn 4 rfl (by decide) (by decide)|exact tkn 5 rfl (by decide) (by decide)|exact tkn 6 rfl (by decide) (by decide))
     ·split
      ·exact (by first|exact tkn 0 rfl (by decide) (by decide)|exact tkn 2 rfl (by decide) (by decide)|exact tkn 3 rfl (by decide) (by decide)|exact tkn 4 rfl (by decide) (by decide)|exact tkn 5 rfl (by decide) (by decide)|exact tkn 6 rfl (by decide) (by decide))
      ·simp only
       split
       ·exact tk1 rfl (by show ownC (.mk 4 0 _ [])=0;simp [ownC]) (by show (4:Int)≠6;decide) (by show (4:Int)≠7;decide)
       ·split
        ·exact (by first|exact tkn 0 rfl (by decide) (by decide)|exact tkn 2 rfl (by decide) (by decide)|exact tkn 3 rfl (by decide) (by decide)|exact tkn 4 rfl (by decide) (by decide)|exact tkn 5 rfl (by decide) (by decide)|exact tkn 6 rfl (by decide) (by decide))
        ·exact (by first|exact tkn 0 rfl (by decide) (by decide)|exact tkn 2 rfl (by decide) (by decide)|exact tkn 3 rfl (by decide) (by decide)|exact tkn 4 rfl (by decide) (by decide)|exact tkn 5 rfl (by decide) (by decide)|exact tkn 6 rfl (by decide) (by decide))
    ·rename_i q3
     rw [yg q3] at h
     split
     ·split
      ·exact (by first|exact tkn 0 rfl (by decide) (by decide)|exact tkn 2 rfl (by decide) (by decide)|exact tkn 3 rfl (by decide) (by decide)|exact tkn 4 rfl (by decide) (by decide)|exact tkn 5 rfl (by decide) (by decide)|exact tkn 6 rfl (by decide) (by decide))
      ·split
       ·exact (by first|exact tkn 0 rfl (by decide) (by decide)|exact tkn 2 rfl (by decide) (by decide)|exact tkn 3 rfl (by decide) (by decide)|exact tkn 4 rfl (by decide) (by decide)|exact tkn 5 rfl (by decide) (by decide)|exact tkn 6 rfl (by decide) (by decide))
       ·exact (by first|exact tkn 0 rfl (by decide) (by decide)|exact tkn 2 rfl (by decide) (by decide)|exact tkn 3 rfl (by decide) (by decide)|exact tkn 4 rfl (by decide) (by decide)|exact tkn 5 rfl (by decide) (by decide)|exact tkn 6 rfl (by decide) (by decide))
     ·rename_i q4
      rw [yg q4] at h
      split
      ·split
       ·exact (by first|exact tkn 0 rfl (by decide) (by decide)|exact tkn 2 rfl (by decide) (by decide)|exact tkn 3 rfl (by decide) (by decide)|exact tkn 4 rfl (by decide) (by decide)|exact tkn 5 rfl (by decide) (by decide)|exact tkn 6 rfl (by decide) (by decide))
       ·exact tk1 rfl (by show ownC (.mk 4 0 _ [])=0;simp [ownC]) (by show (4:Int)≠6;decide) (by show (4:Int)≠7;decide)
      ·rename_i q5
       rw [yg q5] at h
       split
       ·simp only
        split
        ·exact (by first|exact tkn 0 rfl (by decide) (by decide)|exact tkn 2 rfl (by decide) (by decide)|exact tkn 3 rfl (by decide) (by decide)|exact tkn 4 rfl (by decide) (by decide)|exact tkn 5 rfl (by decide) (by decide)|exact tkn 6 rfl (by decide) (by decide))
        ·split
         ·exact (by first|exact tkn 0 rfl (by decide) (by decide)|exact tkn 2 rfl (by decide) (by decide)|exact tkn 3 rfl (by decide) (by decide)|exact tkn 4 rfl (by decide) (by decide)|exact tkn 5 rfl (by decide) (by decide)|exact tkn 6 rfl (by decide) (by decide))
         ·rename_i o ho
          have hn:=nameV_ok ho
          exact tk1 rfl (by show ownC (.mk 5 0 o [])=0;simp only [ownC];simp [hn]) (by show (5:Int)≠6;decide) (by show (5:Int)≠7;decide)
       ·exact (by first|exact tkn 0 rfl (by decide) (by decide)|exact tkn 2 rfl (by decide) (by decide)|exact tkn 3 rfl (by decide) (by decide)|exact tkn 4 rfl (by decide) (by decide)|exact tkn 5 rfl (by decide) (by decide)|exact tkn 6 rfl (by decide) (by decide))
theorem zdj {bs:List UInt8} {k:Int} (yo:Bool) (h:0<=k) (h2:k<=bs.length):tkOk (zah bs k yo).1:=by
 rw [zer yo h h2]
 cases hd:bs.drop (za8 bs k) with
 | nil=>rw [zeZ yo hd];exact (by first|exact tkn 0 rfl (by decide) (by decide)|exact tkn 2 rfl (by decide) (by decide)|exact tkn 3 rfl (by decide) (by decide)|exact tkn 4 rfl (by decide) (by decide)|exact tkn 5 rfl (by decide) (by decide)|exact tkn 6 rfl (by decide) (by decide))
 | cons c t =>
  rw [zdr yo hd]
  split
  ·rename_i h0;exact tokV_ok yo c t h0
  ·exact (by first|exact tkn 0 rfl (by decide) (by decide)|exact tkn 2 rfl (by decide) (by decide)|exact tkn 3 rfl (by decide) (by decide)|exact tkn 4 rfl (by decide) (by decide)|exact tkn 5 rfl (by decide) (by decide)|exact tkn 6 rfl (by decide) (by decide))
theorem zcv {bs:List UInt8} {k:Int} {yo:Bool} (h:0<=k) (h2:k<=bs.length) (he:(zah bs k yo).2.2.2=0) (hk:(zah bs k yo).1.kind≠0):k<(zah bs k yo).2.2.1:=by
 have:=(nextV_places yo h h2).2.2 he hk
 omega
theorem refV_ok {bs:List UInt8} {yo:Bool} {k:Int} (h:0<=k) (h2:k<=bs.length) {v:PV} (hv:ownC v=0) (hk:v.kind≠6/\v.kind≠7) (he:(refV bs yo k v).2.2=0) :
  ownC (refV bs yo k v).1=0/\(refV bs yo k v).1.kind≠6/\(refV bs yo k v).1.kind≠7/\k<=(refV bs yo k v).2.1/\(refV bs yo k v).2.1<=bs.length:=by
 obtain ⟨g1,g2⟩:=zaP yo h h2
 unfold refV at he |-
 simp only at he |-
 split
 ·exact ⟨hv,hk.1,hk.2,Int.le_refl _,h2⟩
 ·rename_i q1
  simp only [yg q1] at he
  obtain ⟨r1,r2⟩:=zaP (bs:=bs) (k:=(zah bs k yo).2.2.1) yo (by omega) g2
  split
  ·exact ⟨hv,hk.1,hk.2,Int.le_refl _,h2⟩
  ·rename_i q2
   simp only [yg q2] at he
   split
   ·rename_i q3;rw [yf q3] at he;cases he
   ·rename_i q3
    refine ⟨?_,by show (8:Int)≠6;decide,by show (8:Int)≠7;decide,Int.le_trans g1 r1,r2⟩
    exact own_ref (by omega) (by omega)
theorem singleV_ok {bs:List UInt8} {yo:Bool} {st:List Lv} {k:Int} (h:0<=k) (h2:k<=bs.length) {t:Tk} (ht:tkOk t) (hk:t.kind=1\/t.kind=6) (he:(zaw bs yo st k t).2.2=0) :
  zaX (zaw bs yo st k t).1=0/\zaJ (zaw bs yo st k t).1=1/\(topW st=true->(zaw bs yo st k t).1.kind=5)/\k<=(zaw bs yo st k t).2.1/\(zaw bs yo st k t).2.1<=bs.length:=by
 unfold zaw at he |-
 split
 ·rename_i q;rw [yf q] at he;cases he
 ·rename_i q
  rw [yg q] at he
  split
  ·rename_i q6
   rw [yf q6] at he
   have hw:¬topW st=true:=fun e=>q ⟨e,.inl (by rw [q6];decide)⟩
   cases hwd:zee t.s with
   | none=>rw [hwd] at he;cases he
   | some v =>
    obtain ⟨z1,z2⟩:=word_ok hwd
    exact ⟨z1,z2,fun e=>absurd e hw,Int.le_refl _,h2⟩
  ·rename_i q6
   rw [yg q6] at he
   have h1:t.kind=1:=hk.resolve_right q6
   obtain ⟨o1,o2,o3⟩:=ht.2.2 h1
   split
   ·rename_i qw
    rw [yf qw] at he
    obtain ⟨r1,r2,r3,r4,r5⟩:=refV_ok (yo:=yo) h h2 o1 ⟨o2,o3⟩ he
    have hw:¬topW st=true:=fun e=>q ⟨e,.inr (by
     unfold zaD at qw
     simp only [Bool.and_eq_true,beq_iff_eq] at qw
     rw [qw.2];decide)⟩
    exact ⟨first_own r1 r2 r3,tk_depth r2 r3,fun e=>absurd e hw,r4,r5⟩
   ·refine ⟨first_own o1 o2 o3,tk_depth o2 o3,fun e=>?_,Int.le_refl _,h2⟩
    exact Decidable.byContradiction fun hn=>q ⟨e,.inr hn⟩
theorem lv_snoc {d:Nat} {v:Lv} {x:PV} (h:lvOk d v) (hx:zaX x=0/\zaJ x+d<=64) (hw:zcw v=true->x.kind=5):lvOk d { v with l:=v.l++[x] }:=by
 refine ⟨fun y hy=>?_,fun hd=>zfT _ _ (h.2 hd) fun h2=>hw (by unfold zcw;rw [show v.dict=true from hd];simp [h2])⟩
 rcases List.mem_append.1 hy with hy|hy
 ·exact h.1 y hy
 ·rw [List.mem_singleton.1 hy];exact hx
theorem end_ok {st:List Lv} {dict:Bool} (h:stOk st) (he:(zbm st dict).2.2=0) :
  ∃v rest,st=v::rest/\(zbm st dict).2.1=rest/\stOk rest/\zaX (zbm st dict).1=0/\zaJ (zbm st dict).1+rest.length<=64/\topW rest=false:=by
 cases st with
 | nil=>cases he
 | cons v rest =>
  obtain ⟨h1,h2,hw0,h3⟩:=h
  have hd:∀l:List PV,(∀x∈l,x∈v.l)->1+zbc l+rest.length<=64:=fun l hl=>by
   have:=zfU (n:=63-rest.length) l fun x hx=>by have:=(h1.1 x (hl x hx)).2;omega
   omega
  refine ⟨v,rest,rfl,?_⟩
  unfold zbm at he |-
  simp only at he |-
  by_cases q1:v.dict≠dict\/(dict=true/\zcw v=false)
  ·rw [yf q1] at he;cases he
  ·rw [yg q1] at he |-
   by_cases q2:dict=false
   ·rw [yf q2]
    refine ⟨rfl,h3,?_,?_,hw0⟩
    ·simp only [zaX]
     rw [yg (by simp [ownC]),yf (by simp)]
     exact zdx _ fun x hx=>(h1.1 x hx).1
    ·simp only [zaJ]
     rw [yf (by simp)]
     exact hd v.l fun _ h=>h
   ·rw [yg q2] at he |-
    have hdt:dict=true:=by cases dict;exact absurd rfl q2;rfl
    have hvd:v.dict=true:=Decidable.byContradiction fun hn=>q1 (.inl (by rw [hdt];exact hn))
    have hw:zcw v=true:=Decidable.byContradiction fun hn=>q1 (.inr ⟨hdt,by simpa using hn⟩)
    have hev:v.l.length % 2=0:=by
     unfold zcw at hw
     simp only [Bool.and_eq_true,beq_iff_eq] at hw
     exact hw.2
    cases hp:zco v.l with
    | none=>rw [hp] at he;cases he
    | some l2 =>
     obtain ⟨p1,p2,p3,p4⟩:=pairs_ok hev (h1.2 hvd) hp
     refine ⟨rfl,h3,?_,?_,hw0⟩
     ·simp only [zaX]
      rw [yg (by simp [ownC,p1,p2,p3]),yf (by simp)]
      exact zdx _ fun x hx=>(h1.1 x (p4 x hx)).1
     ·simp only [zaJ]
      rw [yf (by simp)]
      exact hd l2 p4
theorem valO_may {bs:List UInt8} {yo:Bool}:∀(g:Nat) (st:List Lv) (k:Int) (V:PV×Int×Int),0<=k->k<=bs.length->stOk st->valO bs yo g st k=some V ->
  (V.2.2=0->zaX V.1=0/\zaJ V.1<=64/\k<V.2.1/\V.2.1<=bs.length)/\(V.2.2≠0->V.1=PV.none/\V.2.1=0)
 | 0,_,_,_,_,_,_,hV=>by cases hV
 | g+1,st,k,V,h,h2,hs,hV=>by
  unfold valO at hV
  simp only at hV
  by_cases he:(zah bs k yo).2.2.2≠0
  ·rw [yf he] at hV
   cases hV
   exact ⟨fun e=>absurd e he,fun _=>⟨rfl,rfl⟩⟩
  ·rw [yg he] at hV
   have he0:(zah bs k yo).2.2.2=0:=by simpa using he
   obtain ⟨g1,g2⟩:=zaP yo h h2
   have hok:=zdj yo h h2
   have hfar:=zcv h h2 he0
   generalize (zah bs k yo).2.2.1=to at *
   generalize (zah bs k yo).1=t at *
   have key:∀v st2 at2 e2,zaL bs yo st to t=(v,st2,at2,e2)->e2=0->t.kind≠0/\to<=at2/\at2<=bs.length/\stOk st2/\(∀x,v=some x->zaX x=0/\zaJ x+st2.length<=64/\(topW st2=true->x.kind=5)):=by
    intro v st2 at2 e2 hq e20
    subst e20
    unfold zaL at hq
    by_cases k0:t.kind=0
    ·rw [yf k0] at hq;cases hq
    ·rw [yg k0] at hq
     refine ⟨k0,?_⟩
     by_cases k24:t.kind=2\/t.kind=4
     ·rw [yf k24] at hq
      simp only [Prod.mk.injEq] at hq
      obtain ⟨rfl,q2,rfl,q4⟩:=hq
      refine ⟨Int.le_refl _,g2,?_,fun x hx=>by cases hx⟩
      unfold zbH at q2 q4
      by_cases b1:topW st=true
      ·rw [yf b1] at q4;cases q4
      ·rw [yg b1] at q2 q4
       by_cases b2:64<=st.length
       ·rw [yf b2] at q4;cases q4
       ·rw [yg b2] at q2
        rw [<-q2]
        exact ⟨⟨fun x hx=>(by cases hx),fun _=>rfl⟩,by omega,by simpa using b1,hs⟩
     ·rw [yg k24] at hq
      by_cases k35:t.kind=3\/t.kind=5
      ·rw [yf k35] at hq
       simp only at hq
       by_cases b1:(zbm st (t.kind==5)).2.2=0
       ·rw [yf b1] at hq
        simp only [Prod.mk.injEq] at hq
        obtain ⟨rfl,rfl,rfl,-⟩:=hq
        obtain ⟨v0,rest,e1,e2,e3,e4,e5,e6⟩:=end_ok hs b1
        refine ⟨Int.le_refl _,g2,by rw [e2];exact e3,fun x hx=>?_⟩
        cases hx
        rw [e2]
        exact ⟨e4,e5,fun hw=>by rw [e6] at hw;cases hw⟩
       ·rw [yg b1] at hq
        simp only [Prod.mk.injEq] at hq
        exact absurd hq.2.2.2 b1
      ·rw [yg k35] at hq
       simp only at hq
       have hk16:t.kind=1\/t.kind=6:=by have:=hok.1;have:=hok.2.1;omega
       by_cases b1:(zaw bs yo st to t).2.2≠0
       ·rw [yf b1] at hq
        simp only [Prod.mk.injEq] at hq
        exact absurd hq.2.2.2 b1
       ·rw [yg b1] at hq
        by_cases b2:64<=st.length
        ·rw [yf b2] at hq
         simp only [Prod.mk.injEq] at hq
         exact absurd hq.2.2.2 (by decide)
        ·rw [yg b2] at hq
         simp only [Prod.mk.injEq] at hq
         obtain ⟨rfl,rfl,rfl,-⟩:=hq
         obtain ⟨s1,s2,s3,s4,s5⟩:=singleV_ok (yo:=yo) (st:=st) (by omega) g2 hok hk16 (by simpa using b1)
         exact ⟨s4,s5,hs,fun x hx=>by cases hx;exact ⟨s1,by omega,s3⟩⟩
   generalize hZ:zaL bs yo st to t=Z at hV key
   obtain ⟨v,st2,at2,e2⟩:=Z
   simp only at hV
   by_cases h0:e2≠0
   ·rw [yf h0] at hV
    cases hV
    exact ⟨fun e=>absurd e h0,fun _=>⟨rfl,rfl⟩⟩
   ·rw [yg h0] at hV
    obtain ⟨k1,k2,k3,k4,k5⟩:=key v st2 at2 e2 rfl (by simpa using h0)
    have hkt:=hfar k1
    have hrec:∀st3,stOk st3->valO bs yo g st3 at2=some V->(V.2.2=0->zaX V.1=0/\zaJ V.1<=64/\k<V.2.1/\V.2.1<=bs.length)/\(V.2.2≠0->V.1=PV.none/\V.2.1=0):=fun st3 hs3 hv3=>by
     obtain ⟨p1,p2⟩:=valO_may g st3 at2 V (by omega) k3 hs3 hv3
     exact ⟨fun e=>by obtain ⟨z1,z2,z3,z4⟩:=p1 e;exact ⟨z1,z2,by omega,z4⟩,p2⟩
    cases v with
    | none=>exact hrec st2 k4 hV
    | some x =>
     obtain ⟨x1,x2,x3⟩:=k5 x rfl
     cases st2 with
     | nil =>
      cases hV
      exact ⟨fun _=>⟨x1,by simpa using x2,by show k<at2;omega,k3⟩,fun e=>absurd rfl e⟩
     | cons top rest =>
      obtain ⟨z1,z2,zw,z3⟩:=k4
      exact hrec ({ top with l:=top.l++[x] }::rest) (show lvOk _ _/\_/\_/\_ from ⟨lv_snoc z1 ⟨x1,by simp only [List.length_cons] at x2;omega⟩ (fun hw=>x3 hw),z2,zw,z3⟩) hV
theorem refV_at {bs:List UInt8} {yo:Bool} {k:Int} (h:0<=k) (h2:k<=bs.length) (v:PV):k<=(refV bs yo k v).2.1/\(refV bs yo k v).2.1<=bs.length:=by
 obtain ⟨g1,g2⟩:=zaP yo h h2
 unfold refV
 simp only
 split
 ·exact ⟨Int.le_refl _,h2⟩
 ·obtain ⟨r1,r2⟩:=zaP (bs:=bs) (k:=(zah bs k yo).2.2.1) yo (by omega) g2
  split
  ·exact ⟨Int.le_refl _,h2⟩
  ·split
   ·exact ⟨Int.le_refl _,h2⟩
   ·exact ⟨Int.le_trans g1 r1,r2⟩
theorem singleV_at {bs:List UInt8} {yo:Bool} {k:Int} (h:0<=k) (h2:k<=bs.length) (st:List Lv) (t:Tk):k<=(zaw bs yo st k t).2.1/\(zaw bs yo st k t).2.1<=bs.length:=by
 unfold zaw
 split
 ·exact ⟨Int.le_refl _,h2⟩
 ·split
  ·split
   ·exact ⟨Int.le_refl _,h2⟩
   ·exact ⟨Int.le_refl _,h2⟩
  ·split
   ·exact refV_at h h2 _
   ·exact ⟨Int.le_refl _,h2⟩
theorem stepV_at {bs:List UInt8} {yo:Bool} {k:Int} (h:0<=k) (h2:k<=bs.length) (st:List Lv) (t:Tk):k<=(zaL bs yo st k t).2.2.1/\(zaL bs yo st k t).2.2.1<=bs.length:=by
 unfold zaL
 split
 ·exact ⟨Int.le_refl _,h2⟩
 ·split
  ·exact ⟨Int.le_refl _,h2⟩
  ·split
   ·simp only
    split
    ·exact ⟨Int.le_refl _,h2⟩
    ·exact ⟨Int.le_refl _,h2⟩
   ·simp only
    have:=singleV_at (yo:=yo) h h2 st t
    split
    ·exact this
    ·split
     ·exact this
     ·exact this
theorem zfW {bs:List UInt8} {yo:Bool} {k:Int} {st:List Lv} {t:Tk} (h:(zaL bs yo st k t).2.2.2=0):t.kind≠0:=by
 intro e
 unfold zaL at h
 rw [yf e] at h
 cases h
theorem zew (bs:List UInt8) (yo:Bool):∀(g:Nat) (st:List Lv) (k:Int),0<=k->k<=bs.length->((bs.length:Int)-k).toNat<g->∃V,valO bs yo g st k=some V
 | 0,_,_,_,_,h=>by omega
 | g+1,st,k,h,h2,hg=>by
  unfold valO
  simp only
  by_cases he:(zah bs k yo).2.2.2≠0
  ·rw [yf he];exact ⟨_,rfl⟩
  ·rw [yg he]
   have he0:(zah bs k yo).2.2.2=0:=by simpa using he
   obtain ⟨g1,g2⟩:=zaP yo h h2
   have hfar:=zcv h h2 he0
   generalize (zah bs k yo).2.2.1=to at *
   generalize (zah bs k yo).1=t at *
   obtain ⟨s1,s2⟩:=stepV_at (bs:=bs) (yo:=yo) (k:=to) (by omega) g2 st t
   have sk:=zfW (bs:=bs) (yo:=yo) (k:=to) (st:=st) (t:=t)
   generalize zaL bs yo st to t=Z at *
   obtain ⟨v,st2,at2,e2⟩:=Z
   simp only at s1 s2 sk |-
   by_cases h0:e2≠0
   ·rw [yf h0];exact ⟨_,rfl⟩
   ·rw [yg h0]
    have hk:=hfar (sk (by simpa using h0))
    cases v with
    | none=>exact zew bs yo g st2 at2 (by omega) s2 (by omega)
    | some x =>
     cases st2 with
     | nil=>exact ⟨_,rfl⟩
     | cons top rest=>exact zew bs yo g _ at2 (by omega) s2 (by omega)
def insK (x:PV×PV):List (PV×PV)->List (PV×PV)
 | []=>[x]
 | y::l=>if sLt x.1.s y.1.s then x::y::l else y::insK x l
def hasK (s:List UInt8) (l:List (PV×PV)):Bool:=l.any fun y=>y.1.s==s
def repK (x:PV×PV):List (PV×PV)->List (PV×PV)
 | []=>[]
 | y::l=>if y.1.s=x.1.s then (y.1,x.2)::l else y::repK x l
def putK (x:PV×PV) (l:List (PV×PV)):List (PV×PV):=if hasK x.1.s l then repK x l else insK x l
def docS:List (PV×PV)->List (PV×PV)->Bool->List (PV×PV)×Bool
 | [],l,tw=>(l,tw)
 | x::p,l,tw=>docS p (putK x l) (tw||hasK x.1.s l)
def ascP:List (PV×PV)->Prop
 | []=>True
 | x::l=>(∀y∈l,sLt x.1.s y.1.s=true)/\ascP l
theorem sLt_tr:∀a b c:List UInt8,sLt a b=true->sLt b c=true->sLt a c=true
 | [],[],_,h,_=>by simp [sLt] at h
 | [],_::_,[],_,h=>by simp [sLt] at h
 | [],_::_,_::_,_,_=>by simp [sLt]
 | _::_,[],_,h,_=>by simp [sLt] at h
 | _::_,_::_,[],_,h=>by simp [sLt] at h
 | x::a,y::b,z::c,h1,h2=>by
  simp only [sLt] at h1 h2 |-
  by_cases p1:x.toNat<y.toNat
  ·by_cases p2:y.toNat<z.toNat
   ·rw [yf (by omega)]
   ·rw [yg p2] at h2
    by_cases p3:z.toNat<y.toNat
    ·rw [yf p3] at h2;cases h2
    ·rw [yf (by omega)]
  ·rw [yg p1] at h1
   by_cases p4:y.toNat<x.toNat
   ·rw [yf p4] at h1;cases h1
   ·rw [yg p4] at h1
    by_cases p2:y.toNat<z.toNat
    ·rw [yf (by omega)]
    ·rw [yg p2] at h2
     by_cases p3:z.toNat<y.toNat
     ·rw [yf p3] at h2;cases h2
     ·rw [yg p3] at h2
      rw [yg (by omega),yg (by omega)]
      exact sLt_tr a b c h1 h2
theorem zfc:∀a:List UInt8,sLt a a=false
 | []=>rfl
 | x::a=>by simp only [sLt];rw [yg (by omega),yg (by omega)];exact zfc a
theorem zgr {x y:PV×PV}:∀l,y∈insK x l↔y=x\/y∈l
 | []=>by simp [insK]
 | z::l=>by
  simp only [insK]
  split
  ·simp
  ·rw [List.mem_cons,zgr l,List.mem_cons]
   constructor
   ·rintro (h|h|h)
    ·exact .inr (.inl h)
    ·exact .inl h
    ·exact .inr (.inr h)
   ·rintro (h|h|h)
    ·exact .inr (.inl h)
    ·exact .inl h
    ·exact .inr (.inr h)
theorem insK_perm (x:PV×PV):∀l,(insK x l).Perm (x::l)
 | []=>List.Perm.refl _
 | y::l=>by
  simp only [insK]
  split
  ·exact List.Perm.refl _
  ·exact ((insK_perm x l).cons y).trans (List.Perm.swap x y l)
theorem insK_asc {x:PV×PV}:∀l,ascP l->hasK x.1.s l=false->ascP (insK x l)
 | [],_,_=>⟨fun y hy=>(by cases hy),trivial⟩
 | y::l,h,hh=>by
  simp only [hasK,List.any_cons,Bool.or_eq_false_iff,ye] at hh
  simp only [insK]
  split
  ·rename_i hlt
   refine ⟨fun z hz=>?_,h⟩
   rcases List.mem_cons.1 hz with rfl|hz
   ·exact hlt
   ·exact sLt_tr _ _ _ hlt (h.1 z hz)
  ·rename_i hlt
   have hyx:sLt y.1.s x.1.s=true:=zci _ _ (by simpa using hlt) (fun e=>hh.1 e.symm)
   refine ⟨fun z hz=>?_,insK_asc l h.2 hh.2⟩
   rcases (zgr l).1 hz with rfl|hz
   ·exact hyx
   ·exact h.1 z hz
theorem zfK:∀l m:List (PV×PV),ascP l->ascP m->l.Perm m->l=m
 | [],m,_,_,h=>(List.Perm.nil_eq h).symm▸rfl
 | x::l,[],_,_,h=>absurd h.length_eq (by simp)
 | x::l,y::m,hl,hm,h=>by
  have hxy:x=y:=by
   have h1:x∈y::m:=h.mem_iff.1 (List.mem_cons_self)
   have h2:y∈x::l:=h.mem_iff.2 (List.mem_cons_self)
   rcases List.mem_cons.1 h1 with h1|h1
   ·exact h1
   ·rcases List.mem_cons.1 h2 with h2|h2
    ·exact h2.symm
    ·have a1:=hm.1 x h1
     have a2:=hl.1 y h2
     rw [sLt_as _ _ a1] at a2
     cases a2
  subst hxy
  rw [zfK l m hl.2 hm.2 ((List.perm_cons x).1 h)]
theorem zdw:∀l:List (PV×PV),zfm l->zbB l=false->ascP l
 | [],_,_=>trivial
 | [x],_,_=>⟨fun y hy=>(by cases hy),trivial⟩
 | x::y::l,h,ht=>by
  simp only [zbB,Bool.or_eq_false_iff,ye] at ht
  have hr:=zdw (y::l) h.2 ht.2
  have hxy:sLt x.1.s y.1.s=true:=zci _ _ h.1 (fun e=>ht.1 e.symm)
  refine ⟨fun z hz=>?_,hr⟩
  rcases List.mem_cons.1 hz with rfl|hz
  ·exact hxy
  ·exact sLt_tr _ _ _ hxy (hr.1 z hz)
def zeQ:List (PV×PV)->Prop
 | []=>True
 | x::l=>(∀y∈l,y.1.s≠x.1.s)/\zeQ l
theorem zbG {l m:List (PV×PV)} (h:l.Perm m):zeQ l->zeQ m:=by
 induction h with
 | nil=>exact id
 | cons x h ih=>exact fun ⟨h1,h2⟩=>⟨fun y hy=>h1 y (h.mem_iff.2 hy),ih h2⟩
 | swap x y l =>
  rintro ⟨h1,h2,h3⟩
  refine ⟨fun z hz=>?_,fun z hz=>h1 z (List.mem_cons_of_mem _ hz),h3⟩
  rcases List.mem_cons.1 hz with rfl|hz
  ·exact fun e=>h1 x (List.mem_cons_self) e.symm
  ·exact h2 z hz
 | trans _ _ ih1 ih2=>exact fun h=>ih2 (ih1 h)
theorem zeA:∀l:List (PV×PV),zbB l=true->¬zeQ l
 | [],h,_=>by cases h
 | [_],h,_=>by cases h
 | x::y::l,h,hn=>by
  simp only [zbB,Bool.or_eq_true,beq_iff_eq] at h
  rcases h with h|h
  ·exact hn.1 y (List.mem_cons_self) h.symm
  ·exact zeA (y::l) h hn.2
theorem ze9:∀l:List (PV×PV),ascP l->zeQ l
 | [],_=>trivial
 | x::l,h=>⟨fun y hy e=>(by have:=h.1 y hy;rw [e,zfc] at this;cases this),ze9 l h.2⟩
theorem hasK_no {s:List UInt8} {l:List (PV×PV)}:hasK s l=false↔∀y∈l,y.1.s≠s:=by
 unfold hasK
 rw [List.any_eq_false]
 simp
theorem docS_tw:∀p l,(docS p l true).2=true
 | [],_=>rfl
 | x::p,l=>by simp only [docS,Bool.true_or];exact docS_tw p _
theorem docS_is:∀(p l:List (PV×PV)),ascP l->((docS p l false).2=false->ascP (docS p l false).1/\(docS p l false).1.Perm (l++p))/\((docS p l false).2=true->¬zeQ (l++p))
 | [],l,h=>⟨fun _=>⟨h,by simp [docS]⟩,fun e=>by cases e⟩
 | x::p,l,h=>by
  simp only [docS,Bool.false_or]
  cases hk:hasK x.1.s l with
  | true =>
   refine ⟨fun e=>?_,fun _ hn=>?_⟩
   ·rw [docS_tw] at e;cases e
   ·have h1:=zbG (List.perm_middle) hn
    have h2:hasK x.1.s l=false:=hasK_no.2 fun y hy=>h1.1 y (List.mem_append_left _ hy)
    rw [hk] at h2;cases h2
  | false =>
   have e1:putK x l=insK x l:=by unfold putK;rw [hk];rfl
   rw [e1]
   obtain ⟨r1,r2⟩:=docS_is p (insK x l) (insK_asc l h hk)
   have hp:(insK x l++p).Perm (l++x::p):=((insK_perm x l).append_right p).trans (List.perm_middle.symm)
   exact ⟨fun e=>⟨(r1 e).1,(r1 e).2.trans hp⟩,fun e hn=>r2 e (zbG hp.symm hn)⟩
theorem pairs_doc (l:List PV):zco l=if (docS (twoV l) [] false).2=true then none else some (zbV (docS (twoV l) [] false).1):=by
 obtain ⟨r1,r2⟩:=docS_is (twoV l) [] trivial
 have hp:=zeI (twoV l)
 unfold zco
 cases hd:(docS (twoV l) [] false).2 with
 | true =>
  have hn:=r2 hd
  have ht:zbB (zdi (twoV l))=true:=by
   cases h:zbB (zdi (twoV l)) with
   | true=>rfl
   | false=>exact absurd (zbG hp (ze9 _ (zdw _ (zcy _) h))) hn
  rw [yf ht,yf rfl]
 | false =>
  obtain ⟨q1,q2⟩:=r1 hd
  have hn:zeQ (twoV l):=zbG q2 (ze9 _ q1)
  have ht:zbB (zdi (twoV l))=false:=by
   cases h:zbB (zdi (twoV l)) with
   | false=>rfl
   | true=>exact absurd (zbG hp.symm hn) (zeA _ h)
  rw [yg (by simp [ht]),yg (by simp)]
  rw [zfK _ _ (zdw _ (zcy _) ht) q1 (hp.trans q2.symm)]
theorem docS_snoc:∀(p:List (PV×PV)) (x:PV×PV) (l:List (PV×PV)) (tw:Bool),docS (p++[x]) l tw=(putK x (docS p l tw).1,(docS p l tw).2||hasK x.1.s (docS p l tw).1)
 | [],_,_,_=>rfl
 | y::p,x,l,tw=>by simp only [List.cons_append,docS];exact docS_snoc p x _ _
theorem two_snoc:∀(l:List PV) (a b:PV),l.length % 2=0->twoV (l++[a,b])=twoV l++[(a,b)]
 | [],_,_,_=>rfl
 | [_],_,_,h=>by simp at h
 | x::y::l,a,b,h=>by simp only [List.cons_append,twoV];rw [two_snoc l a b (by simp at h;omega)]
def refD (bs:List UInt8) (yo:Bool) (at_ n:Int):Bool×Int×Int :=
 let g:=zah bs at_ yo
 if g.2.2.2=6 then (false,0,6) else
 if g.2.2.2≠0\/zaD g.1=false then (false,0,0) else
 let r:=zah bs g.2.2.1 yo
 if r.2.2.2=6 then (false,0,6) else
 if r.2.2.2≠0\/r.1.kind≠6\/r.1.s≠[82] then (false,0,0) else
 if n<1\/4096<n\/g.1.vn≠0 then (false,0,26) else (true,r.2.2.1,0)
def zb9 (bs:List UInt8) (yo:Bool) (t:Tk) (tto:Int):PV×Int×Int :=
 if t.kind=6 then (match zee t.s with|none=>(PV.none,0,11)|some v=>(v,tto,0))
 else if zaD t=true then
  (if (refD bs yo tto t.vn).2.2≠0 then (PV.none,0,(refD bs yo tto t.vn).2.2) else if (refD bs yo tto t.vn).1=true then (.mk 8 t.vn [] [],(refD bs yo tto t.vn).2.1,0) else (tkV t,tto,0))
 else (tkV t,tto,0)
def arrD (bs:List UInt8) (yo:Bool) (f:Tk->Int->PV×Int×Int):Nat->List PV->Int->PV×Int×Int
 | 0,_,_=>(PV.none,0,10)
 | r+1,l,at_ =>
  if (zah bs at_ yo).2.2.2≠0 then (PV.none,0,(zah bs at_ yo).2.2.2)
  else if (zah bs at_ yo).1.kind=3 then (.mk 6 0 [] l,(zah bs at_ yo).2.2.1,0)
  else if (f (zah bs at_ yo).1 (zah bs at_ yo).2.2.1).2.2≠0 then (PV.none,0,(f (zah bs at_ yo).1 (zah bs at_ yo).2.2.1).2.2)
  else arrD bs yo f r (l++[(f (zah bs at_ yo).1 (zah bs at_ yo).2.2.1).1]) (f (zah bs at_ yo).1 (zah bs at_ yo).2.2.1).2.1
def zgJ (bs:List UInt8) (yo:Bool) (f:Tk->Int->PV×Int×Int) (d:Nat):Nat->List (PV×PV)->Bool->Int->PV×Int×Int
 | 0,_,_,_=>(PV.none,0,10)
 | r+1,ps,tw,at_ =>
  let t:=zah bs at_ yo
  if t.2.2.2≠0 then (PV.none,0,t.2.2.2)
  else if t.1.kind=5 then (if tw=true then (PV.none,0,16) else (.mk 7 0 [] (zbV ps),t.2.2.1,0))
  else if t.1.kind=0 then (PV.none,0,10)
  else if t.1.kind≠1\/t.1.vk≠5 then (PV.none,0,11)
  else if d=0 then (PV.none,0,15)
  else
   let u:=zah bs t.2.2.1 yo
   if u.2.2.2≠0 then (PV.none,0,u.2.2.2)
   else if (f u.1 u.2.2.1).2.2≠0 then (PV.none,0,(f u.1 u.2.2.1).2.2)
   else zgJ bs yo f d r (putK (.mk 5 0 t.1.vs [],(f u.1 u.2.2.1).1) ps) (tw||hasK t.1.vs ps) (f u.1 u.2.2.1).2.1
def vlD (bs:List UInt8) (yo:Bool):Nat->Tk->Int->PV×Int×Int
 | 0,t,tto =>
  if t.kind=0 then (PV.none,0,10) else if t.kind=2\/t.kind=4 then (PV.none,0,15) else if t.kind=3\/t.kind=5 then (PV.none,0,11)
  else if (zb9 bs yo t tto).2.2≠0 then (PV.none,0,(zb9 bs yo t tto).2.2) else (PV.none,0,15)
 | d+1,t,tto =>
  if t.kind=0 then (PV.none,0,10)
  else if t.kind=2 then arrD bs yo (vlD bs yo d) (bs.length+1) [] tto
  else if t.kind=4 then zgJ bs yo (vlD bs yo d) d (bs.length+1) [] false tto
  else if t.kind=3\/t.kind=5 then (PV.none,0,11)
  else zb9 bs yo t tto
def zcr (bs:List UInt8) (yo:Bool) (at_:Int):PV×Int×Int :=
 if (zah bs at_ yo).2.2.2≠0 then (PV.none,0,(zah bs at_ yo).2.2.2) else vlD bs yo 64 (zah bs at_ yo).1 (zah bs at_ yo).2.2.1
theorem refD_is {bs:List UInt8} {yo:Bool} {k:Int} (v:PV) (n:Int) (hn:v.n=n) :
  (refV bs yo k v).2.2=(refD bs yo k n).2.2/\((refD bs yo k n).2.2=0->(refV bs yo k v).1=(if (refD bs yo k n).1=true then .mk 8 n [] [] else v)/\(refV bs yo k v).2.1=if (refD bs yo k n).1=true then (refD bs yo k n).2.1 else k):=by
 unfold refV refD
 simp only
 by_cases g6:(zah bs k yo).2.2.2=6
 ·rw [yf (.inl (by rw [g6];decide)),yf g6,g6]
  exact ⟨rfl,fun h=>by cases h⟩
 ·rw [yg g6]
  by_cases hc:(zah bs k yo).2.2.2≠0\/zaD (zah bs k yo).1=false
  ·rw [yf hc,yf hc]
   have:moreV (zah bs k yo).2.2.2=0:=yg g6
   exact ⟨this,fun _=>⟨rfl,rfl⟩⟩
  ·rw [yg hc,yg hc]
   by_cases r6:(zah bs (zah bs k yo).2.2.1 yo).2.2.2=6
   ·rw [yf (.inl (by rw [r6];decide)),yf r6,r6]
    exact ⟨rfl,fun h=>by cases h⟩
   ·rw [yg r6]
    by_cases hd:(zah bs (zah bs k yo).2.2.1 yo).2.2.2≠0\/(zah bs (zah bs k yo).2.2.1 yo).1.kind≠6\/(zah bs (zah bs k yo).2.2.1 yo).1.s≠[82]
    ·rw [yf hd,yf hd]
     have:moreV (zah bs (zah bs k yo).2.2.1 yo).2.2.2=0:=yg r6
     exact ⟨this,fun _=>⟨rfl,rfl⟩⟩
    ·rw [yg hd,yg hd,hn]
     by_cases he:n<1\/4096<n\/(zah bs k yo).1.vn≠0
     ·rw [yf he,yf he]
      exact ⟨rfl,fun h=>by cases h⟩
     ·rw [yg he,yg he]
      exact ⟨rfl,fun _=>⟨rfl,rfl⟩⟩
theorem singD_is {bs:List UInt8} {yo:Bool} {st:List Lv} {tto:Int} {t:Tk} (hw:topW st=false) :
  ((zb9 bs yo t tto).2.2=0->zaw bs yo st tto t=((zb9 bs yo t tto).1,(zb9 bs yo t tto).2.1,0))/\((zb9 bs yo t tto).2.2≠0->(zaw bs yo st tto t).2.2=(zb9 bs yo t tto).2.2):=by
 have hs:zaw bs yo st tto t=(if t.kind=6 then (match zee t.s with|none=>(PV.none,tto,11)|some v=>(v,tto,0)) else if zaD t=true then refV bs yo tto (tkV t) else (tkV t,tto,0)):=by
  unfold zaw
  rw [yg (by rintro ⟨h,-⟩;rw [hw] at h;cases h)]
  all_goals (try rfl)
 rw [hs]
 unfold zb9
 by_cases k6:t.kind=6
 ·simp only [yf k6]
  cases hq:zee t.s with
  | none=>exact ⟨fun h=>(by cases h),fun _=>rfl⟩
  | some v=>exact ⟨fun _=>rfl,fun h=>absurd rfl h⟩
 ·simp only [yg k6]
  by_cases hq:zaD t=true
  ·simp only [yf hq]
   obtain ⟨r1,r2⟩:=refD_is (bs:=bs) (yo:=yo) (k:=tto) (tkV t) t.vn rfl
   by_cases he:(refD bs yo tto t.vn).2.2≠0
   ·simp only [yf he]
    exact ⟨fun h=>absurd h he,fun _=>r1⟩
   ·simp only [yg he]
    have he0:(refD bs yo tto t.vn).2.2=0:=by simpa using he
    obtain ⟨p1,p2⟩:=r2 he0
    rw [he0] at r1
    by_cases hb:(refD bs yo tto t.vn).1=true
    ·simp only [yf hb] at p1 p2 |-
     exact ⟨fun _=>Prod.ext p1 (Prod.ext p2 r1),fun h=>absurd rfl h⟩
    ·simp only [yg hb] at p1 p2 |-
     exact ⟨fun _=>Prod.ext p1 (Prod.ext p2 r1),fun h=>absurd rfl h⟩
  ·simp only [yg hq]
   exact ⟨fun _=>by trivial,fun h=>absurd rfl h⟩
def contO (bs:List UInt8) (yo:Bool) (g:Nat) (st:List Lv) (at_:Int) (x:PV):Option (PV×Int×Int) :=
 match st with
 | []=>some (x,at_,0)
 | top::rest=>valO bs yo g ({ top with l:=top.l++[x] }::rest) at_
def aftO (bs:List UInt8) (yo:Bool) (g:Nat) (st:List Lv) (tto:Int) (t:Tk):Option (PV×Int×Int) :=
 if (zaL bs yo st tto t).2.2.2≠0 then some (PV.none,0,(zaL bs yo st tto t).2.2.2) else
 match (zaL bs yo st tto t).1 with
 | none=>valO bs yo g (zaL bs yo st tto t).2.1 (zaL bs yo st tto t).2.2.1
 | some x=>contO bs yo g (zaL bs yo st tto t).2.1 (zaL bs yo st tto t).2.2.1 x
theorem zdO (bs:List UInt8) (yo:Bool) (g:Nat) (st:List Lv) (k:Int):valO bs yo (g+1) st k=if (zah bs k yo).2.2.2≠0 then some (PV.none,0,(zah bs k yo).2.2.2) else aftO bs yo g st (zah bs k yo).2.2.1 (zah bs k yo).1:=by
 unfold aftO contO
 rw [valO]
 all_goals (try rfl)
def AnsD (bs:List UInt8) (yo:Bool) (st:List Lv) (R:PV×Int×Int) (P:PV×Int×Int->Prop):Prop :=
 (R.2.2=0->∀V,(∃g,contO bs yo g st R.2.1 R.1=some V)->P V)/\(R.2.2≠0->P (PV.none,0,R.2.2))
theorem zbz {bs:List UInt8} {yo:Bool} {st:List Lv} {tto:Int} {t:Tk} {e:Int} (h:(zaL bs yo st tto t).2.2.2=e) (he:e≠0):∃g,aftO bs yo g st tto t=some (PV.none,0,e):=by
 refine ⟨0,?_⟩
 unfold aftO
 rw [yf (by rw [h];exact he),h]
theorem zel {bs:List UInt8} {yo:Bool} {st st2:List Lv} {tto at2:Int} {t:Tk} (h:zaL bs yo st tto t=(none,st2,at2,0)) (g:Nat):aftO bs yo g st tto t=valO bs yo g st2 at2:=by
 unfold aftO
 rw [h]
 simp only
 rw [yg (by decide)]
theorem zej {bs:List UInt8} {yo:Bool} {st st2:List Lv} {tto at2:Int} {t:Tk} {x:PV} (h:zaL bs yo st tto t=(some x,st2,at2,0)) (g:Nat):aftO bs yo g st tto t=contO bs yo g st2 at2 x:=by
 unfold aftO
 rw [h]
 simp only
 rw [yg (by decide)]
theorem sing_ans {bs:List UInt8} {yo:Bool} {st:List Lv} {tto:Int} {t:Tk} (hw:topW st=false) (hk:t.kind=1\/t.kind=6) :
  (st.length<64->AnsD bs yo st (zb9 bs yo t tto) fun V=>∃g,aftO bs yo g st tto t=some V) /\
  (64<=st.length->∃g,aftO bs yo g st tto t=some (PV.none,0,if (zb9 bs yo t tto).2.2≠0 then (zb9 bs yo t tto).2.2 else 15)):=by
 obtain ⟨s1,s2⟩:=singD_is (bs:=bs) (yo:=yo) (tto:=tto) (t:=t) hw
 have hst:zaL bs yo st tto t=(if (zaw bs yo st tto t).2.2≠0 then (none,st,(zaw bs yo st tto t).2.1,(zaw bs yo st tto t).2.2) else if 64<=st.length then (none,st,(zaw bs yo st tto t).2.1,15) else (some (zaw bs yo st tto t).1,st,(zaw bs yo st tto t).2.1,0)):=by
  unfold zaL
  rw [yg (by omega),yg (by omega),yg (by omega)]
 by_cases he:(zb9 bs yo t tto).2.2=0
 ·have h1:=s1 he
  rw [h1] at hst
  simp only at hst
  rw [yg (by decide)] at hst
  refine ⟨fun hl=>⟨fun _ V hV=>?_,fun h=>absurd he h⟩,fun hl=>?_⟩
  ·rw [yg (by omega)] at hst
   obtain ⟨g,hg⟩:=hV
   exact ⟨g,by rw [zej hst];exact hg⟩
  ·rw [yf hl] at hst
   rw [yg (by simp [he])]
   exact zbz (by rw [hst]) (by decide)
 ·have h1:=s2 he
  rw [yf (by rw [h1];exact he)] at hst
  refine ⟨fun hl=>⟨fun h=>absurd h he,fun _=>?_⟩,fun hl=>?_⟩
  ·exact zbz (by rw [hst];exact h1) he
  ·rw [yf he]
   exact zbz (by rw [hst];exact h1) he
def ValAt (bs:List UInt8) (yo:Bool) (d:Nat):Prop:=∀(st:List Lv) (t:Tk) (tto:Int),st.length+d=64->topW st=false->(t.kind=3->∀v rest,st=v::rest->v.dict=true)->tkOk t->0<=tto->tto<=bs.length ->
 AnsD bs yo st (vlD bs yo d t tto) (fun V=>∃g,aftO bs yo g st tto t=some V)/\((vlD bs yo d t tto).2.2=0->t.kind≠0/\tto<=(vlD bs yo d t tto).2.1/\(vlD bs yo d t tto).2.1<=bs.length)
theorem arr_ans {bs:List UInt8} {yo:Bool} {d:Nat} (hf:ValAt bs yo d) (st:List Lv) (hd:st.length+1+d=64):∀(r:Nat) (l:List PV) (k:Int),0<=k->k<=bs.length->((bs.length:Int)-k).toNat<r ->
  AnsD bs yo st (arrD bs yo (vlD bs yo d) r l k) (fun V=>∃g,valO bs yo g ({ dict:=false,l:=l }::st) k=some V)/\((arrD bs yo (vlD bs yo d) r l k).2.2=0->k<=(arrD bs yo (vlD bs yo d) r l k).2.1/\(arrD bs yo (vlD bs yo d) r l k).2.1<=bs.length)
 | 0,_,_,_,_,h=>by omega
 | r+1,l,k,h,h2,hr=>by
  obtain ⟨g1,g2⟩:=zaP yo h h2
  have hok:=zdj yo h h2
  have hfar:=zcv (yo:=yo) h h2
  have hval:=zdO bs yo
  simp only [arrD]
  by_cases he:(zah bs k yo).2.2.2≠0
  ·rw [yf he]
   exact ⟨⟨fun h=>absurd h he,fun _=>⟨1,by rw [hval,yf he]⟩⟩,fun h=>absurd h he⟩
  ·rw [yg he]
   have he0:(zah bs k yo).2.2.2=0:=by simpa using he
   have hfar2:=hfar he0
   have hgo:∀V,(∃g,aftO bs yo g ({ dict:=false,l:=l }::st) (zah bs k yo).2.2.1 (zah bs k yo).1=some V)->∃g,valO bs yo g ({ dict:=false,l:=l }::st) k=some V:=fun V ⟨g,hg⟩=>⟨g+1,by rw [hval,yg he];exact hg⟩
   generalize (zah bs k yo).2.2.1=tto at *
   generalize (zah bs k yo).1=t at *
   by_cases k3:t.kind=3
   ·rw [yf k3]
    have hst:zaL bs yo ({ dict:=false,l:=l }::st) tto t=(some (.mk 6 0 [] l),st,tto,0):=by
     unfold zaL
     rw [yg (by omega),yg (by omega),yf (.inl k3)]
     have hk:(t.kind==5)=false:=by rw [ye];omega
     rw [hk]
     simp [zbm]
    exact ⟨⟨fun _ V ⟨g,hg⟩=>hgo V ⟨g,by rw [zej hst];exact hg⟩,fun h=>absurd rfl h⟩,fun _=>⟨g1,g2⟩⟩
   ·rw [yg k3]
    obtain ⟨f1,f2⟩:=hf ({ dict:=false,l:=l }::st) t tto (by simpa using hd) rfl (fun h=>absurd h k3) hok (by omega) g2
    by_cases hv:(vlD bs yo d t tto).2.2≠0
    ·rw [yf hv]
     exact ⟨⟨fun h=>absurd h hv,fun _=>hgo _ (f1.2 hv)⟩,fun h=>absurd h hv⟩
    ·rw [yg hv]
     have hv0:(vlD bs yo d t tto).2.2=0:=by simpa using hv
     obtain ⟨q1,q2,q3⟩:=f2 hv0
     have hlt:=hfar2 q1
     obtain ⟨r1,r2⟩:=arr_ans hf st hd r (l++[(vlD bs yo d t tto).1]) (vlD bs yo d t tto).2.1 (by omega) q3 (by omega)
     exact ⟨⟨fun h V hV=>hgo V (f1.1 hv0 V (r1.1 h V hV)),fun h=>hgo _ (f1.1 hv0 _ (r1.2 h))⟩,fun h=>⟨by have:=(r2 h).1;omega,(r2 h).2⟩⟩
theorem name_tk {t:Tk} (ht:tkOk t) (h1:t.kind=1) (h5:t.vk=5):tkV t=.mk 5 0 t.vs []:=by
 obtain ⟨o1,-,-⟩:=ht.2.2 h1
 have hn:t.vn=0:=by
  unfold tkV at o1
  rw [h5] at o1
  simp only [ownC] at o1
  rw [yg (by decide),yg (by decide),yg (by decide),yg (by decide),yf (by trivial)] at o1
  split at o1
  ·cases o1
  ·split at o1
   ·rename_i h;exact h.1
   ·cases o1
 unfold tkV
 rw [h5,hn]
theorem step_name {bs:List UInt8} {yo:Bool} {st:List Lv} {tto:Int} {t:Tk} (ht:tkOk t) (h1:t.kind=1) (h5:t.vk=5):zaL bs yo st tto t=if 64<=st.length then (none,st,tto,15) else (some (.mk 5 0 t.vs []),st,tto,0):=by
 have hs:zaw bs yo st tto t=(tkV t,tto,0):=by
  unfold zaw
  rw [yg (by rintro ⟨-,h|h⟩;exact h h1;exact h h5),yg (by omega),yg (by unfold zaD;rw [h5];simp)]
 unfold zaL
 rw [yg (by omega),yg (by omega),yg (by omega),hs,name_tk ht h1 h5]
 simp only
 rw [yg (by decide)]
theorem dict_ans {bs:List UInt8} {yo:Bool} {d:Nat} (hf:ValAt bs yo d) (st:List Lv) (hd:st.length+1+d=64):∀(r:Nat) (l:List PV) (k:Int),l.length % 2=0->0<=k->k<=bs.length->((bs.length:Int)-k).toNat<r ->
  AnsD bs yo st (zgJ bs yo (vlD bs yo d) d r (docS (twoV l) [] false).1 (docS (twoV l) [] false).2 k) (fun V=>∃g,valO bs yo g ({ dict:=true,l:=l }::st) k=some V)/\((zgJ bs yo (vlD bs yo d) d r (docS (twoV l) [] false).1 (docS (twoV l) [] false).2 k).2.2=0->k<=(zgJ bs yo (vlD bs yo d) d r (docS (twoV l) [] false).1 (docS (twoV l) [] false).2 k).2.1/\(zgJ bs yo (vlD bs yo d) d r (docS (twoV l) [] false).1 (docS (twoV l) [] false).2 k).2.1<=bs.length)
 | 0,_,_,_,_,_,h=>by omega
 | r+1,l,k,hl,h,h2,hr=>by
  obtain ⟨g1,g2⟩:=zaP yo h h2
  have hok:=zdj yo h h2
  have hfar:=zcv (yo:=yo) h h2
  have hval:=zdO bs yo
  have hpd:=pairs_doc l
  have htw:=docS_snoc (twoV l)
  have hts:=two_snoc l
  simp only [zgJ]
  generalize hps:docS (twoV l) [] false=D at *
  obtain ⟨ps,tw⟩:=D
  simp only at hpd |-
  by_cases he:(zah bs k yo).2.2.2≠0
  ·rw [yf he]
   exact ⟨⟨fun h=>absurd h he,fun _=>⟨1,by rw [hval,yf he]⟩⟩,fun h=>absurd h he⟩
  ·rw [yg he]
   have he0:(zah bs k yo).2.2.2=0:=by simpa using he
   have hfar2:=hfar he0
   have hgo:∀V,(∃g,aftO bs yo g ({ dict:=true,l:=l }::st) (zah bs k yo).2.2.1 (zah bs k yo).1=some V)->∃g,valO bs yo g ({ dict:=true,l:=l }::st) k=some V:=fun V ⟨g,hg⟩=>⟨g+1,by rw [hval,yg he];exact hg⟩
   generalize (zah bs k yo).2.2.1=tto at *
   generalize (zah bs k yo).1=t at *
   have hw:topW ({ dict:=true,l:=l }::st)=true:=by simp [topW,zcw,hl]
   by_cases k5:t.kind=5
   ·rw [yf k5]
    have hst:zaL bs yo ({ dict:=true,l:=l }::st) tto t=if tw=true then (none,{ dict:=true,l:=l }::st,tto,16) else (some (.mk 7 0 [] (zbV ps)),st,tto,0):=by
     have hww:zcw { dict:=true,l:=l }=true:=hw
     unfold zaL
     rw [yg (by omega),yg (by omega),yf (.inr k5)]
     have hk:(t.kind==5)=true:=by rw [beq_iff_eq];exact k5
     rw [hk]
     cases tw with
     | true=>simp [zbm,hww,hpd]
     | false=>simp [zbm,hww,hpd]
    cases tw with
    | true =>
     rw [yf rfl] at hst |-
     exact ⟨⟨fun h=>(by cases h),fun _=>hgo _ (zbz (by rw [hst]) (by decide))⟩,fun h=>by cases h⟩
    | false =>
     rw [yg (by decide)] at hst |-
     exact ⟨⟨fun _ V ⟨g,hg⟩=>hgo V ⟨g,by rw [zej hst];exact hg⟩,fun h=>absurd rfl h⟩,fun _=>⟨g1,g2⟩⟩
   ·rw [yg k5]
    by_cases k0:t.kind=0
    ·rw [yf k0]
     exact ⟨⟨fun h=>(by cases h),fun _=>hgo _ (zbz (by unfold zaL;rw [yf k0]) (by decide))⟩,fun h=>by cases h⟩
    ·rw [yg k0]
     by_cases kv:t.kind≠1\/t.vk≠5
     ·rw [yf kv]
      have hst:(zaL bs yo ({ dict:=true,l:=l }::st) tto t).2.2.2=11:=by
       unfold zaL
       rw [yg k0]
       by_cases k24:t.kind=2\/t.kind=4
       ·rw [yf k24]
        unfold zbH
        rw [yf hw]
       ·rw [yg k24]
        by_cases k3:t.kind=3
        ·rw [yf (.inl k3)]
         have hk:(t.kind==5)=false:=by rw [ye];omega
         rw [hk]
         simp [zbm]
        ·rw [yg (by omega)]
         have hs:zaw bs yo ({ dict:=true,l:=l }::st) tto t=(PV.none,tto,11):=by
          unfold zaw
          rw [yf ⟨hw,kv⟩]
         rw [hs]
         rfl
      exact ⟨⟨fun h=>(by cases h),fun _=>hgo _ (zbz hst (by decide))⟩,fun h=>by cases h⟩
     ·rw [yg kv]
      have k1:t.kind=1:=Decidable.byContradiction fun h=>kv (.inl h)
      have v5:t.vk=5:=Decidable.byContradiction fun h=>kv (.inr h)
      have hst:=step_name (bs:=bs) (yo:=yo) (st:={ dict:=true,l:=l }::st) (tto:=tto) hok k1 v5
      by_cases d0:d=0
      ·rw [yf d0]
       rw [yf (by simp only [List.length_cons];omega)] at hst
       exact ⟨⟨fun h=>(by cases h),fun _=>hgo _ (zbz (by rw [hst]) (by decide))⟩,fun h=>by cases h⟩
      ·rw [yg d0]
       rw [yg (by simp only [List.length_cons];omega)] at hst
       have hlt:=hfar2 k0
       have hgo2:∀V,(∃g,valO bs yo g ({ dict:=true,l:=l++[.mk 5 0 t.vs []] }::st) tto=some V)->∃g,valO bs yo g ({ dict:=true,l:=l }::st) k=some V:=fun V ⟨g,hg⟩=>hgo V ⟨g,by rw [zej hst];exact hg⟩
       obtain ⟨u1,u2⟩:=zaP (bs:=bs) (k:=tto) yo (by omega) g2
       have uok:=zdj (bs:=bs) (k:=tto) yo (by omega) g2
       by_cases ue:(zah bs tto yo).2.2.2≠0
       ·rw [yf ue]
        exact ⟨⟨fun h=>absurd h ue,fun _=>hgo2 _ ⟨1,by rw [hval,yf ue]⟩⟩,fun h=>absurd h ue⟩
       ·rw [yg ue]
        have hgo3:∀V,(∃g,aftO bs yo g ({ dict:=true,l:=l++[.mk 5 0 t.vs []] }::st) (zah bs tto yo).2.2.1 (zah bs tto yo).1=some V)->∃g,valO bs yo g ({ dict:=true,l:=l }::st) k=some V:=fun V ⟨g,hg⟩=>hgo2 V ⟨g+1,by rw [hval,yg ue];exact hg⟩
        generalize (zah bs tto yo).2.2.1=uto at *
        generalize (zah bs tto yo).1=u at *
        obtain ⟨f1,f2⟩:=hf ({ dict:=true,l:=l++[.mk 5 0 t.vs []] }::st) u uto (by simpa using hd) (by simp [topW,zcw];omega) (fun _ v rest hv=>by cases hv;rfl) uok (by omega) u2
        by_cases hv:(vlD bs yo d u uto).2.2≠0
        ·rw [yf hv]
         exact ⟨⟨fun h=>absurd h hv,fun _=>hgo3 _ (f1.2 hv)⟩,fun h=>absurd h hv⟩
        ·rw [yg hv]
         have hv0:(vlD bs yo d u uto).2.2=0:=by simpa using hv
         obtain ⟨q1,q2,q3⟩:=f2 hv0
         obtain ⟨r1,r2⟩:=dict_ans hf st hd r (l++[.mk 5 0 t.vs [],(vlD bs yo d u uto).1]) (vlD bs yo d u uto).2.1 (by simp;omega) (by omega) q3 (by omega)
         rw [hts _ _ hl,htw,hps] at r1 r2
         have happ:∀x:PV,(l++[.mk 5 0 t.vs []])++[x]=l++[.mk 5 0 t.vs [],x]:=fun x=>by simp
         have hc:∀V,(∃g,valO bs yo g ({ dict:=true,l:=l++[.mk 5 0 t.vs [],(vlD bs yo d u uto).1] }::st) (vlD bs yo d u uto).2.1=some V)->∃g,contO bs yo g ({ dict:=true,l:=l++[.mk 5 0 t.vs []] }::st) (vlD bs yo d u uto).2.1 (vlD bs yo d u uto).1=some V:=fun V ⟨g,hg⟩=>⟨g,by show valO bs yo g ({ dict:=true,l:=(l++[.mk 5 0 t.vs []])++[_] }::st) _=_;rw [happ];exact hg⟩
         exact ⟨⟨fun h V hV=>hgo3 V (f1.1 hv0 V (hc V (r1.1 h V hV))),fun h=>hgo3 _ (f1.1 hv0 _ (hc _ (r1.2 h)))⟩,fun h=>⟨Int.le_trans (show k<=(vlD bs yo d u uto).2.1 by omega) (r2 h).1,(r2 h).2⟩⟩
theorem refD_at {bs:List UInt8} {yo:Bool} {k n:Int} (h:0<=k) (h2:k<=bs.length) (hb:(refD bs yo k n).1=true):k<=(refD bs yo k n).2.1/\(refD bs yo k n).2.1<=bs.length:=by
 obtain ⟨g1,g2⟩:=zaP yo h h2
 obtain ⟨r1,r2⟩:=zaP (bs:=bs) (k:=(zah bs k yo).2.2.1) yo (by omega) g2
 unfold refD at hb |-
 simp only at hb |-
 split at hb
 ·cases hb
 ·rename_i q1
  rw [yg q1]
  split at hb
  ·cases hb
  ·rename_i q2
   rw [yg q2]
   split at hb
   ·cases hb
   ·rename_i q3
    rw [yg q3]
    split at hb
    ·cases hb
    ·rename_i q4
     rw [yg q4]
     split at hb
     ·cases hb
     ·rename_i q5
      rw [yg q5]
      exact ⟨Int.le_trans g1 r1,r2⟩
theorem singD_at {bs:List UInt8} {yo:Bool} {k:Int} {t:Tk} (h:0<=k) (h2:k<=bs.length) (he:(zb9 bs yo t k).2.2=0):k<=(zb9 bs yo t k).2.1/\(zb9 bs yo t k).2.1<=bs.length:=by
 unfold zb9 at he |-
 split
 ·rename_i q
  rw [yf q] at he
  cases hw:zee t.s with
  | none=>rw [hw] at he;cases he
  | some v=>exact ⟨Int.le_refl _,h2⟩
 ·rename_i q
  rw [yg q] at he
  split
  ·rename_i q2
   rw [yf q2] at he
   split
   ·rename_i q3;rw [yf q3] at he;exact absurd he q3
   ·split
    ·rename_i q4;exact refD_at h h2 q4
    ·exact ⟨Int.le_refl _,h2⟩
  ·exact ⟨Int.le_refl _,h2⟩
theorem close_err {bs:List UInt8} {yo:Bool} {st:List Lv} {t:Tk} {tto:Int} (hw:topW st=false) (hn3:t.kind=3->∀v rest,st=v::rest->v.dict=true) (k:t.kind=3\/t.kind=5):(zaL bs yo st tto t).2.2.2=11:=by
 have he:(zbm st (t.kind==5)).2.2=11:=by
  cases st with
  | nil=>rfl
  | cons v rest =>
   unfold zbm
   simp only
   rw [yf]
   rcases k with k|k
   ·left
    have hk:(t.kind==5)=false:=by rw [ye];omega
    rw [hk,hn3 k v rest rfl]
    decide
   ·have hk:(t.kind==5)=true:=by rw [beq_iff_eq];exact k
    rw [hk]
    exact .inr ⟨rfl,hw⟩
 unfold zaL
 rw [yg (by omega),yg (by omega),yf k]
 simp only
 rw [yg (by rw [he];decide)]
 exact he
theorem val_ans {bs:List UInt8} {yo:Bool}:∀d,ValAt bs yo d
 | 0=>fun st t tto hd hw hn3 ht h h2=>by
  unfold vlD
  by_cases k0:t.kind=0
  ·rw [yf k0]
   exact ⟨⟨fun h=>(by cases h),fun _=>zbz (by unfold zaL;rw [yf k0]) (by decide)⟩,fun h=>by cases h⟩
  ·rw [yg k0]
   by_cases k24:t.kind=2\/t.kind=4
   ·rw [yf k24]
    exact ⟨⟨fun h=>(by cases h),fun _=>zbz (by unfold zaL zbH;rw [yg k0,yf k24,yg (by rw [hw];decide),yf (by omega)]) (by decide)⟩,fun h=>by cases h⟩
   ·rw [yg k24]
    by_cases k35:t.kind=3\/t.kind=5
    ·rw [yf k35]
     exact ⟨⟨fun h=>(by cases h),fun _=>zbz (close_err hw hn3 k35) (by decide)⟩,fun h=>by cases h⟩
    ·rw [yg k35]
     have hk:t.kind=1\/t.kind=6:=by have:=ht.1;have:=ht.2.1;omega
     have hs:=(sing_ans (bs:=bs) (yo:=yo) (tto:=tto) hw hk).2 (by omega)
     by_cases he:(zb9 bs yo t tto).2.2≠0
     ·rw [yf he] at hs |-
      exact ⟨⟨fun h=>absurd h he,fun _=>hs⟩,fun h=>absurd h he⟩
     ·rw [yg he] at hs |-
      exact ⟨⟨fun h=>(by cases h),fun _=>hs⟩,fun h=>by cases h⟩
 | d+1=>fun st t tto hd hw hn3 ht h h2=>by
  unfold vlD
  by_cases k0:t.kind=0
  ·rw [yf k0]
   exact ⟨⟨fun h=>(by cases h),fun _=>zbz (by unfold zaL;rw [yf k0]) (by decide)⟩,fun h=>by cases h⟩
  ·rw [yg k0]
   have hbeg:∀q:Bool,zbH st q=({ dict:=q,l:=[] }::st,0):=fun q=>by
    unfold zbH
    rw [yg (by rw [hw];decide),yg (by omega)]
   by_cases k2:t.kind=2
   ·rw [yf k2]
    have hst:zaL bs yo st tto t=(none,{ dict:=false,l:=[] }::st,tto,0):=by
     unfold zaL
     have hk:(t.kind==4)=false:=by rw [ye];omega
     rw [yg k0,yf (.inl k2),hk,hbeg]
    obtain ⟨r1,r2⟩:=arr_ans (val_ans (bs:=bs) (yo:=yo) d) st (by omega) (bs.length+1) [] tto h h2 (by omega)
    exact ⟨⟨fun h V hV=>by obtain ⟨g,hg⟩:=r1.1 h V hV;exact ⟨g,by rw [zel hst];exact hg⟩,fun h=>by obtain ⟨g,hg⟩:=r1.2 h;exact ⟨g,by rw [zel hst];exact hg⟩⟩,fun h=>⟨k0,r2 h⟩⟩
   ·rw [yg k2]
    by_cases k4:t.kind=4
    ·rw [yf k4]
     have hst:zaL bs yo st tto t=(none,{ dict:=true,l:=[] }::st,tto,0):=by
      unfold zaL
      have hk:(t.kind==4)=true:=by rw [beq_iff_eq];exact k4
      rw [yg k0,yf (.inr k4),hk,hbeg]
     obtain ⟨r1,r2⟩:=dict_ans (val_ans (bs:=bs) (yo:=yo) d) st (by omega) (bs.length+1) [] tto rfl h h2 (by omega)
     exact ⟨⟨fun h V hV=>by obtain ⟨g,hg⟩:=r1.1 h V hV;exact ⟨g,by rw [zel hst];exact hg⟩,fun h=>by obtain ⟨g,hg⟩:=r1.2 h;exact ⟨g,by rw [zel hst];exact hg⟩⟩,fun h=>⟨k0,r2 h⟩⟩
    ·rw [yg k4]
     by_cases k35:t.kind=3\/t.kind=5
     ·rw [yf k35]
      exact ⟨⟨fun h=>(by cases h),fun _=>zbz (close_err hw hn3 k35) (by decide)⟩,fun h=>by cases h⟩
     ·rw [yg k35]
      have hk:t.kind=1\/t.kind=6:=by have:=ht.1;have:=ht.2.1;omega
      exact ⟨(sing_ans (bs:=bs) (yo:=yo) (tto:=tto) hw hk).1 (by omega),fun he=>⟨k0,singD_at h h2 he⟩⟩
def ErrS (R:PV×Int×Int):Prop:=R.2.2≠0->R=(PV.none,0,R.2.2)
theorem sing_shape (bs:List UInt8) (yo:Bool) (t:Tk) (tto:Int):ErrS (zb9 bs yo t tto):=by
 unfold zb9 ErrS
 split
 ·split
  ·exact fun _=>rfl
  ·exact fun h=>absurd rfl h
 ·split
  ·split
   ·exact fun _=>rfl
   ·split
    ·exact fun h=>absurd rfl h
    ·exact fun h=>absurd rfl h
  ·exact fun h=>absurd rfl h
theorem arr_shape (bs:List UInt8) (yo:Bool) (f:Tk->Int->PV×Int×Int):∀r l k,ErrS (arrD bs yo f r l k)
 | 0,_,_=>fun _=>rfl
 | r+1,l,k=>by
  unfold ErrS
  simp only [arrD]
  split
  ·exact fun _=>rfl
  ·split
   ·exact fun h=>absurd rfl h
   ·split
    ·exact fun _=>rfl
    ·exact arr_shape bs yo f r _ _
theorem zfy (bs:List UInt8) (yo:Bool) (f:Tk->Int->PV×Int×Int) (d:Nat):∀r ps tw k,ErrS (zgJ bs yo f d r ps tw k)
 | 0,_,_,_=>fun _=>rfl
 | r+1,ps,tw,k=>by
  unfold ErrS
  simp only [zgJ]
  split
  ·exact fun _=>rfl
  ·split
   ·split
    ·exact fun _=>rfl
    ·exact fun h=>absurd rfl h
   ·split
    ·exact fun _=>rfl
    ·split
     ·exact fun _=>rfl
     ·split
      ·exact fun _=>rfl
      ·split
       ·exact fun _=>rfl
       ·split
        ·exact fun _=>rfl
        ·exact zfy bs yo f d r _ _ _
theorem vl_shape (bs:List UInt8) (yo:Bool) (d:Nat) (t:Tk) (tto:Int):ErrS (vlD bs yo d t tto):=by
 cases d with
 | zero =>
  unfold ErrS vlD
  split
  ·exact fun _=>rfl
  ·split
   ·exact fun _=>rfl
   ·split
    ·exact fun _=>rfl
    ·split
     ·exact fun _=>rfl
     ·exact fun _=>rfl
 | succ d =>
  unfold vlD
  split
  ·exact fun _=>rfl
  ·split
   ·exact arr_shape _ _ _ _ _ _
   ·split
    ·exact zfy _ _ _ _ _ _ _ _
    ·split
     ·exact fun _=>rfl
     ·exact sing_shape _ _ _ _
theorem wholeD_is {bs:List UInt8} {yo:Bool} {k:Int} (h:0<=k) (h2:k<=bs.length):∃g,valO bs yo g [] k=some (zcr bs yo k):=by
 obtain ⟨g1,g2⟩:=zaP yo h h2
 have hok:=zdj yo h h2
 unfold zcr
 by_cases he:(zah bs k yo).2.2.2≠0
 ·rw [yf he]
  exact ⟨1,by rw [zdO,yf he]⟩
 ·rw [yg he]
  obtain ⟨⟨a1,a2⟩,-⟩:=val_ans (bs:=bs) (yo:=yo) 64 [] (zah bs k yo).1 (zah bs k yo).2.2.1 rfl rfl (fun _ v rest hv=>by cases hv) hok (by omega) g2
  by_cases hv:(vlD bs yo 64 (zah bs k yo).1 (zah bs k yo).2.2.1).2.2=0
  ·obtain ⟨g,hg⟩:=a1 hv (vlD bs yo 64 (zah bs k yo).1 (zah bs k yo).2.2.1) ⟨0,by
    show some (_,_,(0:Int))=some _
    rw [<-hv]⟩
   exact ⟨g+1,by rw [zdO,yg he];exact hg⟩
  ·obtain ⟨g,hg⟩:=a2 hv
   refine ⟨g+1,?_⟩
   rw [zdO,yg he,hg]
   exact congrArg some (vl_shape bs yo 64 _ _ hv).symm
theorem ze2 {bs:List UInt8} {yo:Bool}:∀(g:Nat) (st:List Lv) (k:Int) (V:PV×Int×Int),valO bs yo g st k=some V->valO bs yo (g+1) st k=some V
 | 0,_,_,_,h=>by cases h
 | g+1,st,k,V,h=>by
  rw [zdO] at h |-
  by_cases he:(zah bs k yo).2.2.2≠0
  ·rw [yf he] at h |-;exact h
  ·rw [yg he] at h |-
   unfold aftO at h |-
   by_cases hs:(zaL bs yo st (zah bs k yo).2.2.1 (zah bs k yo).1).2.2.2≠0
   ·rw [yf hs] at h |-;exact h
   ·rw [yg hs] at h |-
    generalize zaL bs yo st (zah bs k yo).2.2.1 (zah bs k yo).1=Z at *
    obtain ⟨v,st2,at2,e2⟩:=Z
    cases v with
    | none=>exact ze2 g st2 at2 V h
    | some x =>
     cases st2 with
     | nil=>exact h
     | cons top rest=>exact ze2 g _ at2 V h
theorem zeP {bs:List UInt8} {yo:Bool} {g:Nat} {st:List Lv} {k:Int} {V:PV×Int×Int} (h:valO bs yo g st k=some V):∀j,valO bs yo (g+j) st k=some V
 | 0=>h
 | j+1=>ze2 _ _ _ _ (zeP h j)
theorem valO_one {bs:List UInt8} {yo:Bool} {g g2:Nat} {st:List Lv} {k:Int} {V V2:PV×Int×Int} (h:valO bs yo g st k=some V) (h2:valO bs yo g2 st k=some V2):V=V2:=by
 have a1:=zeP h g2
 have a2:=zeP h2 g
 rw [Nat.add_comm] at a2
 rw [a1] at a2
 exact Option.some.inj a2
theorem parse_doc {bs:List UInt8} {yo:Bool} {k:Int} (h:0<=k) (h2:k<=bs.length):valO bs yo (bs.length+2) [] k=some (zcr bs yo k):=by
 obtain ⟨V,hV⟩:=zew bs yo (bs.length+2) [] k h h2 (by omega)
 obtain ⟨g,hg⟩:=wholeD_is (yo:=yo) h h2
 rw [hV,valO_one hV hg]
structure Ent where
 at_:Int:=0
 gen:Int:=0
 used:Bool:=false
 deriving DecidableEq,Inhabited
structure Grp where
 first:Int
 es:List Ent
 deriving DecidableEq,Inhabited
structure Sec where
 gs:List Grp
 tr:PV
def Sec.none:Sec:=⟨[],PV.none⟩
theorem zcD (l:List UInt8):0<=(zaz l).1/\(zaz l).1<=2147483647:=by
 unfold zaz
 split
 ·exact ⟨by decide,by decide⟩
 ·split
  ·exact ⟨by decide,by decide⟩
  ·exact ⟨by show (0:Int)<=(valD l:Nat);omega,by show ((valD l:Nat):Int)<=2147483647;omega⟩
def zcL (bs:List UInt8) (k:Nat):Nat:=k+((bs.drop k).takeWhile isSp).length
def entS (s:List UInt8):Option Ent :=
 if (zaz (s.take 10)).2≠0\/(zaz ((s.drop 11).take 5)).2≠0\/65535<(zaz ((s.drop 11).take 5)).1\/s.getD 10 0≠32\/s.getD 16 0≠32\/(s.getD 17 0≠110/\s.getD 17 0≠102) \/
  (s.getD 18 0≠32/\s.getD 18 0≠10/\s.getD 18 0≠13) then none
 else some { at_:=(zaz (s.take 10)).1,gen:=(zaz ((s.drop 11).take 5)).1,used:=s.getD 17 0==110 }
def entV (bs:List UInt8) (yo:Bool) (k:Nat):Ent×Nat×Int :=
 if bs.length<zcL bs k+19 then ({},0,zbt yo)
 else match entS ((bs.drop (zcL bs k)).take 19) with
  | none=>({},0,20)
  | some x=>(x,zcL bs k+19,0)
def zcM (bs:List UInt8) (yo:Bool):Nat->Nat->List Ent->List Ent×Nat×Int
 | 0,k,l=>(l,k,0)
 | n+1,k,l=>if (entV bs yo k).2.2≠0 then ([],0,(entV bs yo k).2.2) else zcM bs yo n (entV bs yo k).2.1 (l++[(entV bs yo k).1])
def nxtV (bs:List UInt8) (yo:Bool) (k:Int):Tk×Int×Int×Int :=
 if (zah bs k yo).2.2.2=0/\(zah bs k yo).1.kind=0 then ((zah bs k yo).1,(zah bs k yo).2.1,(zah bs k yo).2.2.1,10) else zah bs k yo
def zfo (f n:Int):Bool:=decide (0<=f)&&decide (f<=4097)&&decide (0<=n)&&decide (n<=4097-f)
def zdX (t:Tk):Bool:=t.kind==6&&t.s==[116,114,97,105,108,101,114]
def zff (t:Tk):Bool:=t.kind==6&&t.s==[120,114,101,102]
def zbC (bs:List UInt8) (yo:Bool):Nat->List Grp->Int->List Grp×Int×Int
 | 0,_,_=>([],0,20)
 | g+1,gs,k =>
  let t:=nxtV bs yo k
  if t.2.2.2≠0 then ([],0,t.2.2.2)
  else if zdX t.1=true then (gs,t.2.2.1,0)
  else if zaD t.1=false then ([],0,20)
  else
   let u:=nxtV bs yo t.2.2.1
   if u.2.2.2≠0 then ([],0,u.2.2.2)
   else if zaD u.1=false\/gs.length=64\/zfo t.1.vn u.1.vn=false then ([],0,20)
   else
    let q:=zcM bs yo u.1.vn.toNat u.2.2.1.toNat []
    if q.2.2≠0 then ([],0,q.2.2) else zbC bs yo g (gs++[⟨t.1.vn,q.1⟩]) (q.2.1:Int)
def oneX (p:Tk->Bool) (V:Tk×Int×Int×Int):Int×Int :=
 if V.2.2.2≠0 then (0,V.2.2.2) else if V.1.kind=0 then (0,10) else if p V.1=false then (0,11) else (V.2.2.1,0)
def secV (bs:List UInt8) (yo:Bool) (k:Int):Sec×Int×Int :=
 let o:=oneX zff (zah bs k yo)
 if o.2≠0 then (Sec.none,0,o.2)
 else
  let g:=zbC bs yo 65 [] o.1
  if g.2.2≠0 then (Sec.none,0,g.2.2)
  else
   let v:=zcr bs yo g.2.1
   if v.2.2≠0 then (Sec.none,0,v.2.2) else if v.1.kind≠7 then (Sec.none,0,20) else (⟨g.1,v.1⟩,v.2.1,0)
def zbx:List Grp->Int->Option Ent
 | [],_=>none
 | g::gs,n=>if g.first<=n/\n-g.first<(g.es.length:Int) then some (g.es.getD (n-g.first).toNat {}) else zbx gs n
def zfe (o:Option Ent):Ent×Bool:=match o with|none=>({},false)|some e=>(e,true)
def zce (e:Ent):Bool:=decide (0<=e.at_)&&decide (e.at_<=2147483647)&&decide (0<=e.gen)&&decide (e.gen<=65535)
def entB (e:Ent):List UInt8:=padL e.at_.toNat 10++(32::(padL e.gen.toNat 5++[32,if e.used then 110 else 102,32]))
def entL (e:Ent):List UInt8:=entB e++[10]
theorem zba {e:Ent}:zce e=true↔0<=e.at_/\e.at_<=2147483647/\0<=e.gen/\e.gen<=65535:=by
 unfold zce;simp only [Bool.and_eq_true,decide_eq_true_eq];omega
def fN (key:List UInt8):List PV->Option Nat
 | []=>none
 | [x]=>if x.kind=5/\x.s=key then some 0 else none
 | x::_::l=>if x.kind=5/\x.s=key then some 0 else (fN key l).map (· + 2)
def zdF (v:PV) (key:List UInt8):Option Nat:=if v.kind=7 then fN key v.l else none
def getV (v:PV) (key:List UInt8):Option PV:=(zdF v key).map fun k=>v.l.getD (k+1) PV.none
def getP (o:Option PV):PV×Bool:=match o with|none=>(PV.none,false)|some v=>(v,true)
def kPrev:List UInt8:=[80,114,101,118]
def zcU:List UInt8:=[83,105,122,101]
def kRoot:List UInt8:=[82,111,111,116]
def zbU:List UInt8:=[115,116,97,114,116,120,114,101,102]
def zaQ (kn:List Bool) (a:Nat):Nat:=a+((kn.drop a).takeWhile id).length
theorem zeq {kn:List Bool} {a:Nat} (h:a<=kn.length):a<=zaQ kn a/\zaQ kn a<=kn.length:=by
 unfold zaQ
 have h1:((kn.drop a).takeWhile id).length<=(kn.drop a).length:=(List.takeWhile_sublist _).length_le
 rw [yj] at h1
 omega
def zc7 (w b:List UInt8):Nat->Option Nat
 | 0=>if (b.drop 0).take w.length=w then some 0 else none
 | k+1=>if (b.drop (k+1)).take w.length=w then some (k+1) else zc7 w b k
def zcN (w b:List UInt8):Option Nat:=if b.length<w.length then none else zc7 w b (b.length-w.length)
def za3 (bs:List UInt8) (kn:List Bool):Int×Int×Int :=
 if zaQ kn (bs.length-64)<bs.length then (0,(zaQ kn (bs.length-64):Int),6)
 else match zcN zbU (bs.drop (bs.length-64)) with
  | none=>(0,0,22)
  | some k =>
   let V:=zah (bs.drop (bs.length-64)) ((k:Int)+9) true
   if V.2.2.2≠0\/zaD V.1=false\/V.1.vn<0\/(bs.length:Int)<=V.1.vn then (0,0,22) else (V.1.vn,0,0)
def zcS (bs:List UInt8) (kn:List Bool) (a:Nat):Sec×Int×Int:=secV ((bs.drop a).take (zaQ kn a-a)) (zaQ kn a==bs.length) 0
def zcp (bs:List UInt8) (kn:List Bool):Nat->List Int->List Sec->Int->List Sec×Int×Int
 | 0,_,_,_=>([],0,21)
 | g+1,rd,l,a =>
  if a<0\/(bs.length:Int)<=a then ([],0,20)
  else if a∈rd\/32<=l.length then ([],0,21)
  else
   let s:=zcS bs kn a.toNat
   if s.2.2=6 then ([],(zaQ kn a.toNat:Int),6)
   else if s.2.2≠0 then ([],0,20)
   else match getV s.1.tr kPrev with
    | none=>(l++[s.1],0,0)
    | some v=>if v.kind≠2 then ([],0,20) else zcp bs kn g (rd++[a]) (l++[s.1]) v.n
def zbl:List Sec->Int->Int
 | [],_=>-1
 | s::l,n=>match zbx s.gs n with
  | none=>zbl l n
  | some e=>if e.used=true/\e.gen=0 then e.at_ else -1
structure Tab where
 ps:List Int:=[]
 root:Int:=0
def tabV (l:List Sec):Tab×Int :=
 match l with
 | []=>({},20)
 | s::_ =>
  let size:=(getP (getV s.tr zcU)).1
  let root:=(getP (getV s.tr kRoot)).1
  if size.kind≠2\/size.n<1\/4097<size.n then ({},20)
  else if root.kind≠8 then ({},23)
  else (⟨(List.range (size.n.toNat-1)).map fun (i:Nat)=>zbl l ((i:Int)+1),root.n⟩,0)
def loadV (bs:List UInt8) (kn:List Bool):Tab×Int×Int :=
 if (za3 bs kn).2.2≠0 then ({},(za3 bs kn).2.1,(za3 bs kn).2.2)
 else
  let q:=zcp bs kn 33 [] [] (za3 bs kn).1
  if q.2.2≠0 then ({},q.2.1,q.2.2) else ((tabV q.1).1,0,(tabV q.1).2)
def tabF (t:Tab) (n:Int):Int×Bool:=if n<1\/(t.ps.length:Int)<n\/t.ps.getD (n-1).toNat 0<0 then (0,false) else (t.ps.getD (n-1).toNat 0,true)
end Go.Proofs.YtfafdeemfeaedaaGreat
namespace Go.Proofs.YtfafdeemfeaedaaGreat
open Go.RowKit
def Row (w:World) (sz:Nat) (a:Option Addr) (n cap:Nat) (xs:List Value):Prop :=
 xs.length=n*sz/\n<=cap/\cap<=maxLen/\(a=none->cap=0) /\
  (0<n->∃b off,a=some ⟨b,off,none⟩/\b<w.heap.size/\∀j u,xs[j]?=some u->w.cell? ⟨b,off+j,none⟩=some u)
theorem cell?_keep {w w':World} (hb:Below w.heap.size w w') {a:Addr} {v:Value} (h:w.cell? a=some v):w'.cell? a=some v :=
 (hb.cell (World.block_lt_of_cell? w a h)).trans h
theorem Row.mono {w w':World} {sz:Nat} {a:Option Addr} {n cap:Nat} {xs:List Value} (h:Row w sz a n cap xs) (hb:Below w.heap.size w w'):Row w' sz a n cap xs:=by
 obtain ⟨h1,h2,h3,h4,h5⟩:=h
 refine ⟨h1,h2,h3,h4,fun hn=>?_⟩
 obtain ⟨b,off,ha,hlt,hc⟩:=h5 hn
 exact ⟨b,off,ha,Nat.lt_of_lt_of_le hlt hb.size,fun j u hj=>cell?_keep hb (hc j u hj)⟩
theorem Row.i64 {w:World} {sz:Nat} {a:Option Addr} {n cap:Nat} {xs:List Value} (h:Row w sz a n cap xs):(n:Int)<=9223372036854775807:=by
 have:=h.2.1;have:=h.2.2.1;unfold maxLen at this;omega
theorem Row.i64c {w:World} {sz:Nat} {a:Option Addr} {n cap:Nat} {xs:List Value} (h:Row w sz a n cap xs):(cap:Int)<=9223372036854775807:=by
 have:=h.2.2.1;unfold maxLen at this;omega
theorem Row.at {α:Type} {enc:α->Value} (d:α) {w:World} {a:Option Addr} {n cap:Nat} {l:List α} (h:Row w 1 a n cap (l.map enc)) (k:Nat) (hk:k<n) :
  ∃b off,a=some ⟨b,off,none⟩/\b<w.heap.size/\∀k,k<n->w.cell? ⟨b,off+k,none⟩=some (enc (l.getD k d)):=by
 obtain ⟨h1,h2,h3,h4,h5⟩:=h
 obtain ⟨b,off,rfl,hb,hc⟩:=h5 (by omega)
 refine ⟨b,off,rfl,hb,fun k hk=>hc k _ ?_⟩
 simp at h1 |-
 have:k<l.length:=by omega
 simp [this]
theorem Row.len1 {α:Type} {enc:α->Value} {w:World} {a:Option Addr} {n cap:Nat} {l:List α} (h:Row w 1 a n cap (l.map enc)):l.length=n:=by
 have:=h.1;simpa using this
theorem Row.nil (w:World) (sz:Nat):Row w sz none 0 0 []:=⟨by simp,ym _,by simp [maxLen],fun _=>rfl,fun h=>by omega⟩
theorem Row.of_owns {w:World} {base e sz:Nat} {v:Value} {n:Nat} {xs:List Value} (h:w.ownsRow base e sz v n xs) :
  ∃a cap,v=.slice a n cap/\Row w sz a n cap xs/\∀x,a=some x->base<=x.block:=by
 obtain ⟨h1,h2⟩:=h
 rcases h2 with ⟨rfl,rfl⟩|⟨g,cap,cur,rfl,hb,hg,hn,hm,hs,ht⟩
 ·have:xs=[]:=List.eq_nil_of_length_eq_zero (by simpa using h1)
  subst this
  exact ⟨none,0,rfl,Row.nil w sz,fun x hx=>by cases hx⟩
 ·refine ⟨some ⟨g,0,none⟩,cap,rfl,⟨h1,hn,hm,fun h=>(by cases h),fun _=>⟨g,0,rfl,(Array.getElem?_eq_some_iff.1 hg).1,fun j u hj=>?_⟩⟩,fun x hx=>by cases hx;exact hb⟩
  rw [Nat.zero_add,cell_of_row w g j cur e (0,0) hg]
  rw [<-ht,List.getElem?_take] at hj
  split at hj
  ·simpa using hj
  ·cases hj
theorem Row.of_own {w:World} {base e sz:Nat} {a:Option Addr} {n m cap:Nat} {xs:List Value} (h:w.ownsRow base e sz (.slice a n cap) m xs):n=m/\Row w sz a n cap xs:=by
 obtain ⟨a',cap',hv,hr,_⟩:=Row.of_owns h
 simp only [Value.slice.injEq] at hv
 obtain ⟨rfl,rfl,rfl⟩:=hv
 exact ⟨rfl,hr⟩
theorem zaH {w w':World} {base e sz:Nat} {v:Value} {n:Nat} {xs:List Value} (h:w.ownsRow base e sz v n xs) (hb:Below w.heap.size w w'):w'.ownsRow base e sz v n xs:=by
 obtain ⟨h1,h2⟩:=h
 refine ⟨h1,?_⟩
 rcases h2 with h2|⟨g,cap,cur,hv,hg,hh,r⟩
 ·exact .inl h2
 ·exact .inr ⟨g,cap,cur,hv,hg,by rw [hb.block g (Array.getElem?_eq_some_iff.1 hh).1];exact hh,r⟩
theorem za5 {w:World} {base base' e sz:Nat} {v:Value} {n:Nat} {xs:List Value} (h:w.ownsRow base e sz v n xs) (hb:base'<=base):w.ownsRow base' e sz v n xs:=by
 obtain ⟨h1,h2⟩:=h
 refine ⟨h1,?_⟩
 rcases h2 with h2|⟨g,cap,cur,hv,hg,r⟩
 ·exact .inl h2
 ·exact .inr ⟨g,cap,cur,hv,by omega,r⟩
theorem zaa {w w':World} (hb:Below w.heap.size w w') {b:Nat} {o:Obj} (h:w.heap[b]?=some o):w'.heap[b]?=some o:=by
 rw [hb.block b (Array.getElem?_eq_some_iff.1 h).1];exact h
structure zdM (P:Program) (t e:TypeId) (z:Value) (size bytes:Nat):Prop where
 und:P.underlying t=some (.slice e)
 info:(P.info? e).map (fun i=>(i.zero,i.size,i.bytes))=some (some z,size,bytes)
 cells:z.cells.size=size
 pos:0<size
theorem zav {k:IntKind} {a b:Int} (h:a=b):Ending.returned (.int k a)=.returned (.int k b):=by rw [h]
theorem zaY {a b:Bool} (h:a=b):Ending.returned (.bool a)=.returned (.bool b):=by rw [h]
theorem make_full {P:Program} {w:World} {ops:Array Oper} {rest:List Oper} {o:Oper} {a:Act} {Q:Exit->Act->World->Prop} {t e:TypeId} {z:Value} {size bytes:Nat} (T:zdM P t e z size bytes)
  (hg:o.guard=none) (l c:Operand) (hop:o.op=Op.makeSlice t l c)
  (kl kc:IntKind) (L C:Int) (n:Nat) (hl:a.eval l=.int kl L) (hc:a.eval c=.int kc C) (hL:L=(n:Int)) (hC:C=(n:Int)) (b2:bytes*n<=281474976710656) (b3:n<=maxLen)
  (hK:∀w',w'.ownsRow w.heap.size e size (.slice (some ⟨w.heap.size,0,none⟩) n n) n (madeCells z.cells (n*size)).toList->Below w.heap.size w w'->wpList P ops Q rest (a.put o.dst (.slice (some ⟨w.heap.size,0,none⟩) n n)) w') :
  wpList P ops Q (o::rest) a w:=by
 obtain ⟨i,hi,hz,hs,hb⟩:=info_parts T.info
 subst hb
 exact wpList_make_full w hg l c t hop w.heap.size e i z size T.und hi hz hs kl kc L C n hl hc hL hC b2 b3 (ym _)
  fun w' h1 h2=>hK w' h1 ((Below.refl _ _).grown h2 (ym _) (fun k hk=>by cases hk))
def fl (n:Nat) (enc:Nat->Value):List Value:=(List.range n).map enc
theorem zbI (n:Nat) (enc:Nat->Value):(fl n enc).length=n:=by simp [fl]
theorem zfr {n:Nat} (enc:Nat->Value) {i:Nat} (h:i<n):(fl n enc)[i]?=some (enc i):=by simp [fl,h]
theorem zgz {n:Nat} {f g:Nat->Value} (h:∀i,i<n->f i=g i):fl n f=fl n g:=by
 apply List.map_congr_left
 intro i hi
 exact h i (by simpa using hi)
theorem fl_replicate (n:Nat) (v:Value):List.replicate n v=fl n (fun _=>v):=by
 apply List.ext_getElem?
 intro j
 by_cases hj:j<n<;>simp [fl,hj]
theorem zac {w:World} {b:Nat} (o:Obj) (h:b=w.heap.size):(w.alloc o).heap[b]?=some o:=by subst h;exact heap_alloc_new w o
theorem zai {w:World} {b:Nat} (o:Obj) {o':Obj} (h:w.heap[b]?=some o'):(w.alloc o).heap[b]?=some o':=by
 rw [Below.heap_alloc w o b (Array.getElem?_eq_some_iff.1 h).1];exact h
theorem zan (w:World) (o:Obj):(w.alloc o).heap.size=w.heap.size+1:=by
 show (w.heap.push o).size=_
 simp
theorem zag (w:World) (o:Obj):Below w.heap.size w (w.alloc o):=(Below.refl _ _).alloc (ym _) o
theorem zaT (w:World) (o o2:Obj):Below w.heap.size w ((w.alloc o).alloc o2):=(zag w o).alloc (by rw [zan];omega) o2
theorem belowA3 (w:World) (o o2 o3:Obj):Below w.heap.size w (((w.alloc o).alloc o2).alloc o3):=(zaT w o o2).alloc (by rw [zan,zan];omega) o3
theorem zbj {P:Program} {w:World} {ops:Array Oper} {rest:List Oper} {o:Oper} {a:Act} {Q:Exit->Act->World->Prop} {t e:TypeId} {z:Value} {size bytes:Nat} (T:zdM P t e z size bytes)
  (hgd:o.guard=none) (s x:Operand) (ho:o.op=.call { callee:=.builtin .append,args:=#[s,x],argTypes:=#[t,t] })
  (base:Nat) (v:Value) (n:Nat) (xs:List Value) (hs:a.eval s=v) (hown:w.ownsRow base e size v n xs)
  (ao:Option Addr) (m c:Nat) (news:List Value) (hx:a.eval x=.slice ao m c) (hr:Row w size ao m c news) (h1:∀u∈news,u.oneCell'=true)
  (h63:n+m<=maxLen) (hbytes:(n+m)*bytes<=140737488355328) (hbase:base<=w.heap.size)
  (h:∀v' w',w'.ownsRow base e size v' (n+m) (xs++news)->w.grownBy w' v.ownBlock->(v'=.slice none 0 0↔v=.slice none 0 0/\m=0)->wpList P ops Q rest (a.put o.dst v') w'):wpList P ops Q (o::rest) a w:=by
 obtain ⟨i,hi,hz,hs',hb⟩:=info_parts T.info
 subst hb
 obtain ⟨r1,r2,r3,r4,r5⟩:=hr
 cases ao with
 | some ad =>
  refine wpList_append_own w hgd s x t ho base e i z size i.bytes T.und hi hz hs' rfl T.cells T.pos v n xs hs hown ad m c news hx r1 (fun j u hj=>?_) h1 h63 hbytes hbase h
  by_cases hm:0<m
  ·obtain ⟨b,off,hab,_,hc⟩:=r5 hm
   obtain rfl:=Option.some.inj hab
   rw [Addr.add_lit];exact hc j u hj
  ·obtain rfl:m=0:=by omega
   have:news=[]:=List.eq_nil_of_length_eq_zero (by simpa using r1)
   subst this;simp at hj
 | none =>
  obtain rfl:=r4 rfl
  obtain rfl:m=0:=by omega
  have:news=[]:=List.eq_nil_of_length_eq_zero (by simpa using r1)
  subst this
  refine wpList_plain hgd fun K hK=>?_
  have hrun:=run_append_owned_none (P:=P) w base t o.type e i size T.und hi v n xs hown
  unfold Oper.wp
  simp [execOp,ho,resolve,invoke,builtin,hs,hx,hrun,Result.andThen]
  exact hK _ _ (h v w (by simpa using hown) ⟨rfl,rfl,rfl,ym _,fun _ _ _=>rfl⟩ (by simp))
def NN (a:Option Addr) (v:Value):Prop:=a≠none->v≠.slice none 0 0
theorem below_grown {B:Nat} {w0 w w':World} {row:Option Nat} (h:Below B w0 w) (hg:w.grownBy w' row) (hB:B<=w.heap.size) (hr:∀k,row=some k->B<=k):Below B w0 w':=h.grown hg hB hr
theorem zes (w:World) (x:Value) (e:TypeId):Row (w.alloc (.cells #[x] e)) 1 (some ⟨w.heap.size,0,none⟩) 1 1 [x] :=
 ⟨rfl,ym _,by simp [maxLen],fun h=>(by cases h),fun _=>⟨w.heap.size,0,rfl,by rw [zan];omega,fun j u hj=>by
  rw [cell_of_row _ _ _ _ _ _ (zac _ rfl)]
  rcases j with _|j
  ·simpa using hj
  ·simp at hj⟩⟩
theorem zgL {x:Value} (h:x.oneCell'=true):∀u∈[x],u.oneCell'=true:=by
 intro u hu;simp at hu;subst hu;exact h
theorem below_cell {B:Nat} {w w':World} (h:Below B w w') {b o:Nat} {v:Value} (hb:b<B) (hc:w.cell? ⟨b,o,none⟩=some v):w'.cell? ⟨b,o,none⟩=some v:=(h.cell (p:=⟨b,o,none⟩) hb).trans hc
theorem Row.below {B:Nat} {w w':World} {sz:Nat} {a:Option Addr} {n cap:Nat} {xs:List Value} (h:Row w sz a n cap xs) (hb:Below B w w') (ha:∀x,a=some x->x.block<B):Row w' sz a n cap xs:=by
 obtain ⟨h1,h2,h3,h4,h5⟩:=h
 refine ⟨h1,h2,h3,h4,fun hn=>?_⟩
 obtain ⟨b,off,ha',hlt,hc⟩:=h5 hn
 exact ⟨b,off,ha',Nat.lt_of_lt_of_le hlt hb.size,fun j u hj=>below_cell hb (ha _ ha') (hc j u hj)⟩
theorem Row.lt {w:World} {sz:Nat} {a:Option Addr} {n cap:Nat} {xs:List Value} (h:Row w sz a n cap xs) (hn:0<n):∀x,a=some x->x.block<w.heap.size:=by
 obtain ⟨b,off,ha,hlt,_⟩:=h.2.2.2.2 hn
 intro x hx
 rw [ha] at hx;cases hx;exact hlt
theorem zfp {w w':World} {row:Option Nat} {B:Nat} (hg:w.grownBy w' row) (hB:B<=w.heap.size) (hr:∀k,row=some k->B<=k):Below B w w' :=
 (Below.refl B w).grown hg hB hr
end Go.Proofs.YtfafdeemfeaedaaGreat
