/-
  Our texts ShowP to Lex3, in one.
-/
import Derived.Test.YtcmoehknppjkiaaGreatDoorPkB1
import Derived.Test.YtcmoehknppjkiaaGreatDoorProg
import Derived.BigQuiet
import Derived.Deep.QuietTactic
import Derived.Laws.RangeAny
import Derived.IntWalk
import Derived.Lib.Bytealg
import Derived.Lib.Builder
import Derived.Lib.UnsafeStr
import Derived.Lib.ByteType
set_option maxRecDepth 8000
set_option maxHeartbeats 8000000
namespace Go.Proofs.YtcmoehknppjkiaaGreatDoor
def hexG (d:Nat):UInt8:=if d<10 then UInt8.ofNat (48+d) else UInt8.ofNat (87+d)
def hexB (c:UInt8):List UInt8:=[hexG (c.toNat / 16),hexG (c.toNat % 16)]
def hexF:List UInt8->List UInt8
 | []=>[]
 | c::s=>hexB c++hexF s
def zby:List UInt8->List UInt8
 | []=>[]
 | c::s=>(if c.toNat<33\/126<c.toNat\/c=35\/isDl c=true then 35::hexB c else [c])++zby s
def zcb (s:List UInt8):Bool:=s.all fun c=>decide (32<=c.toNat)&&decide (c.toNat<=126)
def zb5:List UInt8->List UInt8
 | []=>[]
 | c::s=>(if c=40\/c=41\/c=92 then [92,c] else [c])++zb5 s
def zcc (s:List UInt8):List UInt8:=if zcb s=true then 40::(zb5 s++[41]) else 60::(hexF s++[62])
mutual
def zat:PV->List UInt8
 | .mk k n s l =>
  if k=0 then [110,117,108,108]
  else if k=1 then (if n=0 then [102,97,108,115,101] else [116,114,117,101])
  else if k=2\/k=3 then (zaT k n true).1
  else if k=4 then zcc s
  else if k=5 then 47::zby s
  else if k=8 then (zaT 2 n true).1++[32,48,32,82]
  else if k=6 then 91::(rowF l++[93])
  else if k=7 then 60::60::(rowF l++[62,62])
  else []
def rowF:List PV->List UInt8
 | []=>[]
 | x::l=>zat x++zbU l
def zbU:List PV->List UInt8
 | []=>[]
 | x::l=>32::(zat x++zbU l)
end
theorem zeF:∀d,d<16->isRg (hexG d)=true/\hexD (hexG d)=(d:Int)/\isSp (hexG d)=false/\hexG d≠62/\hexG d≠35:=by
 have:∀d:Fin 16,isRg (hexG d.1)=true/\hexD (hexG d.1)=(d.1:Int)/\isSp (hexG d.1)=false/\hexG d.1≠62/\hexG d.1≠35:=by decide
 exact fun d hd=>this ⟨d,hd⟩
theorem byte_hex (c:UInt8):UInt8.ofNat (16*((c.toNat / 16:Nat):Int)+((c.toNat % 16:Nat):Int)).toNat=c:=by
 have h:(16*((c.toNat / 16:Nat):Int)+((c.toNat % 16:Nat):Int)).toNat=c.toNat:=by omega
 rw [h];exact UInt8.ofNat_toNat
theorem hex_lt (c:UInt8):c.toNat / 16<16/\c.toNat % 16<16:=by
 have:=c.toNat_lt;omega
theorem hexV_form:∀(s out t:List UInt8),hexV out (-1) (hexF s++62::t)=(0,out++s,t)
 | [],out,t=>by simp [hexF,hexV]
 | c::s,out,t=>by
  obtain ⟨h1,h2⟩:=hex_lt c;obtain ⟨-,a2,a3,a4,-⟩:=zeF _ h1;obtain ⟨-,b2,b3,b4,-⟩:=zeF _ h2;simp only [hexF,hexB,List.cons_append,List.nil_append];rw [hexV,yh a4,yh (by rw [a3];decide),yh (by rw [a2];omega),yg (by decide)];rw [hexV,yh b4,yh (by rw [b3];decide),yh (by rw [b2];omega),yh (by rw [a2];omega),a2,b2,byte_hex,hexV_form s];simp
theorem zd0:∀(s out:List UInt8),zbW out (zby s)=some (out++s)
 | [],out=>by simp [zby,zbW]
 | c::s,out=>by
  obtain ⟨h1,h2⟩:=hex_lt c;obtain ⟨-,a2,-,-,-⟩:=zeF _ h1;obtain ⟨-,b2,-,-,-⟩:=zeF _ h2;simp only [zby]
  split
  ·simp only [hexB,List.cons_append,List.nil_append]
   rw [zbW,yg rfl,yh (by rw [a2,b2];omega),a2,b2,byte_hex,zd0 s];simp
  ·rename_i hn
   simp only [List.cons_append,List.nil_append];have hc:¬c=35:=fun e=>hn (.inr (.inr (.inl e)))
   have Qu:zbW out (c::zby s)=zbW (out++[c]) (zby s):=by
    rw [zbW.eq_def];simp only [yh hc]
   rw [Qu,zd0 s];simp
theorem nameF_rg:∀(s:List UInt8),∀x∈zby s,isRg x=true
 | [],x,hx=>by cases hx
 | c::s,x,hx=>by
  obtain ⟨h1,h2⟩:=hex_lt c;simp only [zby] at hx;rcases List.mem_append.1 hx with hx|hx
  ·split at hx
   ·simp only [hexB,List.mem_cons,List.not_mem_nil,or_false] at hx
    rcases hx with rfl|rfl|rfl
    ·decide
    ·exact (zeF _ h1).1
    ·exact (zeF _ h2).1
   ·rename_i hn
    rw [List.mem_singleton.1 hx]
    have hd:isDl c=false:=by
     cases h:isDl c with
     | false=>rfl
     | true=>exact absurd (.inr (.inr (.inr h))) hn
    have hs:isSp c=false:=by
     have hc:¬c.toNat<33:=fun h=>hn (.inl h);unfold isSp;simp only [Bool.or_eq_false_iff,yf];refine ⟨⟨⟨⟨⟨?_,?_⟩,?_⟩,?_⟩,?_⟩,?_⟩<;>(rintro rfl;exact hc (by decide))
    unfold isRg;rw [hd,hs];rfl
  ·exact nameF_rg s x hx
def zfV (post:List UInt8):Prop:=∀c t,post=c::t->isRg c=false
theorem run_stop {w post:List UInt8} (hw:∀x∈w,isRg x=true) (hp:zfV post):(w++post).takeWhile isRg=w/\(w++post).dropWhile isRg=post:=by
 induction w with
 | nil =>
  cases post with
  | nil=>exact ⟨rfl,rfl⟩
  | cons c t =>
   have:=hp c t rfl;simp [this]
 | cons x w ih =>
  obtain ⟨i1,i2⟩:=ih fun y hy=>hw y (List.mem_cons_of_mem _ hy);have hx:=hw x (List.mem_cons_self);rw [List.cons_append];simp only [List.takeWhile_cons,List.dropWhile_cons,hx,yg];exact ⟨by rw [i1],i2⟩
theorem zgM (yq:Bool):∀(s out t:List UInt8),zcb s=true->zbe yq 1 out (zb5 s++41::t)=some (out++s,t)
 | [],out,t,_=>by
  simp only [zb5,List.nil_append];rw [zbe,yh (by decide),yh (by decide),yh (by decide),yg rfl,yg rfl];simp
 | c::s,out,t,h=>by
  simp only [zcb,List.all_cons,Bool.and_eq_true,decide_eq_true_eq] at h;obtain ⟨⟨h1,h2⟩,h3⟩:=h;have ih:=fun o=>zgM yq s o t (by simpa [zcb] using h3);simp only [zb5]
  by_cases hc:c=40\/c=41\/c=92
  ·rw [yg hc]
   simp only [List.cons_append,List.nil_append]
   have he:escV yq (c::(zb5 s++41::t))=some ([c],1):=by
    rcases hc with rfl|rfl|rfl<;>(unfold escV;simp [isOc])
   rw [zbe,yg rfl,he];simp only [List.drop_succ_cons,List.drop_zero];rw [ih];simp
  ·rw [yh hc]
   simp only [List.cons_append,List.nil_append];rw [zbe,yh (fun e=>hc (.inr (.inr e))),yh (by rintro rfl;revert h1;decide),yh (fun e=>hc (.inl e)),yh (fun e=>hc (.inr (.inl e))),ih];simp
theorem dg_rg {c:UInt8} (h:isDg c=true):isRg c=true:=by
 have h0:∀n:Fin 256,isDg (UInt8.ofNat n.1)=true->isRg (UInt8.ofNat n.1)=true:=by decide +kernel
 have h1:=h0 ⟨c.toNat,c.toNat_lt⟩;rw [show UInt8.ofNat c.toNat=c from UInt8.ofNat_toNat] at h1;exact h1 h
theorem absL_rg (k:Int) (n:Nat):∀x∈absL k n,isRg x=true:=by
 intro x hx;unfold absL at hx
 split at hx
 ·exact dg_rg (List.all_eq_true.1 (za4 n).1 x hx)
 ·rcases List.mem_append.1 hx with hx|hx
  ·exact dg_rg (List.all_eq_true.1 (za4 _).1 x hx)
  ·rcases List.mem_cons.1 hx with rfl|hx
   ·decide
   ·exact dg_rg (List.all_eq_true.1 (zey _ (Nat.mod_lt _ (by decide))).2.1 x hx)
theorem zdP {k n:Int} (h:zaM k n true=0):∃c w,(zaT k n true).1=c::w/\(∀x∈c::w,isRg x=true)/\(isDg c=true\/c=43\/c=45\/c=46):=by
 have hp:(zaT k n true).1=zbX n++absL k n.natAbs:=by unfold zaT;rw [yg h]
 obtain ⟨l,u,h1,h2,h3⟩:=zgP k n.natAbs;have hr:=absL_rg k n.natAbs;rw [hp];unfold zbX
 split
 ·exact ⟨45,_,rfl,fun x hx=>by
   rcases List.mem_cons.1 hx with rfl|hx
   ·decide
   ·exact hr x hx,.inr (.inr (.inl rfl))⟩
 ·rw [h1] at hr |-
  cases l with
  | nil=>simp at h3
  | cons c l =>
   refine ⟨c,l++u,rfl,fun x hx=>hr x hx,.inl ?_⟩;simp only [List.all_cons,Bool.and_eq_true] at h2;exact h2.1
theorem tok_run {yq:Bool} {c:UInt8} {w post:List UInt8} (hw:∀x∈c::w,isRg x=true) (hp:zfV post) (hl:post=[]->yq=true) :
  tokV yq c (w++post)=if isDg c=true\/c=43\/c=45\/c=46 then ((zaP (c::w)).2.2,{ kind:=1,vk:=(zaP (c::w)).1,vn:=(zaP (c::w)).2.1 },post) else (0,{ kind:=6,s:=c::w },post):=by
 obtain ⟨r1,r2⟩:=run_stop hw hp;have hc:isRg c=true:=hw c (List.mem_cons_self);unfold tokV;rw [yg hc];simp only;rw [show c::(w++post)=(c::w)++post from rfl,r1,r2];rw [yh (by rintro ⟨h1,h2⟩;rw [hl h1] at h2;cases h2)]
theorem zhk {yq:Bool} {k n:Int} {c:UInt8} {w post:List UInt8} (h:zaM k n true=0) (hf:(zaT k n true).1=c::w) (hp:zfV post) (hl:post=[]->yq=true) :
  tokV yq c (w++post)=(0,{ kind:=1,vk:=k,vn:=n },post):=by
 obtain ⟨c',w',e,hr,hd⟩:=zdP h;rw [hf] at e;obtain ⟨rfl,rfl⟩:=List.cons.inj e;rw [tok_run hr hp hl,yg hd,<-hf,parse_print k n true h]
theorem tok_name {yq:Bool} {s post:List UInt8} (hs:¬(127<s.length\/(0:UInt8)∈s)) (hp:zfV post) (hl:post=[]->yq=true) :
  tokV yq 47 (zby s++post)=(0,{ kind:=1,vk:=5,vs:=s },post):=by
 obtain ⟨r1,r2⟩:=run_stop (nameF_rg s) hp;unfold tokV;rw [yh (by decide),yh (by decide),yh (by decide),yh (by decide),yh (by decide),yh (by decide),yg rfl];simp only;rw [r1,r2,yh (by rintro ⟨h1,h2⟩;rw [hl h1] at h2;cases h2)];unfold zdR;rw [zd0];simp only [List.nil_append];rw [yh hs]
theorem hexF_head {s t:List UInt8}:∃d u,hexF s++62::t=d::u/\d≠60:=by
 cases s with
 | nil=>exact ⟨62,t,rfl,by decide⟩
 | cons c s =>
  obtain ⟨h1,-⟩:=hex_lt c;have h0:∀d:Fin 16,hexG d.1≠60:=by decide
  exact ⟨hexG (c.toNat / 16),_,rfl,h0 ⟨_,h1⟩⟩
theorem tok_text {yq:Bool} {s post:List UInt8}:∃c w,zcc s=c::w/\isSp c=false/\c≠37/\isRg c=false/\tokV yq c (w++post)=(0,{ kind:=1,vk:=4,vs:=s },post):=by
 unfold zcc
 split
 ·rename_i h
  refine ⟨40,_,rfl,by decide,by decide,by decide,?_⟩;unfold tokV;rw [yh (by decide),yh (by decide),yh (by decide),yh (by decide),yh (by decide),yg rfl];rw [List.append_assoc]
  show (match zbe yq 1 [] (zb5 s++41::post) with|none=>_|some (x,r)=>_)=_;rw [zgM yq s [] post h];rfl
 ·refine ⟨60,_,rfl,by decide,by decide,by decide,?_⟩
  unfold tokV;rw [yh (by decide),yh (by decide),yh (by decide),yg rfl];rw [List.append_assoc]
  show (match hexF s++62::post with | []=>_|d::u=>_)=_;obtain ⟨d,u,e,hd⟩:=hexF_head (s:=s) (t:=post);have hx:=hexV_form s [] post;rw [e] at hx |-;simp only;rw [yh hd,hx];rfl
theorem next_at {pre t:List UInt8} {c:UInt8} {yq:Bool} {x:Tk} {r:List UInt8} (sp:Bool) (hs:isSp c=false) (h37:c≠37) (ht:tokV yq c t=(0,x,r)) :
  zan (pre++(if sp then [32] else [])++c::t) pre.length yq=(x,((pre.length+(if sp then 1 else 0):Nat):Int),((pre++(if sp then [32] else [])++c::t).length:Int)-r.length,0):=by
 have QB:zaL (pre++(if sp then [32] else [])++c::t) pre.length=pre.length+(if sp then 1 else 0):=by
  unfold zaL;rw [yh (by omega)];rw [yh (by simp;omega)];simp only [Int.toNat_natCast];rw [List.append_assoc,List.drop_left]
  cases sp with
  | true =>
   simp only [yg,List.cons_append,List.nil_append];rw [zbi,yh (by decide),yg (by decide),zbi,yh h37,yh (by rw [hs];decide)]
  | false =>
   simp only [Bool.false_eq_true,if_false,List.nil_append];rw [zbi,yh h37,yh (by rw [hs];decide)]
 rw [zcF yq (by omega) (by simp;omega),QB]
 have hd:(pre++(if sp then [32] else [])++c::t).drop (pre.length+(if sp then 1 else 0))=c::t:=by
  cases sp with
  | true=>simp [List.drop_append]
  | false=>simp
 rw [zcs yq hd,ht];simp only;rw [yg trivial]
def NxS (yq:Bool) (post:List UInt8) (x:Tk) (r:List UInt8):Prop:=(post=[]/\yq=true/\x={ kind:=0 }/\r=[])\/∃(sp:Bool) (c:UInt8) (t:List UInt8),post=(if sp then [32] else [])++c::t/\isSp c=false/\c≠37/\tokV yq c t=(0,x,r)
theorem zcP {yq:Bool} {post r:List UInt8} {x:Tk} (h:NxS yq post x r) (pre:List UInt8):(zan (pre++post) pre.length yq).1=x/\(zan (pre++post) pre.length yq).2.2.1=((pre++post).length:Int)-r.length/\(zan (pre++post) pre.length yq).2.2.2=0:=by
 rcases h with ⟨rfl,rfl,rfl,rfl⟩|⟨sp,c,t,rfl,h1,h2,h3⟩
 ·rw [List.append_nil]
  have hs:zaL pre pre.length=pre.length:=by unfold zaL;rw [yh (by omega),yg (Int.le_refl _)]
  rw [zcF true (by omega) (by omega),hs,zdx true (by simp)];exact ⟨rfl,by simp,rfl⟩
 ·have:=next_at (pre:=pre) (yq:=yq) sp h1 h2 h3
  rw [<-List.append_assoc,this];exact ⟨rfl,rfl,rfl⟩
def NotR (x:Tk):Prop:=¬(x.kind=6/\x.s=[82])
def zbc:PV->Tk
 | .mk k n s _ =>
  if k=0 then { kind:=6,s:=[110,117,108,108] }
  else if k=1 then { kind:=6,s:=if n=0 then [102,97,108,115,101] else [116,114,117,101] }
  else if k=2\/k=3 then { kind:=1,vk:=k,vn:=n }
  else if k=4 then { kind:=1,vk:=4,vs:=s }
  else if k=5 then { kind:=1,vk:=5,vs:=s }
  else if k=8 then { kind:=1,vk:=2,vn:=n }
  else if k=6 then { kind:=2 } else { kind:=4 }
def zcB:PV->List UInt8
 | .mk k _ _ l=>if k=8 then [32,48,32,82] else if k=6 then rowF l++[93] else if k=7 then rowF l++[62,62] else []
theorem dg_sp {c:UInt8} (h:isRg c=true):isSp c=false/\c≠37:=by
 unfold isRg at h;simp only [Bool.and_eq_true,Bool.not_eq_true'] at h;refine ⟨h.1,?_⟩;rintro rfl;exact absurd h.2 (by decide)
theorem check_two {n:Int} (h1:1<=n) (h2:n<=4096):zaM 2 n true=0:=by
 unfold zaM;rw [yg ⟨rfl,.inl ⟨rfl,by omega,by omega⟩⟩]
def zcV (yq:Bool) (post:List UInt8):Prop:=zfV post/\(post=[]->yq=true)
theorem zd5 {yq:Bool} {c:UInt8} {w post:List UInt8} (hw:∀x∈c::w,isRg x=true) (hd:¬(isDg c=true\/c=43\/c=45\/c=46)) (hp:zcV yq post):tokV yq c (w++post)=(0,{ kind:=6,s:=c::w },post):=by
 rw [tok_run hw hp.1 hp.2,yh hd]
theorem zgd (yq:Bool) (p:List UInt8):zcV yq (32::p):=⟨fun c t h=>by cases h;decide,fun h=>by cases h⟩
theorem ze5 {yq:Bool} {v:PV} (h:ownC v=0) (post:List UInt8) (hp:zcV yq post\/v.kind=7):∃c t,zat v++post=c::t/\isSp c=false/\c≠37/\tokV yq c t=(0,zbc v,zcB v++post):=by
 obtain ⟨k,n,s,l⟩:=v;simp only [zat,zbc,zcB];simp only [ownC] at h
 by_cases k0:k=0
 ·subst k0
  exact ⟨110,[117,108,108]++post,rfl,by decide,by decide,zd5 (c:=110) (w:=[117,108,108]) (by decide) (by decide) (hp.resolve_right (by simp [PV.kind]))⟩
 ·simp only [yh k0] at h |-
  by_cases k1:k=1
  ·subst k1
   simp only [yg] at h |-
   by_cases n0:n=0
   ·simp only [yg n0]
    exact ⟨102,[97,108,115,101]++post,rfl,by decide,by decide,zd5 (c:=102) (w:=[97,108,115,101]) (by decide) (by decide) (hp.resolve_right (by simp [PV.kind]))⟩
   ·simp only [yh n0]
    exact ⟨116,[114,117,101]++post,rfl,by decide,by decide,zd5 (c:=116) (w:=[114,117,101]) (by decide) (by decide) (hp.resolve_right (by simp [PV.kind]))⟩
  ·simp only [yh k1] at h |-
   by_cases k23:k=2\/k=3
   ·simp only [yg k23] at h |-
    have hc:zaM k n true=0:=by
     split at h
     ·exact h
     ·cases h
    obtain ⟨c,w,e,hr,-⟩:=zdP hc;obtain ⟨d1,d2⟩:=dg_sp (hr c (List.mem_cons_self));refine ⟨c,w++post,by rw [e];rfl,d1,d2,?_⟩;rw [yh (by omega),yh (by omega),yh (by omega)];exact zhk hc e (hp.resolve_right (by simp only [PV.kind];omega)).1 (hp.resolve_right (by simp only [PV.kind];omega)).2
   ·simp only [yh k23] at h |-
    by_cases k4:k=4
    ·subst k4
     obtain ⟨c,w,e,d1,d2,-,ht⟩:=tok_text (yq:=yq) (s:=s) (post:=post);exact ⟨c,w++post,by simp only [yg];rw [e];rfl,d1,d2,ht⟩
    ·simp only [yh k4] at h |-
     by_cases k5:k=5
     ·subst k5
      simp only [yg] at h |-
      have hs:¬(127<s.length\/(0:UInt8)∈s):=by
       intro hn;rw [yg hn] at h
       cases h
      exact ⟨47,_,rfl,by decide,by decide,tok_name hs (hp.resolve_right (by simp [PV.kind])).1 (hp.resolve_right (by simp [PV.kind])).2⟩
     ·simp only [yh k5] at h |-
      by_cases k6:k=6
      ·subst k6
       exact ⟨91,(rowF l++[93])++post,rfl,by decide,by decide,rfl⟩
      ·simp only [yh k6] at h |-
       by_cases k7:k=7
       ·subst k7
        exact ⟨60,60::(rowF l++[62,62])++post,rfl,by decide,by decide,rfl⟩
       ·simp only [yh k7] at h |-
        by_cases k8:k=8
        ·subst k8
         simp only [yg] at h |-
         have hn:1<=n/\n<=4096:=by
          split at h
          ·rename_i hq;exact ⟨hq.1,hq.2.1⟩
          ·cases h
         have hc:=check_two hn.1 hn.2;obtain ⟨c,w,e,hr,-⟩:=zdP hc;obtain ⟨d1,d2⟩:=dg_sp (hr c (List.mem_cons_self));refine ⟨c,w++([32,48,32,82]++post),by rw [e];simp,d1,d2,?_⟩;exact zhk hc e (zgd yq _).1 (fun h=>by cases h)
        ·simp only [yh k8] at h
         cases h
theorem first_notR {v:PV}:NotR (zbc v):=by
 obtain ⟨k,n,s,l⟩:=v;unfold NotR;simp only [zbc]
 split
 ·decide
 ·split
  ·split<;>decide
  ·split
   ·rintro ⟨h,-⟩;cases h
   ·split
    ·rintro ⟨h,-⟩;cases h
    ·split
     ·rintro ⟨h,-⟩;cases h
     ·split
      ·rintro ⟨h,-⟩;cases h
      ·split<;>(rintro ⟨h,-⟩;cases h)
theorem first_suffix (v:PV) (post:List UInt8):∃u,zat v++post=u++(zcB v++post):=by
 obtain ⟨k,n,s,l⟩:=v;simp only [zcB]
 by_cases k8:k=8
 ·subst k8
  exact ⟨(zaT 2 n true).1,by simp [zat]⟩
 ·by_cases k6:k=6
  ·subst k6
   exact ⟨[91],by simp [zat]⟩
  ·by_cases k7:k=7
   ·subst k7
    exact ⟨[60,60],by simp [zat]⟩
   ·rw [yh k8,yh k6,yh k7]
    exact ⟨_,rfl⟩
def NxS2 (yq:Bool) (post:List UInt8) (x:Tk) (r:List UInt8):Prop:=NxS yq post x r/\∃u,post=u++r
structure zfp (yq:Bool) (post:List UInt8):Prop where
 stop:zcV yq post
 nx:∃x r,NxS2 yq post x r/\NotR x/\(zaN x=true->∃y q,NxS2 yq r y q/\NotR y)
theorem good2_close (yq:Bool) (p:List UInt8):zfp yq (93::p):=⟨⟨fun c t h=>(by cases h;decide),fun h=>by cases h⟩,{ kind:=3 },p,⟨.inr ⟨false,93,p,rfl,by decide,by decide,rfl⟩,[93],rfl⟩,by unfold NotR;decide,fun h=>by cases h⟩
theorem good2_close2 (yq:Bool) (p:List UInt8):zfp yq (62::62::p):=⟨⟨fun c t h=>(by cases h;decide),fun h=>by cases h⟩,{ kind:=5 },p,⟨.inr ⟨false,62,62::p,rfl,by decide,by decide,rfl⟩,[62,62],rfl⟩,by unfold NotR;decide,fun h=>by cases h⟩
theorem print_zero:(zaT 2 0 true).1=[48]:=by
 have h:zaM 2 0 true=0:=by decide
 unfold zaT;rw [yg h];simp only [zbX,absL];rw [yh (by decide),yg (by trivial)]
 show []++decL 0=[48];rw [zbQ (by decide)];rfl
theorem tok_zero (yq:Bool) (p:List UInt8):tokV yq 48 (32::p)=(0,{ kind:=1,vk:=2,vn:=0 },32::p) :=
 zhk (k:=2) (n:=0) (w:=[]) (by decide) print_zero (zgd yq p).1 (fun h=>by cases h)
theorem zhD {yq:Bool} {v:PV} (h:ownC v=0) {post:List UInt8} (hp:zcV yq post\/v.kind=7) (sp:Bool):NxS2 yq ((if sp then [32] else [])++(zat v++post)) (zbc v) (zcB v++post):=by
 obtain ⟨c,t,e,h1,h2,h3⟩:=ze5 h post hp;obtain ⟨u,hu⟩:=first_suffix v post;exact ⟨.inr ⟨sp,c,t,by rw [e],h1,h2,h3⟩,(if sp then [32] else [])++u,by rw [hu,List.append_assoc]⟩
theorem za2 {v:PV} (h:zaK v=0):ownC v=0:=by
 obtain ⟨k,n,s,l⟩:=v;simp only [zaK] at h
 split at h
 ·rename_i hn;exact absurd h hn
 ·rename_i hn;simpa using hn
theorem whole_first {v:PV} (h:zaN (zbc v)=true):zcB v=[]\/zcB v=[32,48,32,82]:=by
 obtain ⟨k,n,s,l⟩:=v;simp only [zbc,zcB] at h |-
 by_cases k8:k=8
 ·exact .inr (yg k8)
 ·rw [yh k8]
  left
  by_cases k6:k=6
  ·subst k6;exact absurd h (by simp [zaN])
  ·by_cases k7:k=7
   ·subst k7;exact absurd h (by simp [zaN])
   ·rw [yh k6,yh k7]
theorem good_form {yq:Bool} {v:PV} (h:ownC v=0) {post:List UInt8} (hg:zfp yq post) (sp:Bool) (hs:zcV yq ((if sp then [32] else [])++(zat v++post))):zfp yq ((if sp then [32] else [])++(zat v++post)):=by
 refine ⟨hs,zbc v,zcB v++post,zhD h (.inl hg.stop) sp,first_notR,fun hw=>?_⟩;rcases whole_first hw with e|e
 ·rw [e]
  obtain ⟨x,r,h1,h2,-⟩:=hg.nx;exact ⟨x,r,h1,h2⟩
 ·rw [e]
  refine ⟨{ kind:=1,vk:=2,vn:=0 },32::82::post,⟨.inr ⟨true,48,32::82::post,rfl,by decide,by decide,tok_zero yq _⟩,[32,48],rfl⟩,by unfold NotR;decide⟩
theorem zfE {yq:Bool} {close:List UInt8} (hc:zfp yq close):∀l:List PV,(∀x∈l,ownC x=0)->zfp yq (zbU l++close)
 | [],_=>hc
 | x::l,h=>by
  have ih:=zfE hc l fun y hy=>h y (List.mem_cons_of_mem _ hy);have:=good_form (h x (List.mem_cons_self)) ih true (by simp only [yg,List.cons_append,List.nil_append];exact zgd yq _)
  simpa [zbU] using this
theorem refD_no {yq:Bool} {post:List UInt8} (hg:zfp yq post) (pre:List UInt8) (n:Int):refD (pre++post) yq pre.length n=(false,0,0):=by
 obtain ⟨x,r,⟨h1,u,hu⟩,h2,h3⟩:=hg.nx;obtain ⟨a1,a2,a3⟩:=zcP h1 pre;unfold refD;simp only;rw [a3,yh (by decide),a1]
 cases hw:zaN x with
 | false=>rw [yg (.inr rfl)]
 | true =>
  rw [yh (by simp)];obtain ⟨y,q,⟨g1,-⟩,g2⟩:=h3 hw;have hl:((pre++post).length:Int)-r.length=((pre++u).length:Int):=by rw [hu];simp;omega
  have hb:pre++post=(pre++u)++r:=by rw [hu,List.append_assoc]
  rw [a2,hl,hb];obtain ⟨b1,b2,b3⟩:=zcP g1 (pre++u);rw [b3,yh (by decide),b1];rw [yg]
  right
  exact Decidable.byContradiction fun hn=>g2 (by
   refine ⟨Decidable.byContradiction fun h=>hn (.inl h),Decidable.byContradiction fun h=>hn (.inr h)⟩)
theorem refD_yes {yq:Bool} {post:List UInt8} (hp:zcV yq post) (pre:List UInt8) {n:Int} (h1:1<=n) (h2:n<=4096):refD (pre++([32,48,32,82]++post)) yq pre.length n=(true,((pre++([32,48,32,82]++post)).length:Int)-post.length,0):=by
 have n1:NxS yq ([32,48,32,82]++post) { kind:=1,vk:=2,vn:=0 } (32::82::post):=.inr ⟨true,48,32::82::post,rfl,by decide,by decide,tok_zero yq _⟩;have n2:NxS yq (32::82::post) { kind:=6,s:=[82] } post:=.inr ⟨true,82,post,rfl,by decide,by decide,zd5 (c:=82) (w:=[]) (by decide) (by decide) hp⟩;obtain ⟨a1,a2,a3⟩:=zcP n1 pre;have hl:((pre++([32,48,32,82]++post)).length:Int)-(32::82::post).length=((pre++[32,48]).length:Int):=by simp;omega
 have hb:pre++([32,48,32,82]++post)=(pre++[32,48])++(32::82::post):=by simp
 unfold refD;simp only;rw [a3,yh (by decide),a1,yh (by decide),a2,hl];obtain ⟨b1,b2,b3⟩:=zcP n2 (pre++[32,48]);rw [<-hb] at b1 b2 b3;rw [b3,yh (by decide),b1,yh (by decide),b2,yh (by simp;omega)]
theorem depth_pos (v:PV):1<=zaZ v:=by
 obtain ⟨k,n,s,l⟩:=v;simp only [zaZ]
 split<;>omega
theorem first_kind (v:PV):(zbc v).kind≠3/\(zbc v).kind≠5/\(zbc v).kind≠0:=by
 obtain ⟨k,n,s,l⟩:=v;simp only [zbc];refine ⟨?_,?_,?_⟩
 all_goals
  repeat' split
 all_goals simp
def BackAt (yq:Bool) (d:Nat):Prop:=∀v,zaK v=0->zaZ v<=d->∀pre post,(zfp yq post\/v.kind=7) ->
 vlD (pre++(zat v++post)) yq d (zbc v) (((pre++(zat v++post)).length:Int)-(zcB v++post).length)=(v,((pre++(zat v++post)).length:Int)-post.length,0)
def rowS (sp:Bool):List PV->List UInt8
 | []=>[]
 | x::l=>(if sp then [32] else [])++(zat x++zbU l)
theorem zdN (l:List PV):rowS false l=rowF l:=by cases l<;>simp [rowS,rowF]
theorem rowS_more (l:List PV):rowS true l=zbU l:=by cases l<;>simp [rowS,zbU]
theorem arr_back {yq:Bool} {d:Nat} (hb:BackAt yq d) (bs post:List UInt8):∀(l2 l1:List PV) (sp:Bool) (pre:List UInt8) (r:Nat),(∀x∈l2,zaK x=0/\zaZ x<=d)->l2.length<r->bs=pre++(rowS sp l2++(93::post)) ->
  arrD bs yq (vlD bs yq d) r l1 pre.length=(.mk 6 0 [] (l1++l2),(bs.length:Int)-post.length,0)
 | _,_,_,_,0,_,h,_=>by omega
 | [],l1,sp,pre,r+1,_,_,he=>by
  have hn:NxS yq (93::post) { kind:=3 } post:=.inr ⟨false,93,post,rfl,by decide,by decide,rfl⟩;obtain ⟨a1,a2,a3⟩:=zcP hn pre;have Qe:bs=pre++93::post:=he;rw [<-Qe] at a1 a2 a3;simp only [arrD];rw [a3,yh (by decide),a1,yg rfl,a2,List.append_nil]
 | x::l,l1,sp,pre,r+1,h,hr,he=>by
  obtain ⟨x1,x2⟩:=h x (List.mem_cons_self);have hown:∀y∈l,ownC y=0:=fun y hy=>za2 (h y (List.mem_cons_of_mem _ hy)).1;have hg:zfp yq (zbU l++93::post):=zfE (good2_close yq post) l hown;have hn:=zhD (za2 x1) (.inl hg.stop) sp;have Qe:bs=pre++((if sp then [32] else [])++(zat x++(zbU l++93::post))):=by rw [he];simp [rowS]
  obtain ⟨a1,a2,a3⟩:=zcP hn.1 pre;rw [<-Qe] at a1 a2 a3;have Qo:bs=(pre++(if sp then [32] else []))++(zat x++(zbU l++93::post)):=by rw [Qe];simp
  have hv:=hb x x1 x2 (pre++(if sp then [32] else [])) (zbU l++93::post) (.inl hg);rw [<-Qo] at hv;simp only [arrD];rw [a3,yh (by decide),a1,yh (first_kind x).1,a2,hv];simp only;rw [yh (by decide)];have hk:(bs.length:Int)-(zbU l++93::post).length=((pre++(if sp then [32] else [])++zat x).length:Int):=by rw [Qo];simp;omega
  rw [hk];have ih:=arr_back hb bs post l (l1++[x]) true (pre++(if sp then [32] else [])++zat x) r (fun y hy=>h y (List.mem_cons_of_mem _ hy)) (by simp at hr;omega) (by rw [rowS_more,Qo];simp);rw [ih];simp
theorem insK_end {x:PV×PV}:∀l,(∀y∈l,sLt y.1.s x.1.s=true)->insK x l=l++[x]
 | [],_=>rfl
 | y::l,h=>by
  simp only [insK];rw [yh (by rw [zfb _ _ (h y (List.mem_cons_self))];decide),insK_end l fun z hz=>h z (List.mem_cons_of_mem _ hz)];rfl
theorem hasK_end {s:List UInt8} {l:List (PV×PV)} (h:∀y∈l,sLt y.1.s s=true):hasK s l=false :=
 hasK_no.2 fun y hy e=>by have:=h y hy;rw [e,zdA] at this;cases this
theorem dict_back {yq:Bool} {d:Nat} (hd:d≠0) (hb:BackAt yq d) (bs post:List UInt8):∀(p:List (PV×PV)) (ps:List (PV×PV)) (sp:Bool) (pre:List UInt8) (r:Nat),
  (∀q∈p,zaK q.1=0/\q.1.kind=5/\zaK q.2=0/\zaZ q.2<=d)->ascP (ps++p)->p.length<r->bs=pre++(rowS sp (zaS p)++(62::62::post)) ->
  zdm bs yq (vlD bs yq d) d r ps false pre.length=(.mk 7 0 [] (zaS (ps++p)),(bs.length:Int)-post.length,0)
 | _,_,_,_,0,_,_,h,_=>by omega
 | [],ps,sp,pre,r+1,_,_,_,he=>by
  have hn:NxS yq (62::62::post) { kind:=5 } post:=.inr ⟨false,62,62::post,rfl,by decide,by decide,rfl⟩;obtain ⟨a1,a2,a3⟩:=zcP hn pre;have Qe:bs=pre++62::62::post:=he;rw [<-Qe] at a1 a2 a3;simp only [zdm];rw [a3,yh (by decide),a1,yg rfl,yh (by decide),a2,List.append_nil]
 |(a,x)::p,ps,sp,pre,r+1,h,Qf,hr,he=>by
  obtain ⟨n1,n2,x1,x2⟩:=h (a,x) (List.mem_cons_self)
  have Qv:∀y∈zaS p,ownC y=0:=fun y hy=>by
   obtain ⟨q,hq,e⟩:=(zfu p).1 hy;obtain ⟨g1,-,g3,-⟩:=h q (List.mem_cons_of_mem _ hq);rcases e with rfl|rfl
   ·exact za2 g1
   ·exact za2 g3
  have hg:zfp yq (zbU (zaS p)++62::62::post):=zfE (good2_close2 yq post) _ Qv;have QX:zfp yq ((if true then [32] else [])++(zat x++(zbU (zaS p)++62::62::post))):=good_form (za2 x1) hg true (by simp only [yg,List.cons_append,List.nil_append];exact zgd yq _);have QY:=zhD (za2 n1) (.inl QX.stop) sp;have Qe:bs=pre++((if sp then [32] else [])++(zat a++((if true then [32] else [])++(zat x++(zbU (zaS p)++62::62::post))))):=by rw [he];simp [rowS,zaS,zbU]
  obtain ⟨a1,a2,a3⟩:=zcP QY.1 pre;rw [<-Qe] at a1 a2 a3;obtain ⟨ka,na,sa,la⟩:=a;simp only [PV.kind] at n2;subst n2
  have QZ:na=0/\la=[]:=by
   have:=za2 n1;simp only [ownC] at this;rw [yh (by decide),yh (by decide),yh (by decide),yh (by decide),yg (by trivial)] at this
   split at this
   ·cases this
   ·split at this
    ·rename_i hq;exact hq
    ·cases this
  obtain ⟨rfl,rfl⟩:=QZ
  have Qa:zbc (.mk 5 0 sa [])={ kind:=1,vk:=5,vs:=sa }:=by
   simp only [zbc];rw [yh (by decide),yh (by decide),yh (by decide),yh (by decide),yg (by trivial)]
  have Qg:zcB (.mk 5 0 sa [])=[]:=by
   simp only [zcB];rw [yh (by decide),yh (by decide),yh (by decide)]
  rw [Qa] at a1;rw [Qg,List.nil_append] at a2;have Qh:=zhD (za2 x1) (.inl hg.stop) true;have Qb:bs=(pre++(if sp then [32] else [])++zat (.mk 5 0 sa []))++((if true then [32] else [])++(zat x++(zbU (zaS p)++62::62::post))):=by rw [Qe];simp
  have Qt:(bs.length:Int)-((if true then [32] else [])++(zat x++(zbU (zaS p)++62::62::post))).length=((pre++(if sp then [32] else [])++zat (.mk 5 0 sa [])).length:Int):=by rw [Qb];simp;omega
  obtain ⟨b1,b2,b3⟩:=zcP Qh.1 (pre++(if sp then [32] else [])++zat (.mk 5 0 sa []));rw [<-Qb] at b1 b2 b3;have Ql:bs=(pre++(if sp then [32] else [])++zat (.mk 5 0 sa [])++[32])++(zat x++(zbU (zaS p)++62::62::post)):=by rw [Qb];simp
  have hv:=hb x x1 x2 (pre++(if sp then [32] else [])++zat (.mk 5 0 sa [])++[32]) _ (.inl hg);rw [<-Ql] at hv
  have hlt:∀y∈ps,sLt y.1.s sa=true:=fun y hy=>by
   have:∀(l m:List (PV×PV)) (z:PV×PV),ascP (l++z::m)->∀y∈l,sLt y.1.s z.1.s=true:=by
    intro l
    induction l with
    | nil=>intro m z _ y hy;cases hy
    | cons w l ih =>
     intro m z hz y hy;rcases List.mem_cons.1 hy with rfl|hy
     ·exact hz.1 z (List.mem_append_right _ (List.mem_cons_self))
     ·exact ih m z hz.2 y hy
   exact this ps p _ Qf y hy
  have QC:putK (.mk 5 0 sa [],x) ps=ps++[(.mk 5 0 sa [],x)]:=by
   unfold putK;rw [show hasK (PV.mk 5 0 sa [],x).1.s ps=false from hasK_end hlt,yh (by decide)];exact insK_end ps hlt
  simp only [zdm];rw [a3,yh (by decide),a1,yh (by simp),yh (by simp),yh (by simp),yh hd,a2,Qt,b3,yh (by decide),b1,b2,hv];simp only;rw [yh (by decide),QC,hasK_end hlt];have hk2:(bs.length:Int)-(zbU (zaS p)++62::62::post).length=((pre++(if sp then [32] else [])++zat (.mk 5 0 sa [])++[32]++zat x).length:Int):=by rw [Ql];simp;omega
  rw [hk2];have ih:=dict_back hd hb bs post p (ps++[(.mk 5 0 sa [],x)]) true (pre++(if sp then [32] else [])++zat (.mk 5 0 sa [])++[32]++zat x) r (fun q hq=>h q (List.mem_cons_of_mem _ hq)) (by simpa using Qf) (by simp at hr;omega) (by rw [rowS_more,Ql];simp);simp only [Bool.false_or];rw [ih];simp
theorem zel {l:List PV}:zbt l=0->∀x∈l,zaK x=0:=by
 induction l with
 | nil=>intro _ x hx;cases hx
 | cons y l ih =>
  intro h x hx;simp only [zbt] at h
  split at h
  ·rename_i hn;exact absurd h hn
  ·rename_i hn
   rcases List.mem_cons.1 hx with rfl|hx
   ·simpa using hn
   ·exact ih h x hx
theorem depth_all {l:List PV} {n:Nat}:zbH l<=n->∀x∈l,zaZ x<=n:=by
 induction l with
 | nil=>intro _ x hx;cases hx
 | cons y l ih =>
  intro h x hx;simp only [zbH] at h;rcases List.mem_cons.1 hx with rfl|hx
  ·omega
  ·exact ih (by omega) x hx
theorem asc_back:∀l:List (PV×PV),ascV l=true->ascP l
 | [],_=>trivial
 | [x],_=>⟨fun y hy=>(by cases hy),trivial⟩
 | x::y::l,h=>by
  simp only [ascV,Bool.and_eq_true] at h;have hr:=asc_back (y::l) h.2;refine ⟨fun z hz=>?_,hr⟩;rcases List.mem_cons.1 hz with rfl|hz
  ·exact h.1
  ·exact zhh _ _ _ h.1 (hr.1 z hz)
theorem more_len:∀l:List PV,l.length<=(zbU l).length
 | []=>yp _
 | x::l=>by have:=more_len l;simp [zbU];omega
theorem form_pos {v:PV} (h:ownC v=0):1<=(zat v).length:=by
 obtain ⟨c,t,e,-⟩:=ze5 (yq:=true) h [] (.inl ⟨fun c t h=>(by cases h),fun _=>rfl⟩);rw [List.append_nil] at e;rw [e];simp
theorem row_len {l:List PV} (h:∀x∈l,ownC x=0):l.length<=(rowF l).length:=by
 cases l with
 | nil=>exact yp _
 | cons x l =>
  have:=more_len l;have:=form_pos (h x (List.mem_cons_self));simp [rowF];omega
theorem zhL (yq:Bool):∀d,BackAt yq d
 | 0=>fun v _ hd=>by have:=depth_pos v;omega
 | d+1=>fun v hf hdp pre post hg=>by
  have hown:=za2 hf;obtain ⟨k,n,s,l⟩:=v
  by_cases k6:k=6
  ·subst k6
   have ho:=hown;simp only [ownC] at ho;rw [yh (by decide),yh (by decide),yh (by decide),yh (by decide),yh (by decide),yg (by trivial)] at ho
   have QD:n=0/\s=[]:=by
    split at ho
    ·rename_i h;exact h
    ·cases ho
   obtain ⟨rfl,rfl⟩:=QD;simp only [zaK] at hf;rw [yh (by simp [hown]),yg (by simp)] at hf;simp only [zaZ] at hdp;rw [yg (by simp)] at hdp;have hx:∀x∈l,zaK x=0/\zaZ x<=d:=fun x hx=>⟨zel hf x hx,depth_all (by omega) x hx⟩;have Qa:zbc (.mk 6 0 [] l)={ kind:=2 }:=by simp [zbc]
   have Qg:zcB (.mk 6 0 [] l)=rowF l++[93]:=by simp [zcB]
   have hb:pre++(zat (.mk 6 0 [] l)++post)=(pre++[91])++(rowS false l++(93::post)):=by rw [zdN];simp [zat]
   have hk:((pre++(zat (.mk 6 0 [] l)++post)).length:Int)-(zcB (.mk 6 0 [] l)++post).length=((pre++[91]).length:Int):=by rw [hb,Qg,zdN];simp;omega
   rw [hk,Qa];have hl:=row_len (l:=l) fun x hx2=>za2 (hx x hx2).1;have ha:=arr_back (zhL yq d) (pre++(zat (.mk 6 0 [] l)++post)) post l [] false (pre++[91]) ((pre++(zat (.mk 6 0 [] l)++post)).length+1) hx (by rw [hb,zdN];simp;omega) hb;simp only [vlD];rw [yh (by decide),yg (by trivial),ha];rfl
  ·by_cases k7:k=7
   ·subst k7
    have ho:=hown;simp only [ownC] at ho;rw [yh (by decide),yh (by decide),yh (by decide),yh (by decide),yh (by decide),yh (by decide),yg (by trivial)] at ho
    have QD:n=0/\s=[]/\l.length % 2=0/\zcT l=true/\ascV (twoV l)=true:=by
     split at ho
     ·cases ho
     ·rename_i h1
      split at ho
      ·cases ho
      ·rename_i h2
       split at ho
       ·rename_i h3
        exact ⟨Decidable.byContradiction fun h=>h1 (.inl h),Decidable.byContradiction fun h=>h1 (.inr (.inl h)),Decidable.byContradiction fun h=>h1 (.inr (.inr h)),by simpa using h2,h3⟩
       ·cases ho
    obtain ⟨rfl,rfl,Q0,Q1,Qf⟩:=QD;simp only [zaK] at hf;rw [yh (by simp [hown]),yg (by simp)] at hf;simp only [zaZ] at hdp;rw [yg (by simp)] at hdp;have Qm:=two_flat l Q0;have Qw:=zgU (twoV l);rw [Qm,Q1] at Qw
    have hx:∀q∈twoV l,zaK q.1=0/\q.1.kind=5/\zaK q.2=0/\zaZ q.2<=d:=fun q hq=>by
     have m1:q.1∈l:=by rw [<-Qm];exact (zfu _).2 ⟨q,hq,.inl rfl⟩
     have m2:q.2∈l:=by rw [<-Qm];exact (zfu _).2 ⟨q,hq,.inr rfl⟩
     have m3:=List.all_eq_true.1 Qw.symm q hq;exact ⟨zel hf _ m1,by simpa using m3,zel hf _ m2,depth_all (by omega) _ m2⟩
    have Qa:zbc (.mk 7 0 [] l)={ kind:=4 }:=by simp [zbc]
    have Qg:zcB (.mk 7 0 [] l)=rowF l++[62,62]:=by simp [zcB]
    have hb:pre++(zat (.mk 7 0 [] l)++post)=(pre++[60,60])++(rowS false (zaS (twoV l))++(62::62::post)):=by rw [Qm,zdN];simp [zat]
    have hk:((pre++(zat (.mk 7 0 [] l)++post)).length:Int)-(zcB (.mk 7 0 [] l)++post).length=((pre++[60,60]).length:Int):=by rw [hb,Qg,Qm,zdN];simp;omega
    rw [hk,Qa];have hl:=row_len (l:=l) fun x hx2=>za2 (zel hf x hx2)
    have h2:(twoV l).length<=l.length:=by
     have:(zaS (twoV l)).length=2*(twoV l).length:=by
      generalize twoV l=p
      induction p with
      | nil=>rfl
      | cons q p ih=>obtain ⟨a,b⟩:=q;simp [zaS,ih];omega
     rw [Qm] at this;omega
    by_cases hd0:d=0
    ·subst hd0
     cases l with
     | nil =>
      simp only [vlD];rw [yh (by decide),yh (by decide),yg (by trivial)];have hn:NxS yq (62::62::post) { kind:=5 } post:=.inr ⟨false,62,62::post,rfl,by decide,by decide,rfl⟩;obtain ⟨a1,a2,a3⟩:=zcP hn (pre++[60,60]);have Ql:pre++(zat (.mk 7 0 [] [])++post)=(pre++[60,60])++62::62::post:=hb;rw [<-Ql] at a1 a2 a3;simp only [zdm];rw [a3,yh (by decide),a1,yg rfl,yh (by decide),a2];rfl
     | cons x l =>
      have:=depth_pos x;simp only [zbH] at hdp;omega
    ·have ha:=dict_back hd0 (zhL yq d) (pre++(zat (.mk 7 0 [] l)++post)) post (twoV l) [] false (pre++[60,60]) ((pre++(zat (.mk 7 0 [] l)++post)).length+1) hx (asc_back _ Qf) (by rw [hb,Qm,zdN];simp;omega) hb
     simp only [vlD];rw [yh (by decide),yh (by decide),yg (by trivial),ha,List.nil_append,Qm]
   ·have Qn:zfp yq post:=hg.resolve_right (by simpa [PV.kind] using k7)
    have Qp:∀t:Tk,t.kind=6\/t.kind=1->∀tb:Int,vlD (pre++(zat (.mk k n s l)++post)) yq (d+1) t tb=zbC (pre++(zat (.mk k n s l)++post)) yq t tb:=fun t ht tb=>by
     simp only [vlD];rw [yh (by omega),yh (by omega),yh (by omega),yh (by omega)]
    have hb:pre++(zat (.mk k n s l)++post)=(pre++zat (.mk k n s l))++post:=by rw [List.append_assoc]
    have ho:=hown;simp only [ownC] at ho
    by_cases k8:k=8
    ·subst k8
     rw [yh (by decide),yh (by decide),yh (by decide),yh (by decide),yh (by decide),yh (by decide),yh (by decide),yg (by trivial)] at ho
     have hq:1<=n/\n<=4096/\s=[]/\l=[]:=by
      split at ho
      ·rename_i h;exact h
      ·cases ho
     obtain ⟨n1,n2,rfl,rfl⟩:=hq;have Qa:zbc (.mk 8 n [] [])={ kind:=1,vk:=2,vn:=n }:=by simp [zbc]
     have Qg:zcB (.mk 8 n [] [])=[32,48,32,82]:=by simp [zcB]
     have Q2:zat (.mk 8 n [] [])=(zaT 2 n true).1++[32,48,32,82]:=by simp [zat]
     rw [Qa,Qp _ (.inr rfl),Qg,Q2];have Qb:pre++((zaT 2 n true).1++[32,48,32,82]++post)=(pre++(zaT 2 n true).1)++([32,48,32,82]++post):=by simp
     have hk:((pre++((zaT 2 n true).1++[32,48,32,82]++post)).length:Int)-([32,48,32,82]++post).length=((pre++(zaT 2 n true).1).length:Int):=by rw [Qb];simp;omega
     have hr:=refD_yes Qn.stop (pre++(zaT 2 n true).1) n1 n2;rw [<-Qb] at hr;rw [hk];unfold zbC;rw [yh (by simp),yg (by simp [zaN])];simp only [hr];rw [yh (by decide),yg (by trivial)]
    ·have Qg:zcB (.mk k n s l)=[]:=by
      simp only [zcB];rw [yh k8,yh k6,yh k7]
     rw [Qg,List.nil_append];have hk:((pre++(zat (.mk k n s l)++post)).length:Int)-post.length=((pre++zat (.mk k n s l)).length:Int):=by rw [hb];simp;omega
     by_cases k0:k=0
     ·subst k0
      rw [yg (by trivial)] at ho
      have hq:n=0/\s=[]/\l=[]:=by
       split at ho
       ·rename_i h;exact h
       ·cases ho
      obtain ⟨rfl,rfl,rfl⟩:=hq;have Qa:zbc (.mk 0 0 [] [])={ kind:=6,s:=[110,117,108,108] }:=by simp [zbc]
      rw [Qa,Qp _ (.inl rfl)];unfold zbC;rw [yg rfl];rfl
     ·rw [yh k0] at ho
      by_cases k1:k=1
      ·subst k1
       rw [yg (by trivial)] at ho
       have hq:(n=0\/n=1)/\s=[]/\l=[]:=by
        split at ho
        ·rename_i h;exact h
        ·cases ho
       obtain ⟨hn,rfl,rfl⟩:=hq;rcases hn with rfl|rfl
       ·have Qa:zbc (.mk 1 0 [] [])={ kind:=6,s:=[102,97,108,115,101] }:=by simp [zbc]
        rw [Qa,Qp _ (.inl rfl)];unfold zbC;rw [yg rfl];rfl
       ·have Qa:zbc (.mk 1 1 [] [])={ kind:=6,s:=[116,114,117,101] }:=by simp [zbc]
        rw [Qa,Qp _ (.inl rfl)];unfold zbC;rw [yg rfl];rfl
      ·rw [yh k1] at ho
       by_cases k23:k=2\/k=3
       ·rw [yg k23] at ho
        have hq:s=[]/\l=[]:=by
         split at ho
         ·rename_i h;exact h
         ·cases ho
        obtain ⟨rfl,rfl⟩:=hq
        have Qa:zbc (.mk k n [] [])={ kind:=1,vk:=k,vn:=n }:=by
         simp only [zbc];rw [yh k0,yh k1,yg k23]
        rw [Qa,Qp _ (.inr rfl)];unfold zbC;rw [yh (by simp)]
        by_cases k2:k=2
        ·subst k2
         rw [yg (by simp [zaN]),hk];have hr:=refD_no Qn (pre++zat (.mk 2 n [] [])) n;rw [<-hb] at hr;simp only [hr];rw [yh (by decide),yh (by decide)];rfl
        ·rw [yh (by simp [zaN];omega)]
         rfl
       ·rw [yh k23] at ho
        by_cases k4:k=4
        ·subst k4
         rw [yg (by trivial)] at ho
         have hq:n=0/\l=[]:=by
          split at ho
          ·rename_i h;exact h
          ·cases ho
         obtain ⟨rfl,rfl⟩:=hq;have Qa:zbc (.mk 4 0 s [])={ kind:=1,vk:=4,vs:=s }:=by simp [zbc]
         rw [Qa,Qp _ (.inr rfl)];unfold zbC;rw [yh (by simp),yh (by simp [zaN])];rfl
        ·rw [yh k4] at ho
         by_cases k5:k=5
         ·subst k5
          rw [yg (by trivial)] at ho
          have hq:n=0/\l=[]:=by
           split at ho
           ·cases ho
           ·split at ho
            ·rename_i h;exact h
            ·cases ho
          obtain ⟨rfl,rfl⟩:=hq;have Qa:zbc (.mk 5 0 s [])={ kind:=1,vk:=5,vs:=s }:=by simp [zbc]
          rw [Qa,Qp _ (.inr rfl)];unfold zbC;rw [yh (by simp),yh (by simp [zaN])];rfl
         ·rw [yh k5,yh k6,yh k7,yh k8] at ho
          cases ho
theorem skipN_ws {c:UInt8} {t:List UInt8} (hs:isSp c=false) (h37:c≠37):∀ws:List UInt8,ws.all isSp=true->zbi false (ws++c::t)=ws.length
 | [],_=>by rw [List.nil_append,zbi,yh h37,yh (by rw [hs];decide)];rfl
 | d::ws,h=>by
  simp only [List.all_cons,Bool.and_eq_true] at h;have hd:d≠37:=by rintro rfl;exact absurd h.1 (by decide)
  rw [List.cons_append,zbi,yh hd,yg h.1,skipN_ws hs h37 ws h.2,List.length_cons];omega
theorem next_ws {pre ws t:List UInt8} {c:UInt8} {yq:Bool} {x:Tk} {r:List UInt8} (hw:ws.all isSp=true) (hs:isSp c=false) (h37:c≠37) (ht:tokV yq c t=(0,x,r)) :
  zan (pre++(ws++c::t)) pre.length yq=(x,((pre.length+ws.length:Nat):Int),((pre++(ws++c::t)).length:Int)-r.length,0):=by
 have QB:zaL (pre++(ws++c::t)) pre.length=pre.length+ws.length:=by
  unfold zaL;rw [yh (by omega),yh (by simp;omega)];simp only [Int.toNat_natCast];rw [List.drop_left,skipN_ws hs h37 ws hw]
 rw [zcF yq (by omega) (by simp;omega),QB];have hd:(pre++(ws++c::t)).drop (pre.length+ws.length)=c::t:=by rw [<-List.append_assoc,<-List.length_append,List.drop_left]
 rw [zcs yq hd,ht];simp only;rw [yg trivial]
theorem show_dict {yq:Bool} {v:PV} (h:zbG v=0) (h7:v.kind=7) (pre ws post:List UInt8) (hw:ws.all isSp=true):zch (pre++(ws++(zat v++post))) yq pre.length=(v,((pre++(ws++(zat v++post))).length:Int)-post.length,0):=by
 have hd:zaZ v<=64/\zaK v=0:=by
  unfold zbG at h
  split at h
  ·cases h
  ·exact ⟨by omega,h⟩
 have hb:=zhL yq 64 v hd.2 hd.1 (pre++ws) post (.inr h7);obtain ⟨c,t,e,h1,h2,h3⟩:=ze5 (yq:=yq) (za2 hd.2) post (.inr h7);have hn:=next_ws (pre:=pre) hw h1 h2 h3;rw [<-e] at hn;rw [List.append_assoc] at hb;unfold zch;rw [hn];simp only;rw [yh (by decide),hb]
def numF (n:Int):List UInt8:=zat (.mk 2 n [] [])
def grpL (g:Grp):List UInt8:=numF g.first++(32::(numF (g.es.length:Int)++(10::g.es.flatMap entL)))
def secL (s:Sec):List UInt8:=[120,114,101,102,10]++(s.gs.flatMap grpL++([116,114,97,105,108,101,114,10]++(zat s.tr++[10])))
def zcm (g:Grp):Bool:=decide (0<=g.first)&&decide (g.first<=4097)&&decide ((g.es.length:Int)<=4097-g.first)&&g.es.all zbK
def zbR (s:Sec):Int:=if 64<s.gs.length\/s.tr.kind≠7 then 2 else if s.gs.all zcm=false then 2 else zbG s.tr
def grpR (g:Grp):List UInt8:=10::(numF g.first++(32::(numF (g.es.length:Int)++g.es.flatMap fun e=>10::entB e)))
theorem zg6 (T:List UInt8):∀es:List Ent,10::(es.flatMap entL++T)=(es.flatMap fun e=>10::entB e)++10::T
 | []=>rfl
 | e::es=>by
  have:=zg6 T es;simp only [List.flatMap_cons,List.append_assoc,entL,List.cons_append,List.nil_append] at this |-;rw [this]
theorem zhg (T:List UInt8):∀gs:List Grp,10::(gs.flatMap grpL++T)=gs.flatMap grpR++10::T
 | []=>rfl
 | g::gs=>by
  have h1:=zhg T gs;have h2:=zg6 (gs.flatMap grpL++T) g.es;simp only [List.flatMap_cons,List.append_assoc,grpL,grpR,List.cons_append];rw [h2,h1]
theorem pad10 {n:Int} (h:0<=n) (h2:n<=2147483647):(padL n.toNat 10).length=10/\zaD (padL n.toNat 10)=(n,0):=by
 have h1:=zbs 9 n.toNat (by omega);have hl:(padL n.toNat 10).length=10:=zdK (by omega);have hv:=zhl n.toNat 10;have ha:=zfr n.toNat 10;refine ⟨hl,?_⟩;rw [zcr (by intro e;rw [e] at hl;cases hl) ha (by omega),hv,Int.toNat_of_nonneg h]
theorem pad5 {n:Int} (h:0<=n) (h2:n<=65535):(padL n.toNat 5).length=5/\zaD (padL n.toNat 5)=(n,0):=by
 have h1:=zbs 4 n.toNat (by omega);have hl:(padL n.toNat 5).length=5:=zdK (by omega);have hv:=zhl n.toNat 5;have ha:=zfr n.toNat 5;refine ⟨hl,?_⟩;rw [zcr (by intro e;rw [e] at hl;cases hl) ha (by omega),hv,Int.toNat_of_nonneg h]
theorem entB_len {e:Ent} (h:zbK e=true):(entB e).length=19:=by
 obtain ⟨h1,h2,h3,h4⟩:=zbx.1 h;have a:=(pad10 h1 h2).1;have b:=(pad5 h3 h4).1;unfold entB;simp only [List.length_append,List.length_cons,List.length_nil,a,b]
theorem entS_back {e:Ent} (h:zbK e=true):entS (entB e)=some e:=by
 obtain ⟨h1,h2,h3,h4⟩:=zbx.1 h;obtain ⟨a1,a2⟩:=pad10 h1 h2;obtain ⟨b1,b2⟩:=pad5 h3 h4;obtain ⟨A,G,U⟩:=e;simp only at *;unfold entB;simp only;generalize padL A.toNat 10=P at *;generalize padL G.toNat 5=Q at *
 match P,a1 with
 | [p0,p1,p2,p3,p4,p5,p6,p7,p8,p9],_ =>
 match Q,b1 with
 | [q0,q1,q2,q3,q4],_ =>
 unfold entS;simp only [List.cons_append,List.nil_append,List.take_succ_cons,List.take_zero,List.drop_succ_cons,List.drop_zero,List.getD_cons_succ,List.getD_cons_zero];rw [a2,b2];simp only
 cases U<;>simp [show ¬65535<G by omega]
theorem entB_first {e:Ent} (h:zbK e=true) (t:List UInt8):∃c u,entB e++t=c::u/\isSp c=false:=by
 obtain ⟨h1,h2,h3,h4⟩:=zbx.1 h;have a:=(pad10 h1 h2).1;have ha:=zfr e.at_.toNat 10;unfold entB;generalize padL e.at_.toNat 10=P at *
 match P,a with
 | p::P,_ =>
  simp only [List.all_cons,Bool.and_eq_true] at ha;exact ⟨p,_,rfl,(dg_sp (dg_rg ha.1)).1⟩
theorem ents_back {bs:List UInt8} (yq:Bool) (T:List UInt8):∀(es l:List Ent) (pre:List UInt8),es.all zbK=true->bs=pre++((es.flatMap fun e=>10::entB e)++T) ->
  zcq bs yq es.length pre.length l=(l++es,(pre++es.flatMap fun e=>10::entB e).length,0)
 | [],l,pre,_,_=>by simp [zcq]
 | e::es,l,pre,h,hb=>by
  simp only [List.all_cons,Bool.and_eq_true] at h;obtain ⟨h1,h2⟩:=h;have hl:=entB_len h1;simp only [List.flatMap_cons,List.append_assoc,List.cons_append] at hb;have hd:bs.drop pre.length=10::(entB e++((es.flatMap fun e=>10::entB e)++T)):=by rw [hb,List.drop_left]
  obtain ⟨c,u,hc,hs⟩:=entB_first h1 ((es.flatMap fun e=>10::entB e)++T)
  have hk:zc6 bs pre.length=pre.length+1:=by
   unfold zc6;rw [hd,hc];simp only [List.takeWhile_cons,show isSp 10=true from by decide,hs,if_true,Bool.false_eq_true,if_false,List.length_cons,List.length_nil]
  have Qi:bs.drop (pre.length+1)=entB e++((es.flatMap fun e=>10::entB e)++T):=by rw [<-List.drop_drop,hd];rfl
  have Qj:bs.length=pre.length+1+19+((es.flatMap fun e=>10::entB e)++T).length:=by rw [hb];simp only [List.length_append,List.length_cons,hl];omega
  have hv:entV bs yq pre.length=(e,pre.length+1+19,0):=by
   unfold entV;rw [hk,yh (by omega),Qi,List.take_append_of_le_length (by omega),show (entB e).take 19=entB e from List.take_of_length_le (by omega),entS_back h1]
  rw [List.length_cons,zcq,hv];simp only;rw [yh (by decide)];have ih:=ents_back (bs:=bs) yq T es (l++[e]) (pre++10::entB e) h2 (by rw [hb];simp);rw [show pre.length+1+19=(pre++10::entB e).length by simp [hl],ih];simp
theorem numF_tok {yq:Bool} {n:Int} (h0:0<=n) (h:n<=2147483647) {post:List UInt8} (hp:zcV yq post):∃c t,numF n++post=c::t/\isSp c=false/\c≠37/\tokV yq c t=(0,{ kind:=1,vk:=2,vn:=n },post):=by
 have hc:zaM 2 n true=0:=by
  unfold zaM;rw [yg ⟨rfl,.inl ⟨rfl,by omega,by omega⟩⟩]
 obtain ⟨c,w,e,hr,-⟩:=zdP hc;obtain ⟨d1,d2⟩:=dg_sp (hr c (List.mem_cons_self));refine ⟨c,w++post,?_,d1,d2,zhk hc e hp.1 hp.2⟩;unfold numF;simp only [zat];rw [yh (by decide),yh (by decide),yg (by decide),e];rfl
theorem zeB (yq:Bool) (p:List UInt8):zcV yq (10::p):=⟨fun c t h=>by cases h;decide,fun h=>by cases h⟩
theorem nxt_num {bs:List UInt8} {yq:Bool} {n:Int} (h0:0<=n) (h:n<=2147483647) {pre ws post:List UInt8} (hw:ws.all isSp=true) (hp:zcV yq post) (hb:bs=pre++(ws++(numF n++post))) :
  ∃f,nxtV bs yq pre.length=({ kind:=1,vk:=2,vn:=n },f,((pre++(ws++numF n)).length:Int),0):=by
 obtain ⟨c,t,e,h1,h2,h3⟩:=numF_tok h0 h hp;have hn:=next_ws (pre:=pre) hw h1 h2 h3;rw [<-e,<-hb] at hn;unfold nxtV;rw [hn];rw [yh (by simp)];have hl:(bs.length:Int)-post.length=((pre++(ws++numF n)).length:Int):=by rw [hb];simp;omega
 rw [hl];exact ⟨_,rfl⟩
theorem nxt_word {bs:List UInt8} {yq:Bool} {c:UInt8} {w:List UInt8} (hr:∀x∈c::w,isRg x=true) (hd:¬(isDg c=true\/c=43\/c=45\/c=46)) {pre ws post:List UInt8} (hw:ws.all isSp=true) (hp:zcV yq post)
  (hb:bs=pre++(ws++(c::(w++post)))):∃f,zan bs pre.length yq=({ kind:=6,s:=c::w },f,((pre++(ws++c::w)).length:Int),0):=by
 obtain ⟨d1,d2⟩:=dg_sp (hr c (List.mem_cons_self));have hn:=next_ws (pre:=pre) hw d1 d2 (zd5 hr hd hp);rw [<-hb] at hn;have hl:(bs.length:Int)-post.length=((pre++(ws++c::w)).length:Int):=by rw [hb];simp;omega
 rw [hl] at hn;exact ⟨_,hn⟩
theorem grps_back {bs:List UInt8} (yq:Bool) (T:List UInt8):∀(gs gs1:List Grp) (pre:List UInt8) (g:Nat),gs.all zcm=true->gs1.length+gs.length<=64->gs.length<g->bs=pre++(gs.flatMap grpR++10::([116,114,97,105,108,101,114]++10::T)) ->
  zb7 bs yq g gs1 pre.length=(gs1++gs,((pre++(gs.flatMap grpR++[10,116,114,97,105,108,101,114])).length:Int),0)
 | _,_,_,0,_,_,h,_=>by omega
 | [],gs1,pre,g+1,_,_,_,hb=>by
  obtain ⟨f,hn⟩:=nxt_word (yq:=yq) (c:=116) (w:=[114,97,105,108,101,114]) (ws:=[10]) (by decide) (by decide) (by decide) (zeB yq T) hb;unfold zb7;simp only;have hx:nxtV bs yq pre.length=zan bs pre.length yq:=by unfold nxtV;rw [hn,yh (by simp)]
  rw [hx,hn];simp only;rw [yh (by decide),yg (by decide),List.append_nil];rfl
 | q::gs,gs1,pre,g+1,h,hl,hg,hb=>by
  simp only [List.all_cons,Bool.and_eq_true] at h;obtain ⟨h1,h2⟩:=h;have hq:=h1;unfold zcm at hq;simp only [Bool.and_eq_true,decide_eq_true_eq] at hq;obtain ⟨⟨⟨q1,q2⟩,q3⟩,q4⟩:=hq;obtain ⟨F,es⟩:=q;simp only at q1 q2 q3 q4;have Qb:bs=pre++([10]++(numF F++(32::(numF (es.length:Int)++((es.flatMap fun e=>10::entB e)++(gs.flatMap grpR++10::([116,114,97,105,108,101,114]++10::T))))))):=by rw [hb];simp [grpR]
  obtain ⟨f1,n1⟩:=nxt_num (yq:=yq) q1 (by omega) (ws:=[10]) (by decide) (zgd yq _) Qb;have Ql:bs=(pre++([10]++numF F))++([32]++(numF (es.length:Int)++((es.flatMap fun e=>10::entB e)++(gs.flatMap grpR++10::([116,114,97,105,108,101,114]++10::T))))):=by rw [Qb];simp
  have QE:zcV yq ((es.flatMap fun e=>10::entB e)++(gs.flatMap grpR++10::([116,114,97,105,108,101,114]++10::T))):=by
   cases es with
   | cons e es=>exact zeB yq _
   | nil =>
    cases gs with
    | cons y gs=>exact zeB yq _
    | nil=>exact zeB yq _
  obtain ⟨f2,n2⟩:=nxt_num (yq:=yq) (show (0:Int)<=(es.length:Int) by omega) (by omega) (ws:=[32]) (by decide) QE Ql;have QM:bs=(pre++([10]++numF F)++([32]++numF (es.length:Int)))++((es.flatMap fun e=>10::entB e)++(gs.flatMap grpR++10::([116,114,97,105,108,101,114]++10::T))):=by rw [Ql];simp
  have he:=ents_back yq _ es [] _ q4 QM;have ih:=grps_back (bs:=bs) yq T gs (gs1++[⟨F,es⟩]) (pre++([10]++numF F)++([32]++numF (es.length:Int))++es.flatMap fun e=>10::entB e) g h2 (by simp at hl |-;omega) (by simp at hg;omega) (by rw [QM];simp);unfold zb7;simp only;rw [n1];simp only;rw [yh (by decide),yh (by simp [zdU]),yh (by simp [zaN]),n2];simp only;rw [yh (by decide),yh]
  ·simp only [Int.toNat_natCast]
   rw [he];simp only;rw [yh (by decide),List.nil_append,ih];simp [grpR]
  ·rintro (hw|hw|hw)
   ·simp [zaN] at hw
   ·simp at hl;omega
   ·unfold zdn at hw
    rw [yd q1,yd q2,yd q3,yd (show (0:Int)<=(es.length:Int) by omega)] at hw
    cases hw
theorem sec_back {s:Sec} (h:zbR s=0) (yq:Bool) (behind:List UInt8):secV (secL s++behind) yq 0=(s,((secL s).length:Int)-1,0):=by
 unfold zbR at h
 split at h
 ·cases h
 rename_i h1
 split at h
 ·cases h
 rename_i h2
 have h3:s.tr.kind=7:=Decidable.byContradiction fun hn=>h1 (.inr hn);have h4:s.gs.length<=64:=by have:¬64<s.gs.length:=fun hn=>h1 (.inl hn);omega
 have h5:s.gs.all zcm=true:=by simpa using h2
 obtain ⟨gs,tr⟩:=s;simp only at h h3 h4 h5
 have QF:secL ⟨gs,tr⟩++behind=[]++([]++(120::([114,101,102]++(gs.flatMap grpR++10::([116,114,97,105,108,101,114]++10::(zat tr++10::behind)))))):=by
  have:=zhg ([116,114,97,105,108,101,114]++10::(zat tr++10::behind)) gs;rw [<-this];simp [secL]
 have QE:zcV yq (gs.flatMap grpR++10::([116,114,97,105,108,101,114]++10::(zat tr++10::behind))):=by
  cases gs with
  | nil=>exact zeB yq _
  | cons g gs=>exact zeB yq _
 obtain ⟨f,n1⟩:=nxt_word (yq:=yq) (c:=120) (w:=[114,101,102]) (pre:=[]) (ws:=[]) (by decide) (by decide) (by decide) QE QF;have hg:=grps_back yq (zat tr++10::behind) gs [] [120,114,101,102] 65 h5 (by simp;omega) (by omega) (bs:=secL ⟨gs,tr⟩++behind) (by rw [QF];simp);have Qb:secL ⟨gs,tr⟩++behind=([120,114,101,102]++(gs.flatMap grpR++[10,116,114,97,105,108,101,114]))++([10]++(zat tr++10::behind)):=by rw [QF];simp
 have hd:=show_dict (yq:=yq) h h3 ([120,114,101,102]++(gs.flatMap grpR++[10,116,114,97,105,108,101,114])) [10] (10::behind) (by decide);rw [<-Qb] at hd;unfold secV;simp only;have e0:(([]:List UInt8).length:Int)=0:=rfl;rw [e0] at n1
 have ho:oneX zgE (zan (secL ⟨gs,tr⟩++behind) 0 yq)=((4:Int),0):=by
  unfold oneX;rw [n1];simp only;rw [yh (by decide),yh (by decide),yh (by decide)];rfl
 rw [ho];simp only;rw [yh (by decide),show (4:Int)=(([120,114,101,102]:List UInt8).length:Int) from rfl,hg];simp only;rw [yh (by decide),hd];simp only;rw [yh (by decide),yh (by rw [h3];decide),List.nil_append]
 congr 2
 simp;omega
end Go.Proofs.YtcmoehknppjkiaaGreatDoor
namespace Go.Proofs.YtcmoehknppjkiaaGreatDoor
open Go.RowKit
def NewAt (w:World) (v v':Value):Prop:=∀b,v'.ownBlock=some b->v.ownBlock=some b\/w.heap.size<=b
theorem zhG {P:Program} (w:World) (base:Nat) (t ty e:TypeId) (i:TypeInfo) (z:Value) (size bytes:Nat) (ht:P.underlying t=some (.slice e)) (hi:P.info? e=some i) (hz:i.zero=some z)
  (hsize:i.size=size) (hby:i.bytes=bytes) (hzs:z.cells.size=size) (hsz:0<size)
  (v:Value) (n:Nat) (xs:List Value) (hown:w.ownsRow base e size v n xs)
  (a:Addr) (m c:Nat) (news:List Value) (hl:news.length=m*size) (hnews:∀j u,news[j]?=some u->w.cell? (a.add j)=some u) (h1:∀u∈news,u.oneCell'=true)
  (h63:n+m<=maxLen) (hbytes:(n+m)*bytes<=140737488355328) (hbase:base<=w.heap.size) :
  ∃v' w',(Builtin.append_ #[t,t] ty #[v,.slice (some a) m c]).run P w=.ok v' w'/\w'.ownsRow base e size v' (n+m) (xs++news)/\w.grownBy w' v.ownBlock /\
   (v'=.slice none 0 0↔v=.slice none 0 0/\m=0)/\NewAt w v v':=by
 obtain ⟨v',w',hr,h2,h3,h4⟩:=run_append_own (P:=P) w base t ty e i z size bytes ht hi hz hsize hby hzs hsz v n xs hown a m c news hl hnews h1 h63 hbytes hbase;refine ⟨v',w',hr,h2,h3,h4,?_⟩;have QG:n+m<=9223372036854775807:=by simp only [maxLen] at h63;omega
 rcases hown.2 with ⟨rfl,hx⟩|⟨g,cap,cur,rfl,Zj,hg,Zk,Zl,Q3,QN⟩
 ·obtain ⟨v2,w2,Qc,g2,_,_⟩:=run_append_own (P:=P) w w.heap.size t ty e i z size bytes ht hi hz hsize hby hzs hsz _ n xs ⟨hown.1,.inl ⟨rfl,hx⟩⟩ a m c news hl hnews h1 h63 hbytes (yp _)
  rw [hr] at Qc;simp only [Result.ok.injEq] at Qc;obtain ⟨rfl,rfl⟩:=Qc;exact fun b hb=>.inr (g2.lt b hb).1
 ·subst hsize hby
  by_cases hroom:n+m<=cap
  ·have QH:n*i.size+news.length<=cur.size:=by rw [hl,Q3,<-Nat.add_mul];exact Nat.mul_le_mul_right _ hroom
   have Qc:=run_append_room (P:=P) w t ty e i ht hi g n cap cur hg a m c news hl hnews h1 hroom QH;rw [hr] at Qc;simp only [Result.ok.injEq] at Qc;obtain ⟨rfl,rfl⟩:=Qc;exact fun b hb=>.inl hb
  ·have Qc:=run_append_grow (P:=P) w t ty e i z ht hi hz ⟨g,0,none⟩ n cap xs hown.1 (hown.cells (g:=g) rfl) a m c news hl hnews (by omega) (by omega) (growslice_fits (by omega) hbytes)
   rw [hr] at Qc;simp only [Result.ok.injEq] at Qc;obtain ⟨rfl,rfl⟩:=Qc;intro b hb;simp [Value.ownBlock] at hb
   right;omega
theorem zcY {P:Program} {w:World} {ops:Array Oper} {rest:List Oper} {o:Oper} {a:Act} {Q:Exit->Act->World->Prop} {t e:TypeId} {z:Value} {size bytes:Nat} (T:zfo P t e z size bytes)
  (hgd:o.guard=none) (s x:Operand) (ho:o.op=.call { callee:=.builtin .append,args:=#[s,x],argTypes:=#[t,t] })
  (base:Nat) (v:Value) (n:Nat) (xs:List Value) (hs:a.eval s=v) (hown:w.ownsRow base e size v n xs)
  (ao:Option Addr) (m c:Nat) (news:List Value) (hx:a.eval x=.slice ao m c) (hr:Row w size ao m c news) (h1:∀u∈news,u.oneCell'=true)
  (h63:n+m<=maxLen) (hbytes:(n+m)*bytes<=140737488355328) (hbase:base<=w.heap.size)
  (h:∀v' w',w'.ownsRow base e size v' (n+m) (xs++news)->w.grownBy w' v.ownBlock->NewAt w v v'->wpList P ops Q rest (a.put o.dst v') w'):wpList P ops Q (o::rest) a w:=by
 obtain ⟨i,hi,hz,Q4,hb⟩:=info_parts T.info;subst hb;obtain ⟨r1,r2,r3,r4,r5⟩:=hr
 cases ao with
 | some ad =>
  refine wpList_plain hgd fun K hK=>?_
  obtain ⟨v',w',Qq,g2,g3,_,g5⟩:=zhG (P:=P) w base t o.type e i z size i.bytes T.und hi hz Q4 rfl T.cells T.pos v n xs hown ad m c news r1 (fun j u hj=>by
   by_cases hm:0<m
   ·obtain ⟨b,off,Q5,_,hc⟩:=r5 hm
    obtain rfl:=Option.some.inj Q5;rw [Addr.add_lit];exact hc j u hj
   ·obtain rfl:m=0:=by omega
    have:news=[]:=List.eq_nil_of_length_eq_zero (by simpa using r1);subst this;simp at hj) h1 h63 hbytes hbase
  unfold Oper.wp;simp [execOp,ho,resolve,invoke,builtin,hs,hx,Qq,Result.andThen];exact hK _ _ (h v' w' g2 g3 g5)
 | none =>
  obtain rfl:=r4 rfl;obtain rfl:m=0:=by omega
  have:news=[]:=List.eq_nil_of_length_eq_zero (by simpa using r1);subst this;refine wpList_plain hgd fun K hK=>?_;have Qq:=run_append_owned_none (P:=P) w base t o.type e i size T.und hi v n xs hown;unfold Oper.wp;simp [execOp,ho,resolve,invoke,builtin,hs,hx,Qq,Result.andThen];exact hK _ _ (h v w (by simpa using hown) ⟨rfl,rfl,rfl,yp _,fun _ _ _=>rfl⟩ (fun b hb=>.inl hb))
structure zak (S:Nat->Prop) (w w':World):Prop where
 os:w'.os=w.os
 tape:w'.tape=w.tape
 output:w'.output=w.output
 size:w.heap.size<=w'.heap.size
 block:∀b,b<w.heap.size->¬S b->w'.heap[b]?=w.heap[b]?
theorem zak.refl (S:Nat->Prop) (w:World):zak S w w:=⟨rfl,rfl,rfl,yp _,fun _ _ _=>rfl⟩
theorem zak.trans {S S':Nat->Prop} {a b c:World} (h:zak S a b) (k:zak S' b c) (hS:∀x,S' x->S x\/a.heap.size<=x):zak S a c :=
 ⟨k.os.trans h.os,k.tape.trans h.tape,k.output.trans h.output,Nat.le_trans h.size k.size,fun x hx hn=>(k.block x (Nat.lt_of_lt_of_le hx h.size) (fun e=>(hS x e).elim hn (fun h=>by omega))).trans (h.block x hx hn)⟩
theorem zak.of_grown {S:Nat->Prop} {w w':World} {row:Option Nat} (h:w.grownBy w' row) (hr:∀k,row=some k->S k):zak S w w' :=
 ⟨h.os,h.tape,h.output,h.size,fun b hb hn=>h.block b hb (fun e=>hn (hr b e.symm))⟩
theorem zak.of_below {S:Nat->Prop} {w w':World} {B:Nat} (h:Below B w w') (hS:∀b,B<=b->S b):zak S w w' :=
 ⟨h.os,h.tape,h.output,h.size,fun b _ hn=>h.block b (Nat.lt_of_not_le fun e=>hn (hS b e))⟩
theorem zak.below {S:Nat->Prop} {w w':World} {B:Nat} (h:zak S w w') (hB:B<=w.heap.size) (hS:∀b,S b->B<=b):Below B w w' :=
 ⟨h.os,h.tape,h.output,h.size,fun b hb=>h.block b (by omega) (fun e=>by have:=hS b e;omega)⟩
theorem zak.cell {S:Nat->Prop} {w w':World} (h:zak S w w') {b o:Nat} {v:Value} (hc:w.cell? ⟨b,o,none⟩=some v) (hn:¬S b):w'.cell? ⟨b,o,none⟩=some v:=by
 have hlt:b<w.heap.size:=World.block_lt_of_cell? w _ hc;rw [World.cell?_of_block (w:=w) (a:=⟨b,o,none⟩) (h.block b hlt hn)];exact hc
theorem zak.obj {S:Nat->Prop} {w w':World} (h:zak S w w') {b:Nat} {o:Obj} (hc:w.heap[b]?=some o) (hn:¬S b):w'.heap[b]?=some o:=by
 rw [h.block b (Array.getElem?_eq_some_iff.1 hc).1 hn];exact hc
theorem Row.keeps {S:Nat->Prop} {w w':World} {sz:Nat} {a:Option Addr} {n cap:Nat} {xs:List Value} (h:Row w sz a n cap xs) (hk:zak S w w') (hne:∀x,a=some x->¬S x.block):Row w' sz a n cap xs:=by
 obtain ⟨h1,h2,h3,h4,h5⟩:=h;refine ⟨h1,h2,h3,h4,fun hn=>?_⟩;obtain ⟨b,off,ha,hlt,hc⟩:=h5 hn;exact ⟨b,off,ha,Nat.lt_of_lt_of_le hlt hk.size,fun j u hj=>hk.cell (hc j u hj) (hne _ ha)⟩
theorem zak.weaken {S S':Nat->Prop} {w w':World} (h:zak S w w') (hS:∀b,S b->S' b):zak S' w w':=⟨h.os,h.tape,h.output,h.size,fun b hb hn=>h.block b hb (fun e=>hn (hS b e))⟩
theorem zak.drewN {S:Nat->Prop} {w w':World} (h:zak S w w') (q:Nat):zak S w (w'.drewN q):=⟨h.os,h.tape,h.output,h.size,h.block⟩
theorem zak.alloc {S:Nat->Prop} {w w':World} (h:zak S w w') (o:Obj):zak S w (w'.alloc o) :=
 ⟨h.os,h.tape,h.output,by rw [zaq];have:=h.size;omega,fun b hb hn=>(Below.heap_alloc w' o b (Nat.lt_of_lt_of_le hb h.size)).trans (h.block b hb hn)⟩
theorem zak.setCell {S:Nat->Prop} {w w':World} (h:zak S w w') {a:Addr} (ha:S a.block\/w.heap.size<=a.block) (v:Value):zak S w (w'.setCell a v) :=
 ⟨h.os,h.tape,h.output,by simpa [World.setCell] using h.size,fun b hb hn=>(heap_setCell_other w' a b v (fun e=>by rcases ha with h1|h1;exact hn (e▸h1);omega)).trans (h.block b hb hn)⟩
theorem zak.grown {S:Nat->Prop} {w w' w2:World} {row:Option Nat} (h:zak S w w') (hg:w'.grownBy w2 row) (hr:∀k,row=some k->S k\/w.heap.size<=k):zak S w w2 :=
 h.trans (zak.of_grown (S:=fun k=>row=some k) hg fun _ hk=>hk) hr
def zef (r:Int):Int:=if r<48\/57<r then -1 else r-48
theorem zcU (r:Int) (w:World) (h0:0<=r) (h1:r<=2147483647) :
  Calls Tryz.prog 189 #[.int .i32 r] w fun e w'=>e=.returned (.int .i64 (zef r))/\w=w':=by
 obtain ⟨V,hV⟩:∃V,V=zef r:=⟨_,rfl⟩;rw [<-hV];unfold zef at hV
 by_cases h2:r<48
 ·rw [yg (.inl h2)] at hV
  have HV:=yb hV;clear hV;go_enter Tryz.func189,Tryz.ntmps189
  go_wp2;go_ret;exact ⟨zaQ HV.out.symm,rfl⟩
 ·have Zm:decide (r<48)=false:=by simpa using h2
  by_cases h3:57<r
  ·rw [yg (.inr h3)] at hV
   have HV:=yb hV;clear hV;go_enter Tryz.func189,Tryz.ntmps189
   go_wp2;go_ret;exact ⟨zaQ HV.out.symm,rfl⟩
  ·rw [yh (by omega)] at hV
   have HV:=yb hV;have Zn:decide (57<r)=false:=by simpa using h3
   have Zo:48<=r:=by omega
   have Zp:r<=57:=by omega
   clear hV h2 h3;go_enter Tryz.func189,Tryz.ntmps189
   go_wp2;go_ret;exact ⟨zaQ HV.out.symm,rfl⟩
abbrev bl (s:ByteArray):List UInt8:=s.data.toList
theorem zaC (s:ByteArray):(bl s).length=s.size:=Array.length_toList
theorem bl_get (s:ByteArray) (k:Nat) (h:k<s.size):(bl s)[k]'(by rw [zaC];exact h)=s[k]:=rfl
theorem zdj (s:ByteArray) (k:Nat) (h:k<s.size):(bl s).take (k+1)=(bl s).take k++[s[k]]:=by
 rw [List.take_succ_eq_append_getElem (by rw [zaC];exact h)];rfl
theorem zeL (s:ByteArray) (k:Nat) (h:k<s.size):(bl s).drop k=s[k]::(bl s).drop (k+1):=by
 rw [List.drop_eq_getElem_cons (by rw [zaC];exact h)];rfl
theorem bl_mem (s:ByteArray) (k:Nat) (h:k<s.size):s[k]∈bl s:=by rw [<-bl_get s k h];exact List.getElem_mem _
theorem toL (s:ByteArray):s.toList=bl s:=ByteArray.toList_eq s
theorem dec_yes (s:ByteArray) (k:Nat) (h:k<s.size) (hd:isDg s[k]=true):Utf8.decode s k=(s[k].toNat,1):=by
 rw [zba] at hd;exact decode_ascii s k h (by omega)
theorem dec_no (s:ByteArray) (k:Nat) (h:k<s.size) (hd:isDg s[k]=false):zef (Utf8.decode s k).1=-1:=by
 rw [zbY] at hd;unfold zef
 by_cases h2:s[k].toNat<128
 ·rw [decode_ascii s k h h2,yg]
  simp only;omega
 ·have:=(decode_high s k h (by omega)).1
  rw [yg];omega
theorem zcX (w:World) (s:ByteArray) (k:Nat):Below w.heap.size w (w.iter s k):=zai w _
def DigEnd (V:Int×Int) (w:World) (e:Ending) (w':World):Prop:=e=.returned (.tuple #[.int .i64 V.1,.int .i64 V.2])/\Below w.heap.size w w'
theorem zc0 (s:ByteArray) (w:World) :
  Calls Tryz.prog 168 #[.string s] w (DigEnd (zaD (bl s)) w):=by
 obtain ⟨V,hV⟩:∃V,V=zaD (bl s):=⟨_,rfl⟩;rw [<-hV];have HV:=yb hV;clear hV
 by_cases he:s.toList=[]
 ·have HE:=yb (show V=(0,11) by rw [HV.out,<-toL,he];exact zgi)
  go_enter Tryz.func168,Tryz.ntmps168
  go_wp2;go_ret2;exact ⟨by rw [HE.out];rfl,Below.refl _ _⟩
 have Zq:s.toList.isEmpty=false:=by simpa using he
 have hne:bl s≠[]:=by rw [<-toL];exact he
 have QO:=yb hne;clear he hne;go_enter Tryz.func168,Tryz.ntmps168
 go_wp2
 go_loopw [4,5] (fun n o wr=>∃(k:Nat) (N:Int) (ov:Bool),k<=s.size/\n=.int .i64 N/\o=.bool ov/\wr=w.iter s k/\0<=N/\N<=2147483647/\Hid (((bl s).take k).all isDg=true)/\Hid (ov=decide (2147483647<valD ((bl s).take k)))/\Hid (ov=false->N=(valD ((bl s).take k):Nat)))
  (fun _ _ wr=>s.size-wr.iterPos w.heap.size)
 case atStart=>exact ⟨0,0,false,Nat.zero_le _,rfl,rfl,rfl,by omega,by omega,yb rfl,yb rfl,yb fun _=>rfl⟩
 case round =>
  obtain ⟨k,N,ov,hk,rfl,rfl,rfl,QP,QQ,HA,HO,HN⟩:=hrel
  by_cases hlt:k<s.size
  ·have Qh:=fun ty=>run_next_any (P:=Tryz.prog) w s k ty hlt
   have Qr:=decode_le s k
   by_cases hd:isDg s[k]=true
   ·rw [dec_yes s k hlt hd] at Qh Qr
    have hd1:=zba.1 hd;have Zr:=yb (zdw hd);have Zs:=dgV_le hd;have Qx:=yb (show ((bl s).take (k+1)).all isDg=true by rw [zdj s k hlt];exact zde _ _ HA.out hd);have QA:=yb (show valD ((bl s).take (k+1))=10*valD ((bl s).take k)+dgV s[k] by rw [zdj s k hlt];exact zb4 _ _);have Qk:=yb (show zef ((s[k].toNat:Nat):Int)=(dgV s[k]:Nat) by unfold zef;rw [yh (by omega),zdw hd]);generalize dgV s[k]=d at *;generalize s[k].toNat=c at *;clear hd;simp only at Qh Qr
    cases ov
    ·have Qy:=HN.out rfl
     have Qs:=yb Qy;clear Qy
     by_cases hov:(2147483647-(d:Int)) / 10<N
     ·have Qd:=yb (show true=decide (2147483647<valD ((bl s).take (k+1))) by
       have h1:=Qs.out;rw [QA.out,eq_comm,decide_eq_true_iff];omega)
      go_wp2_with (go_at_call 189;refine (zcU _ _ (by omega) (by omega)).mono ?_;rintro e w' ⟨rfl,rfl⟩;rw [Qk.out])
      go_roundw
      case rel=>exact ⟨k+1,N,true,by omega,rfl,rfl,rfl,QP,QQ,Qx,Qd,yb (fun h=>by cases h)⟩
      case measure=>simp;omega
     ·have Qd:=yb (show false=decide (2147483647<valD ((bl s).take (k+1))) by
       have h1:=Qs.out;rw [QA.out,eq_comm,decide_eq_false_iff_not];omega)
      have QI:=yb (show 10*N+(d:Int)=((valD ((bl s).take (k+1)):Nat):Int) by rw [QA.out,Qs.out];omega);have Q6:decide ((2147483647-(d:Int)) / 10<N)=false:=by simpa using hov
      go_wp2_with (go_at_call 189;refine (zcU _ _ (by omega) (by omega)).mono ?_;rintro e w' ⟨rfl,rfl⟩;rw [Qk.out])
      go_roundw
      case rel=>exact ⟨k+1,10*N+d,false,by omega,rfl,rfl,rfl,by omega,by omega,Qx,Qd,yb (fun _=>QI.out)⟩
      case measure=>simp;omega
    ·have Qd:=yb (show true=decide (2147483647<valD ((bl s).take (k+1))) by
      have h1:=HO.out;rw [eq_comm,decide_eq_true_iff] at h1;rw [QA.out,eq_comm,decide_eq_true_iff];omega)
     go_wp2_with (go_at_call 189;refine (zcU _ _ (by omega) (by omega)).mono ?_;rintro e w' ⟨rfl,rfl⟩;rw [Qk.out])
     go_roundw
     case rel=>exact ⟨k+1,N,true,by omega,rfl,rfl,rfl,QP,QQ,Qx,Qd,yb (fun h=>by cases h)⟩
     case measure=>simp;omega
   ·have Qi:isDg s[k]=false:=by simpa using hd
    have Qk:=yb (dec_no s k hlt Qi);have Q7:0<=(Utf8.decode s k).1:=by omega
    have HF:=yb (show V=(0,11) by rw [HV.out];exact zdt (zc7 (bl_mem s k hlt) Qi));clear hd Qi;go_wp2_with (go_at_call 189;refine (zcU _ _ (by omega) (by omega)).mono ?_;rintro e w' ⟨rfl,rfl⟩;rw [Qk.out])
    go_ret2;exact ⟨by rw [HF.out];rfl,zcX _ _ _⟩
  ·obtain rfl:k=s.size:=by omega
   have Qh:=fun ty=>run_next_end (P:=Tryz.prog) w s s.size ty hlt;have Qz:(bl s).take s.size=bl s:=by rw [<-zaC];exact List.take_length
   have HT:=yb Qz;clear Qz
   cases ov
   ·have HR:=yb (show V=(N,0) by
     have h1:=HA.out;have h2:=HO.out;have h3:=HN.out rfl;rw [HT.out] at h1 h2 h3;rw [eq_comm,decide_eq_false_iff_not] at h2;rw [HV.out,zcr QO.out h1 (by omega),h3])
    go_wp2;go_ret2;exact ⟨by rw [HR.out];rfl,zcX _ _ _⟩
   ·have HR:=yb (show V=(0,5) by
     have h1:=HA.out;have h2:=HO.out;rw [HT.out] at h1 h2;rw [eq_comm,decide_eq_true_iff] at h2;rw [HV.out,zdr QO.out h1 h2])
    go_wp2;go_ret2;exact ⟨by rw [HR.out];rfl,zcX _ _ _⟩
theorem ze0 (s:ByteArray) (w:World) :
  Calls Tryz.prog 198 #[.string s] w fun e w'=>e=.returned (.bool ((bl s).all isDg))/\Below w.heap.size w w':=by
 obtain ⟨V,hV⟩:∃V,V=(bl s).all isDg:=⟨_,rfl⟩;rw [<-hV];have HV:=yb hV;clear hV;go_enter Tryz.func198,Tryz.ntmps198
 go_wp2
 go_loopw [] (fun wr=>∃k:Nat,k<=s.size/\wr=w.iter s k/\Hid (((bl s).take k).all isDg=true)) (fun wr=>s.size-wr.iterPos w.heap.size)
 case atStart=>exact ⟨0,Nat.zero_le _,rfl,yb rfl⟩
 case round =>
  obtain ⟨k,hk,rfl,HA⟩:=hrel
  by_cases hlt:k<s.size
  ·have Qh:=fun ty=>run_next_any (P:=Tryz.prog) w s k ty hlt
   have Qr:=decode_le s k
   by_cases hd:isDg s[k]=true
   ·rw [dec_yes s k hlt hd] at Qh Qr
    have hd1:=zba.1 hd;have Zt:=dgV_le hd;have Qx:=yb (show ((bl s).take (k+1)).all isDg=true by rw [zdj s k hlt];exact zde _ _ HA.out hd);have Qk:=yb (show zef ((s[k].toNat:Nat):Int)=(dgV s[k]:Nat) by unfold zef;rw [yh (by omega),zdw hd]);generalize dgV s[k]=d at *;generalize s[k].toNat=c at *;clear hd;simp only at Qh Qr;go_wp2_with (go_at_call 189;refine (zcU _ _ (by omega) (by omega)).mono ?_;rintro e w' ⟨rfl,rfl⟩;rw [Qk.out])
    go_roundw
    case rel=>exact ⟨k+1,by omega,rfl,Qx⟩
    case measure=>simp;omega
   ·have Qi:isDg s[k]=false:=by simpa using hd
    have Qk:=yb (dec_no s k hlt Qi);have HF:=yb (show V=false by rw [HV.out];exact zc7 (bl_mem s k hlt) Qi);clear hd Qi;go_wp2_with (go_at_call 189;refine (zcU _ _ (by omega) (by omega)).mono ?_;rintro e w' ⟨rfl,rfl⟩;rw [Qk.out])
    go_ret;exact ⟨zbF (HF.out).symm,zcX _ _ _⟩
  ·obtain rfl:k=s.size:=by omega
   have Qh:=fun ty=>run_next_end (P:=Tryz.prog) w s s.size ty hlt;have Qz:(bl s).take s.size=bl s:=by rw [<-zaC];exact List.take_length
   have HR:=yb (show V=true by rw [HV.out,<-Qz];exact HA.out);clear Qz;go_wp2;go_ret;exact ⟨zbF (HR.out).symm,zcX _ _ _⟩
def mkB (l:List UInt8):ByteArray:=⟨l.toArray⟩
theorem zaR (l:List UInt8):(mkB l).size=l.length:=by unfold mkB;simp [ByteArray.size]
def pvC (v:PV) (sl:Value):List Value:=[.int .i64 v.kind,.int .i64 v.n,.string (mkB v.s),sl]
def pvA (v:PV) (sl:Value):Value:=.agg #[.int .i64 v.kind,.int .i64 v.n,.string (mkB v.s),sl]
mutual
def IsV (w:World) (F:Nat->Prop):PV->Value->Prop
 | .mk _ _ _ l,sl=>∃a cap cs,sl=.slice a l.length cap/\Row w 4 a l.length cap cs/\(0<l.length->∀x,a=some x->F x.block)/\IsVs w F l cs
def IsVs (w:World) (F:Nat->Prop):List PV->List Value->Prop
 | [],cs=>cs=[]
 | v::l,cs=>∃sl t,cs=pvC v sl++t/\IsV w F v sl/\IsVs w F l t
end
theorem IsV.mk {w:World} {F:Nat->Prop} {v:PV} {a:Option Addr} {cap:Nat} {cs:List Value} (hr:Row w 4 a v.l.length cap cs) (hF:0<v.l.length->∀x,a=some x->F x.block) (h:IsVs w F v.l cs):IsV w F v (.slice a v.l.length cap):=by
 cases v;exact ⟨a,cap,cs,rfl,hr,hF,h⟩
theorem IsV.out {w:World} {F:Nat->Prop} {v:PV} {sl:Value} (h:IsV w F v sl):∃a cap cs,sl=.slice a v.l.length cap/\Row w 4 a v.l.length cap cs/\(0<v.l.length->∀x,a=some x->F x.block)/\IsVs w F v.l cs:=by
 cases v;exact h
theorem IsV.leaf (w:World) (F:Nat->Prop) (v:PV) (h:v.l=[]):IsV w F v (.slice none 0 0):=by
 have:=IsV.mk (w:=w) (F:=F) (v:=v) (a:=none) (cap:=0) (cs:=[]) (by rw [h];exact Row.nil w 4) (by rw [h];intro h;cases h) (by rw [h];rfl);rw [h] at this;exact this
theorem IsVs.length {w:World} {F:Nat->Prop}:∀ {l:List PV} {cs:List Value},IsVs w F l cs->cs.length=l.length*4
 | [],_,h=>by cases h;rfl
 | v::l,_,⟨sl,t,h,_,ht⟩=>by subst h;have:=IsVs.length ht;simp [pvC];omega
def zaU (F:Nat->Prop) (w w':World):Prop:=w.heap.size<=w'.heap.size/\∀b,b<w.heap.size->F b->w'.heap[b]?=w.heap[b]?
theorem Row.stays {F:Nat->Prop} {w w':World} {sz:Nat} {a:Option Addr} {n cap:Nat} {xs:List Value} (h:Row w sz a n cap xs) (hk:zaU F w w') (hne:0<n->∀x,a=some x->F x.block):Row w' sz a n cap xs:=by
 obtain ⟨h1,h2,h3,h4,h5⟩:=h;refine ⟨h1,h2,h3,h4,fun hn=>?_⟩;obtain ⟨b,off,ha,hlt,hc⟩:=h5 hn;refine ⟨b,off,ha,Nat.lt_of_lt_of_le hlt hk.1,fun j u hj=>?_⟩;rw [World.cell?_of_block (w:=w) (a:=⟨b,off+j,none⟩) (hk.2 b hlt (hne hn _ ha))];exact hc j u hj
mutual
theorem IsV.keep {w w':World} {F G:Nat->Prop} (hk:zaU F w w') (hG:∀b,F b->G b):∀(v:PV) {sl:Value},IsV w F v sl->IsV w' G v sl
 | .mk _ _ _ l,_,⟨a,cap,cs,h,hr,hF,hs⟩=>⟨a,cap,cs,h,hr.stays hk hF,fun h0 x hx=>hG _ (hF h0 x hx),IsVs.keep hk hG l hs⟩
theorem IsVs.keep {w w':World} {F G:Nat->Prop} (hk:zaU F w w') (hG:∀b,F b->G b):∀(l:List PV) {cs:List Value},IsVs w F l cs->IsVs w' G l cs
 | [],_,h=>h
 | v::l,_,⟨sl,t,h,hv,ht⟩=>⟨sl,t,h,IsV.keep hk hG v hv,IsVs.keep hk hG l ht⟩
end
theorem zaU.refl (F:Nat->Prop) (w:World):zaU F w w:=⟨yp _,fun _ _ _=>rfl⟩
theorem zaU.of_below {F:Nat->Prop} {w w':World} (h:Below w.heap.size w w'):zaU F w w':=⟨h.size,fun b hb _=>h.block b hb⟩
theorem zaU.trans {F:Nat->Prop} {a b c:World} (h:zaU F a b) (k:zaU F b c):zaU F a c:=⟨Nat.le_trans h.1 k.1,fun x hx hF=>(k.2 x (Nat.lt_of_lt_of_le hx h.1) hF).trans (h.2 x hx hF)⟩
theorem IsV.below {w w':World} {F:Nat->Prop} {v:PV} {sl:Value} (h:IsV w F v sl) (hb:Below w.heap.size w w'):IsV w' F v sl:=IsV.keep (zaU.of_below hb) (fun _ h=>h) v h
theorem IsVs.below {w w':World} {F:Nat->Prop} {l:List PV} {cs:List Value} (h:IsVs w F l cs) (hb:Below w.heap.size w w'):IsVs w' F l cs:=IsVs.keep (zaU.of_below hb) (fun _ h=>h) l h
theorem IsV.weaken {w:World} {F G:Nat->Prop} {v:PV} {sl:Value} (h:IsV w F v sl) (hG:∀b,F b->G b):IsV w G v sl:=IsV.keep (zaU.refl F w) hG v h
theorem IsVs.weaken {w:World} {F G:Nat->Prop} {l:List PV} {cs:List Value} (h:IsVs w F l cs) (hG:∀b,F b->G b):IsVs w G l cs:=IsVs.keep (zaU.refl F w) hG l h
theorem IsVs.append {w:World} {F:Nat->Prop}:∀ {l m:List PV} {cs ds:List Value},IsVs w F l cs->IsVs w F m ds->IsVs w F (l++m) (cs++ds)
 | [],_,_,_,h,hm=>by cases h;exact hm
 | v::l,_,_,_,⟨sl,t,h,hv,ht⟩,hm=>⟨sl,t++_,by subst h;simp,hv,IsVs.append ht hm⟩
theorem IsVs.one {w:World} {F:Nat->Prop} {v:PV} {sl:Value} (h:IsV w F v sl):IsVs w F [v] (pvC v sl):=⟨sl,[],by simp,h,rfl⟩
theorem IsVs.snoc {w:World} {F:Nat->Prop} {l:List PV} {cs:List Value} {v:PV} {sl:Value} (h:IsVs w F l cs) (hv:IsV w F v sl):IsVs w F (l++[v]) (cs++pvC v sl):=h.append (IsVs.one hv)
theorem IsVs.get {w:World} {F:Nat->Prop}:∀ {l:List PV} {cs:List Value},IsVs w F l cs->∀(k:Nat) (v:PV),l[k]?=some v->∃sl,IsV w F v sl/\cs[k*4]?=some (.int .i64 v.kind)/\cs[k*4+1]?=some (.int .i64 v.n)/\cs[k*4+2]?=some (.string (mkB v.s))/\cs[k*4+3]?=some sl
 | [],_,_,_,_,hk=>by simp at hk
 | x::l,_,⟨sl,t,h,hv,ht⟩,0,v,hk=>by
  simp at hk;subst hk h;exact ⟨sl,hv,rfl,rfl,rfl,rfl⟩
 | x::l,_,⟨sl,t,h,hv,ht⟩,k+1,v,hk=>by
  subst h;obtain ⟨s2,h1,h2,h3,h4,h5⟩:=ht.get k v (by simpa using hk);refine ⟨s2,h1,?_,?_,?_,?_⟩
  ·rw [show (k+1)*4=4+k*4 by omega,List.getElem?_append_right (by simp [pvC])];simpa [pvC] using h2
  ·rw [show (k+1)*4+1=4+(k*4+1) by omega,List.getElem?_append_right (by simp [pvC])];simpa [pvC] using h3
  ·rw [show (k+1)*4+2=4+(k*4+2) by omega,List.getElem?_append_right (by simp [pvC])];simpa [pvC] using h4
  ·rw [show (k+1)*4+3=4+(k*4+3) by omega,List.getElem?_append_right (by simp [pvC])];simpa [pvC] using h5
theorem IsV.at {w:World} {F:Nat->Prop} {v:PV} {a:Option Addr} {n cap:Nat} (h:IsV w F v (.slice a n cap)) (hn:0<n) :
  n=v.l.length/\n<=cap/\cap<=maxLen/\∃b off,a=some ⟨b,off,none⟩/\b<w.heap.size/\F b/\∀k x,v.l[k]?=some x->∃sl,IsV w F x sl/\w.cell? ⟨b,off+k*4,none⟩=some (.int .i64 x.kind) /\
   w.cell? ⟨b,off+k*4+1,none⟩=some (.int .i64 x.n)/\w.cell? ⟨b,off+k*4+2,none⟩=some (.string (mkB x.s))/\w.cell? ⟨b,off+k*4+3,none⟩=some sl:=by
 obtain ⟨a',cap',cs,e,hr,hF,hs⟩:=h.out;simp only [Value.slice.injEq] at e;obtain ⟨rfl,rfl,rfl⟩:=e;obtain ⟨b,off,rfl,hb,hc⟩:=hr.2.2.2.2 hn;refine ⟨rfl,hr.2.1,hr.2.2.1,b,off,rfl,hb,hF hn _ rfl,fun k x hx=>?_⟩;obtain ⟨sl,h1,h2,h3,h4,h5⟩:=hs.get k x hx;exact ⟨sl,h1,hc _ _ h2,(Nat.add_assoc off (k*4) 1).symm▸hc _ _ h3,(Nat.add_assoc off (k*4) 2).symm▸hc _ _ h4,(Nat.add_assoc off (k*4) 3).symm▸hc _ _ h5⟩
theorem IsV.len {w:World} {F:Nat->Prop} {v:PV} {sl:Value} (h:IsV w F v sl):∃a cap,sl=.slice a v.l.length cap/\v.l.length<=cap/\cap<=maxLen/\(a=none->cap=0):=by
 obtain ⟨a,cap,cs,e,hr,_⟩:=h.out;exact ⟨a,cap,e,hr.2.1,hr.2.2.1,hr.2.2.2.1⟩
theorem zdD:∀(l:List UInt8) (c:UInt8),Lib.indexByte l c=-1->c∉l
 | [],_,_=>by simp
 | b::l,c,h=>by
  have hg:=Lib.indexByte_ge l c;unfold Lib.indexByte at h
  split at h
  ·omega
  ·rename_i hb
   split at h
   ·rename_i h1
    have:=zdD l c (by simpa using h1);simp at hb;simp [this,Ne.symm hb]
   ·rename_i h1
    simp at h1;omega
theorem zdJ:∀(l:List UInt8) (c:UInt8) (i:Nat),Lib.indexByte l c=(i:Int)->∃w t,l=w++c::t/\w.length=i/\c∉w
 | [],_,_,h=>by unfold Lib.indexByte at h;omega
 | b::l,c,i,h=>by
  have hg:=Lib.indexByte_ge l c;unfold Lib.indexByte at h
  split at h
  ·rename_i hb
   have:b=c:=by simpa using hb
   exact ⟨[],l,by simp [this],by simp;omega,by simp⟩
  ·rename_i hb
   split at h
   ·omega
   ·rename_i h1
    simp at h1;obtain ⟨w,t,e1,e2,e3⟩:=zdJ l c (i-1) (by omega);simp at hb;exact ⟨b::w,t,by simp [e1],by simp;omega,by simp [e3,Ne.symm hb]⟩
set_option maxRecDepth 100000 in
theorem sidx_any (s:ByteArray) (c:Int) (w:World) :
  Calls Tryz.prog 153 #[.string s,.int .u8 c] w fun e w'=>e=.returned (.int .i64 (Lib.indexByte (bl s) c.toNat.toUInt8))/\w=w':=by
 go_enter Tryz.func153,Tryz.ntmps153
 go_wp2;rw [run_callFunc_extern Tryz.func176 (by kernel_rfl) (by kernel_rfl) (by kernel_rfl) (e:=Extern.BytealgIndexByte.indexByte) (by kernel_rfl),Lib.run_indexByteString];simp only [Result.andThen];rw [Oper.upon_value];go_wp2;go_ret;exact ⟨rfl,rfl⟩
theorem zd7 (s:ByteArray) (c:Int) (w:World) :
  Calls Tryz.prog 121 #[.string s,.int .u8 c] w fun e w'=>e=.returned (.int .i64 (Lib.indexByte (bl s) c.toNat.toUInt8))/\w=w':=by
 go_enter Tryz.func121,Tryz.ntmps121
 go_wp2_with (go_at_call 153;refine (sidx_any _ _ _).mono ?_;rintro e w' ⟨rfl,rfl⟩)
 go_ret;exact ⟨rfl,rfl⟩
theorem zgt (s:ByteArray) (w:World) :
  Calls Tryz.prog 210 #[.string s,.string ⟨#[46]⟩] w fun e w'=>e=.returned (.int .i64 (Lib.indexByte (bl s) 46))/\w=w':=by
 obtain ⟨V,hV⟩:∃V,V=Lib.indexByte (bl s) 46:=⟨_,rfl⟩;rw [<-hV];have HV:=yb hV;clear hV
 by_cases h:s.toList=[46]
 ·have HE:=yb (show V=0 by rw [HV.out,<-toL,h];rfl)
  go_enter Tryz.func210,Tryz.ntmps210
  go_wp2;go_ret;exact ⟨zaQ HE.out.symm,rfl⟩
 ·have h2:([46]==s.toList)=false:=by rw [yf];exact fun e=>h e.symm
  clear h;go_enter Tryz.func210,Tryz.ntmps210
  go_wp2_with (go_at_call 153;refine (sidx_any _ _ _).mono ?_;rintro e w' ⟨rfl,rfl⟩)
  go_ret;exact ⟨zaQ HV.out.symm,rfl⟩
def CutEnd (s:ByteArray) (w:World) (e:Ending) (w':World):Prop :=
 ∃W R:ByteArray,e=.returned (.tuple #[.string W,.string R,.bool (zeK (bl s))])/\bl W=zbD (bl s)/\bl R=zc2 (bl s)/\W.size<=s.size/\R.size<=s.size/\∃q,w'=w.drewN q
theorem bl_ext (s:ByteArray) (i j:Nat):bl (s.extract i j)=((bl s).drop i).take (j-i):=by
 unfold bl;rw [ByteArray.data_extract,Array.toList_extract]
theorem bl_to (s:ByteArray) (i:Nat):bl (s.extract 0 i)=(bl s).take i:=by rw [bl_ext];rfl
theorem bl_from (s:ByteArray) (i:Nat):bl (s.extract i s.size)=(bl s).drop i:=by
 rw [bl_ext,List.take_of_length_le];rw [ym,zaC];exact yp _
theorem ret_tup3 {a b a' b':ByteArray} {p p':Bool} (h1:a=a') (h2:b=b') (h3:p=p'):Ending.returned (.tuple #[.string a,.string b,.bool p])=Ending.returned (.tuple #[.string a',.string b',.bool p']):=by rw [h1,h2,h3]
theorem cut1_any (s:ByteArray) (w:World) (hs:s.size<=4611686018427387904) :
  Calls Tryz.prog 208 #[.string s,.string ⟨#[46]⟩] w (CutEnd s w):=by
 have QR:=Lib.indexByte_ge (bl s) 46
 by_cases hneg:Lib.indexByte (bl s) 46=-1
 ·have hn:=zdD _ _ hneg
  obtain ⟨t1,t2,t3⟩:=tw_none (bl s) (fun x hx e=>hn (e▸hx));have HT:=yb (And.intro t1 (And.intro t2 t3));clear t1 t2 t3 hn QR;go_enter Tryz.func208,Tryz.ntmps208
  go_wp2_with (go_at_call 210;refine (zgt _ _).mono ?_;rintro e w' ⟨rfl,rfl⟩;rw [hneg])
  go_ret3
  exact ⟨s,⟨#[]⟩,ret_tup3 rfl rfl HT.out.2.2.symm,HT.out.1.symm,HT.out.2.1.symm,yp _,Nat.zero_le _,0,rfl⟩
 ·obtain ⟨i,hi⟩:=Int.eq_ofNat_of_zero_le (show 0<=Lib.indexByte (bl s) 46 by omega)
  obtain ⟨a,t,e1,e2,e3⟩:=zdJ _ _ _ hi;have Qj:=congrArg List.length e1;rw [zaC] at Qj;simp only [List.length_append,List.length_cons,e2] at Qj;have hlt:i<s.size:=by omega
  obtain ⟨t1,t2,t3⟩:=tw_app a t (fun x hx e=>e3 (e▸hx));have h1:bl (s.extract 0 i)=zbD (bl s):=by rw [bl_to,e1,t1,<-e2];simp
  have h2:bl (s.extract (i+1) s.size)=zc2 (bl s):=by
   rw [bl_from,e1,t2,<-e2,List.drop_append,Nat.add_sub_cancel_left,List.drop_of_length_le (by omega)];rfl
  have HT:=yb (And.intro h1 (And.intro h2 (show zeK (bl s)=true by rw [e1];exact t3)));have HI:=yb hi;clear t1 t2 t3 h1 h2 e1 e2 e3 Qj QR hi hneg;go_enter Tryz.func208,Tryz.ntmps208
  go_wp2_with (go_at_call 210;refine (zgt _ _).mono ?_;rintro e w' ⟨rfl,rfl⟩;rw [HI.out])
  go_quiet (fail)
  go_wp2
  go_ret3
  exact ⟨_,_,ret_tup3 rfl rfl HT.out.2.2.symm,HT.out.1,HT.out.2.1,by rw [ByteArray.size_extract];omega,by rw [ByteArray.size_extract];omega,_,rfl⟩
theorem cut_any (s:ByteArray) (w:World) (hs:s.size<=4611686018427387904) :
  Calls Tryz.prog 197 #[.string s,.string ⟨#[46]⟩] w (CutEnd s w):=by
 have HC:=yb (fun W=>cut1_any s W hs);go_enter Tryz.func197,Tryz.ntmps197
 go_wp2_with (go_at_call 208;refine (HC.out _).mono ?_;rintro e w' ⟨W,R,rfl,h1,h2,h3,h4,q,rfl⟩;have H1:=yb h1;have H2:=yb h2;clear h1 h2)
 go_ret3
 exact ⟨W,R,rfl,H1.out,H2.out,h3,h4,q,rfl⟩
def hd1 (s:ByteArray) (c:UInt8):Bool:=decide ((bl s).head?=some c)
theorem pre1_any (s:ByteArray) (c:UInt8) (w:World) (hs:s.size<=4611686018427387904) :
  Calls Tryz.prog 151 #[.string s,.string ⟨#[c]⟩] w fun e w'=>e=.returned (.bool (hd1 s c))/\w=w':=by
 by_cases h0:0<s.size
 ·have hx:(s.extract 0 1).toList=[s[0]]:=by
   rw [toL,bl_to];have:=zdj s 0 h0
   simpa using this
  have HV:=yb (show hd1 s c=(s[0]==c) by
   unfold hd1;have h1:=zeL s 0 h0;rw [List.drop_zero] at h1;rw [h1,List.head?_cons,Bool.eq_iff_iff];simp)
  have h1:(1:Int)<=s.size:=by omega
  have Q8:decide (1<=s.size)=true:=yd (by omega);go_enter Tryz.func151,Tryz.ntmps151
  go_wp2;go_ret;exact ⟨zbF HV.out.symm,rfl⟩
 ·have h1:¬(1:Int)<=s.size:=by omega
  have Q8:decide ((1:Int)<=s.size)=false:=by simpa using h1
  have Zu:decide (1<=s.size)=false:=ye (by omega)
  have HV:=yb (show hd1 s c=false by
   unfold hd1;have h1:bl s=[]:=List.eq_nil_of_length_eq_zero (by rw [zaC];omega);rw [h1];rfl)
  go_enter Tryz.func151,Tryz.ntmps151
  go_wp2;go_ret;exact ⟨zbF HV.out.symm,rfl⟩
theorem zfY (s:ByteArray) (c:UInt8) (w:World) (hs:s.size<=4611686018427387904) :
  Calls Tryz.prog 116 #[.string s,.string ⟨#[c]⟩] w fun e w'=>e=.returned (.bool (hd1 s c))/\w=w':=by
 have HC:=yb (fun W=>pre1_any s c W hs);go_enter Tryz.func116,Tryz.ntmps116
 go_wp2_with (go_at_call 151;refine (HC.out _).mono ?_;rintro e w' ⟨rfl,rfl⟩)
 go_ret;exact ⟨rfl,rfl⟩
def spI (x:Int):Bool:=decide (x=0\/x=9\/x=10\/x=12\/x=13\/x=32)
def dlI (x:Int):Bool:=decide (x=40\/x=41\/x=60\/x=62\/x=91\/x=93\/x=123\/x=125\/x=47\/x=37)
theorem zdS (c:UInt8) (n:Nat) (hn:n<256):c=UInt8.ofNat n↔(c.toNat:Int)=(n:Int):=by
 constructor
 ·rintro rfl;rw [UInt8.toNat_ofNat'];omega
 ·intro h;apply UInt8.toNat_inj.1;rw [UInt8.toNat_ofNat'];omega
theorem ze7 (c:UInt8):isSp c=spI c.toNat:=by
 unfold isSp spI;rw [Bool.eq_iff_iff];simp only [Bool.or_eq_true,beq_iff_eq,decide_eq_true_iff,or_assoc];rw [show c=0↔_ from zdS c 0 (by omega),show c=9↔_ from zdS c 9 (by omega),show c=10↔_ from zdS c 10 (by omega),show c=12↔_ from zdS c 12 (by omega),show c=13↔_ from zdS c 13 (by omega),show c=32↔_ from zdS c 32 (by omega)];rfl
theorem zb6 (c:UInt8):isDl c=dlI c.toNat:=by
 unfold isDl dlI;rw [Bool.eq_iff_iff];simp only [Bool.or_eq_true,beq_iff_eq,decide_eq_true_iff,or_assoc];rw [show c=40↔_ from zdS c 40 (by omega),show c=41↔_ from zdS c 41 (by omega),show c=60↔_ from zdS c 60 (by omega),show c=62↔_ from zdS c 62 (by omega),show c=91↔_ from zdS c 91 (by omega),show c=93↔_ from zdS c 93 (by omega),show c=123↔_ from zdS c 123 (by omega),show c=125↔_ from zdS c 125 (by omega),show c=47↔_ from zdS c 47 (by omega),show c=37↔_ from zdS c 37 (by omega)];rfl
def rgI (x:Int):Bool:=!spI x&&!dlI x
theorem rgI_eq (c:UInt8):isRg c=rgI c.toNat:=by unfold isRg rgI;rw [ze7,zb6]
def hexI (x:Int):Int:=if 48<=x/\x<=57 then x-48 else if 97<=x/\x<=102 then x-87 else if 65<=x/\x<=70 then x-55 else -1
theorem zhV (c:UInt8):hexD c=hexI c.toNat:=by
 unfold hexD hexI
 repeat' split
 all_goals omega
theorem sp_136 (x:Int) (w:World):Calls Tryz.prog 136 #[.int .u8 x] w fun e w'=>e=.returned (.bool (spI x))/\w=w':=by
 obtain ⟨V,hV⟩:∃V,V=spI x:=⟨_,rfl⟩;rw [<-hV];have HV:=yb hV;clear hV
 by_cases h:x=0\/x=9\/x=10\/x=12\/x=13\/x=32
 ·have HL:=yb (show V=true by rw [HV.out];exact yd h)
  rcases h with rfl|rfl|rfl|rfl|rfl|rfl
  all_goals
   go_enter Tryz.func136,Tryz.ntmps136
   go_wp2;go_ret;exact ⟨zbF HL.out.symm,rfl⟩
 ·have HL:=yb (show V=false by rw [HV.out];exact ye h)
  have e0:(x==0)=false:=by rw [yf];omega
  have e1:(x==9)=false:=by rw [yf];omega
  have e2:(x==10)=false:=by rw [yf];omega
  have e3:(x==12)=false:=by rw [yf];omega
  have e4:(x==13)=false:=by rw [yf];omega
  have e5:(x==32)=false:=by rw [yf];omega
  clear h;go_enter Tryz.func136,Tryz.ntmps136
  go_wp2;go_ret;exact ⟨zbF HL.out.symm,rfl⟩
theorem sp_67 (x:Int) (w:World):Calls Tryz.prog 67 #[.int .u8 x] w fun e w'=>e=.returned (.bool (spI x))/\w=w':=by
 obtain ⟨V,hV⟩:∃V,V=spI x:=⟨_,rfl⟩;rw [<-hV];have HV:=yb hV;clear hV
 by_cases h:x=0\/x=9\/x=10\/x=12\/x=13\/x=32
 ·have HL:=yb (show V=true by rw [HV.out];exact yd h)
  rcases h with rfl|rfl|rfl|rfl|rfl|rfl
  all_goals
   go_enter Tryz.func67,Tryz.ntmps67
   go_wp2;go_ret;exact ⟨zbF HL.out.symm,rfl⟩
 ·have HL:=yb (show V=false by rw [HV.out];exact ye h)
  have e0:(x==0)=false:=by rw [yf];omega
  have e1:(x==9)=false:=by rw [yf];omega
  have e2:(x==10)=false:=by rw [yf];omega
  have e3:(x==12)=false:=by rw [yf];omega
  have e4:(x==13)=false:=by rw [yf];omega
  have e5:(x==32)=false:=by rw [yf];omega
  clear h;go_enter Tryz.func67,Tryz.ntmps67
  go_wp2;go_ret;exact ⟨zbF HL.out.symm,rfl⟩
theorem zec (x:Int) (w:World):Calls Tryz.prog 136 #[.int .u8 x] w fun e w'=>e=.returned (.bool (spI x))/\w=w':=sp_136 x w
theorem zdG (x:Int) (w:World):Calls Tryz.prog 67 #[.int .u8 x] w fun e w'=>e=.returned (.bool (spI x))/\w=w':=sp_67 x w
theorem zaV (x:Int) (w:World):Calls Tryz.prog 82 #[.int .u8 x] w fun e w'=>e=.returned (.bool (dlI x))/\w=w':=by
 obtain ⟨V,hV⟩:∃V,V=dlI x:=⟨_,rfl⟩;rw [<-hV];have HV:=yb hV;clear hV
 by_cases h:x=40\/x=41\/x=60\/x=62\/x=91\/x=93\/x=123\/x=125\/x=47\/x=37
 ·have HL:=yb (show V=true by rw [HV.out];exact yd h)
  rcases h with rfl|rfl|rfl|rfl|rfl|rfl|rfl|rfl|rfl|rfl
  all_goals
   go_enter Tryz.func82,Tryz.ntmps82
   go_wp2;go_ret;exact ⟨zbF HL.out.symm,rfl⟩
 ·have HL:=yb (show V=false by rw [HV.out];exact ye h)
  have e0:(x==40)=false:=by rw [yf];omega
  have e1:(x==41)=false:=by rw [yf];omega
  have e2:(x==60)=false:=by rw [yf];omega
  have e3:(x==62)=false:=by rw [yf];omega
  have e4:(x==91)=false:=by rw [yf];omega
  have e5:(x==93)=false:=by rw [yf];omega
  have e6:(x==123)=false:=by rw [yf];omega
  have e7:(x==125)=false:=by rw [yf];omega
  have e8:(x==47)=false:=by rw [yf];omega
  have e9:(x==37)=false:=by rw [yf];omega
  clear h;go_enter Tryz.func82,Tryz.ntmps82
  go_wp2;go_ret;exact ⟨zbF HL.out.symm,rfl⟩
theorem dl_idx (c:UInt8):decide (0<=Lib.indexByte [40,41,60,62,91,93,123,125,47,37] c)=dlI c.toNat:=by
 rw [<-zb6];have hg:=Lib.indexByte_ge [40,41,60,62,91,93,123,125,47,37] c
 by_cases h:Lib.indexByte [40,41,60,62,91,93,123,125,47,37] c=-1
 ·have:=zdD _ _ h
  rw [h];simp at this;simp [isDl,this]
 ·obtain ⟨i,hi⟩:=Int.eq_ofNat_of_zero_le (show 0<=Lib.indexByte [40,41,60,62,91,93,123,125,47,37] c by omega)
  obtain ⟨a,t,e,-,-⟩:=zdJ _ _ _ hi;have hm:c∈([40,41,60,62,91,93,123,125,47,37]:List UInt8):=by rw [e];simp
  rw [hi,yd (by omega)];simp at hm;rcases hm with rfl|rfl|rfl|rfl|rfl|rfl|rfl|rfl|rfl|rfl<;>rfl
theorem u8_back (c:UInt8):((c.toNat:Int)).toNat.toUInt8=c:=by simp
theorem delim_any (c:UInt8) (w:World):Calls Tryz.prog 132 #[.int .u8 c.toNat] w fun e w'=>e=.returned (.bool (dlI c.toNat))/\w=w':=by
 have HV:=yb (dl_idx c);have hS:=fun W=>zd7 ⟨#[40,41,60,62,91,93,123,125,47,37]⟩ (c.toNat:Int) W;rw [u8_back] at hS;have QS:∀W,Calls Tryz.prog 121 #[.string ⟨#[40,41,60,62,91,93,123,125,47,37]⟩,.int .u8 c.toNat] W fun e w'=>e=.returned (.int .i64 (Lib.indexByte [40,41,60,62,91,93,123,125,47,37] c))/\W=w':=hS;have HS:=yb QS;clear hS QS;generalize dlI c.toNat=V at *;generalize Lib.indexByte [40,41,60,62,91,93,123,125,47,37] c=I at *;go_enter Tryz.func132,Tryz.ntmps132
 go_wp2_with (go_at_call 121;refine (HS.out _).mono ?_;rintro e w' ⟨rfl,rfl⟩)
 go_ret;exact ⟨zbF HV.out,rfl⟩
theorem zfR (c:UInt8) (w:World):Calls Tryz.prog 161 #[.int .u8 c.toNat] w fun e w'=>e=.returned (.bool (rgI c.toNat))/\w=w':=by
 have HV:=yb (show rgI c.toNat=(!spI c.toNat&&!dlI c.toNat) from rfl);have HS:=yb (fun W=>zec c.toNat W);have HD:=yb (fun W=>delim_any c W);generalize dlI c.toNat=b at *;generalize spI c.toNat=a at *;generalize rgI c.toNat=V at *
 cases a
 all_goals
  go_enter Tryz.func161,Tryz.ntmps161
  go_wp2_with (first
   |(go_at_call 136;refine (HS.out _).mono ?_;rintro e w' ⟨rfl,rfl⟩)
   |(go_at_call 132;refine (HD.out _).mono ?_;rintro e w' ⟨rfl,rfl⟩))
  go_ret;exact ⟨zbF (by rw [HV.out];rfl),rfl⟩
theorem hx_187 (x:Int) (w:World) (h0:0<=x) (h1:x<=255):Calls Tryz.prog 187 #[.int .u8 x] w fun e w'=>e=.returned (.int .i64 (hexI x))/\w=w':=by
 obtain ⟨V,hV⟩:∃V,V=hexI x:=⟨_,rfl⟩;rw [<-hV];unfold hexI at hV;have d48:∀b,decide (48<=x)=b->decide (48<=x)=b:=fun _ h=>h
 by_cases ha:48<=x
 ·by_cases hb:x<=57
  ·rw [yg ⟨ha,hb⟩] at hV
   have HV:=yb hV;clear hV;go_enter Tryz.func187,Tryz.ntmps187
   go_wp2;go_ret;exact ⟨zaQ (by rw [HV.out]),rfl⟩
  ·rw [yh (by omega)] at hV
   have Q9:decide (x<=57)=false:=by simpa using hb
   by_cases hc:97<=x
   ·by_cases hd:x<=102
    ·rw [yg ⟨hc,hd⟩] at hV
     have HV:=yb hV;clear hV hb;go_enter Tryz.func187,Tryz.ntmps187
     go_wp2;go_ret;exact ⟨zaQ (by have:=HV.out;omega),rfl⟩
    ·rw [yh (by omega),yh (by omega)] at hV
     have Za:decide (x<=102)=false:=by simpa using hd
     have he:65<=x:=by omega
     have QJ:decide (x<=70)=false:=by simp;omega
     have HV:=yb hV;clear hV hb hd;go_enter Tryz.func187,Tryz.ntmps187
     go_wp2;go_ret;exact ⟨zaQ (by rw [HV.out]),rfl⟩
   ·rw [yh (by omega)] at hV
    have QK:decide (97<=x)=false:=by simpa using hc
    by_cases he:65<=x
    ·by_cases hf:x<=70
     ·rw [yg ⟨he,hf⟩] at hV
      have HV:=yb hV;clear hV hb hc;go_enter Tryz.func187,Tryz.ntmps187
      go_wp2;go_ret;exact ⟨zaQ (by have:=HV.out;omega),rfl⟩
     ·rw [yh (by omega)] at hV
      have QJ:decide (x<=70)=false:=by simpa using hf
      have HV:=yb hV;clear hV hb hc hf;go_enter Tryz.func187,Tryz.ntmps187
      go_wp2;go_ret;exact ⟨zaQ (by rw [HV.out]),rfl⟩
    ·rw [yh (by omega)] at hV
     have QL:decide (65<=x)=false:=by simpa using he
     have HV:=yb hV;clear hV hb hc he;go_enter Tryz.func187,Tryz.ntmps187
     go_wp2;go_ret;exact ⟨zaQ (by rw [HV.out]),rfl⟩
 ·rw [yh (by omega),yh (by omega),yh (by omega)] at hV
  have Zb:decide (48<=x)=false:=by simpa using ha
  have QK:decide (97<=x)=false:=ye (by omega);have QL:decide (65<=x)=false:=ye (by omega);have HV:=yb hV;clear hV ha d48;go_enter Tryz.func187,Tryz.ntmps187
  go_wp2;go_ret;exact ⟨zaQ (by rw [HV.out]),rfl⟩
theorem hx_144 (x:Int) (w:World) (h0:0<=x) (h1:x<=255):Calls Tryz.prog 144 #[.int .u8 x] w fun e w'=>e=.returned (.int .i64 (hexI x))/\w=w':=by
 obtain ⟨V,hV⟩:∃V,V=hexI x:=⟨_,rfl⟩;rw [<-hV];unfold hexI at hV;have d48:∀b,decide (48<=x)=b->decide (48<=x)=b:=fun _ h=>h
 by_cases ha:48<=x
 ·by_cases hb:x<=57
  ·rw [yg ⟨ha,hb⟩] at hV
   have HV:=yb hV;clear hV;go_enter Tryz.func144,Tryz.ntmps144
   go_wp2;go_ret;exact ⟨zaQ (by rw [HV.out]),rfl⟩
  ·rw [yh (by omega)] at hV
   have Q9:decide (x<=57)=false:=by simpa using hb
   by_cases hc:97<=x
   ·by_cases hd:x<=102
    ·rw [yg ⟨hc,hd⟩] at hV
     have HV:=yb hV;clear hV hb;go_enter Tryz.func144,Tryz.ntmps144
     go_wp2;go_ret;exact ⟨zaQ (by have:=HV.out;omega),rfl⟩
    ·rw [yh (by omega),yh (by omega)] at hV
     have Za:decide (x<=102)=false:=by simpa using hd
     have he:65<=x:=by omega
     have QJ:decide (x<=70)=false:=by simp;omega
     have HV:=yb hV;clear hV hb hd;go_enter Tryz.func144,Tryz.ntmps144
     go_wp2;go_ret;exact ⟨zaQ (by rw [HV.out]),rfl⟩
   ·rw [yh (by omega)] at hV
    have QK:decide (97<=x)=false:=by simpa using hc
    by_cases he:65<=x
    ·by_cases hf:x<=70
     ·rw [yg ⟨he,hf⟩] at hV
      have HV:=yb hV;clear hV hb hc;go_enter Tryz.func144,Tryz.ntmps144
      go_wp2;go_ret;exact ⟨zaQ (by have:=HV.out;omega),rfl⟩
     ·rw [yh (by omega)] at hV
      have QJ:decide (x<=70)=false:=by simpa using hf
      have HV:=yb hV;clear hV hb hc hf;go_enter Tryz.func144,Tryz.ntmps144
      go_wp2;go_ret;exact ⟨zaQ (by rw [HV.out]),rfl⟩
    ·rw [yh (by omega)] at hV
     have QL:decide (65<=x)=false:=by simpa using he
     have HV:=yb hV;clear hV hb hc he;go_enter Tryz.func144,Tryz.ntmps144
     go_wp2;go_ret;exact ⟨zaQ (by rw [HV.out]),rfl⟩
 ·rw [yh (by omega),yh (by omega),yh (by omega)] at hV
  have Zb:decide (48<=x)=false:=by simpa using ha
  have QK:decide (97<=x)=false:=ye (by omega);have QL:decide (65<=x)=false:=ye (by omega);have HV:=yb hV;clear hV ha d48;go_enter Tryz.func144,Tryz.ntmps144
  go_wp2;go_ret;exact ⟨zaQ (by rw [HV.out]),rfl⟩
theorem hex_any (c:UInt8) (w:World):Calls Tryz.prog 187 #[.int .u8 c.toNat] w fun e w'=>e=.returned (.int .i64 (hexD c))/\w=w':=by
 rw [zhV];exact hx_187 _ w (by omega) (by have:=c.toNat_lt;omega)
theorem zhX (c:UInt8) (w:World):Calls Tryz.prog 144 #[.int .u8 c.toNat] w fun e w'=>e=.returned (.int .i64 (hexD c))/\w=w':=by
 rw [zhV];exact hx_144 _ w (by omega) (by have:=c.toNat_lt;omega)
theorem zhJ (yq:Bool) (w:World):Calls Tryz.prog 145 #[.bool yq] w fun e w'=>e=.returned (.int .i64 (zbf yq))/\w=w':=by
 have HV:=yb (show zbf yq=if yq=true then 10 else 6 by unfold zbf;cases yq<;>rfl)
 generalize zbf yq=V at *
 cases yq
 all_goals
  go_enter Tryz.func145,Tryz.ntmps145
  go_wp2;go_ret;exact ⟨zaQ (by rw [HV.out];rfl),rfl⟩
def u8C (b:UInt8):Value:=.int .u8 b.toNat
structure Src where
 a:Option Addr
 cap:Nat
 bs:List UInt8
 yq:Bool
def scV (X:Src) (ad v:Value) (k:Nat):Array Value:=#[ad,v,.slice X.a X.bs.length X.cap,.int .i64 k,.bool X.yq]
structure IsSc (w:World) (S:Nat->Prop) (p:Nat) (X:Src) (out:List UInt8) (k:Nat) (ad v:Value):Prop where
 blk:w.heap[p]?=some (.cells (scV X ad v k) 192 (0,0))
 ad_:ad=.pointer none\/ad=.pointer (some ⟨p,0,none⟩)
 row:w.ownsRow (p+1) 5 1 v out.length (out.map u8C)
 at_:∀b,v.ownBlock=some b->S b
 own:S p
 lt:∀b,S b->p<=b/\b<w.heap.size
 src:Row w 1 X.a X.bs.length X.cap (X.bs.map u8C)
 srcb:∀x,X.a=some x->x.block<p
 le:k<=X.bs.length
 small:X.bs.length<=400000
 outl:out.length<=k
 nil_:out=[]->v=.slice none 0 0
def ScQ (w:World) (S:Nat->Prop) (p:Nat) (X:Src) (out:List UInt8) (k:Nat):Prop:=∃ad v,IsSc w S p X out k ad v
def zar (w:World) (S:Nat->Prop) (p:Nat) (X:Src) (out:List UInt8) (k:Nat) (w':World):Prop:=∃S',ScQ w' S' p X out k/\zak S w w'/\∀b,S' b->S b\/w.heap.size<=b
theorem zar.refl {w:World} {S:Nat->Prop} {p:Nat} {X:Src} {out:List UInt8} {k:Nat} (h:ScQ w S p X out k):zar w S p X out k w:=⟨S,h,zak.refl _ _,fun _ h=>.inl h⟩
theorem zar.trans {w w1 w2:World} {S S1:Nat->Prop} {p:Nat} {X:Src} {out:List UInt8} {k:Nat} (hk:zak S w w1) (hs:∀b,S1 b->S b\/w.heap.size<=b) (h2:zar w1 S1 p X out k w2):zar w S p X out k w2:=by
 obtain ⟨S2,q,k2,s⟩:=h2;exact ⟨S2,q,hk.trans k2 hs,fun b hb=>(s b hb).elim (hs b) (fun h=>.inr (Nat.le_trans hk.size h))⟩
theorem IsSc.keep {w w':World} {S:Nat->Prop} {p:Nat} {X:Src} {out:List UInt8} {k:Nat} {ad v:Value} (h:IsSc w S p X out k ad v) (hb:Below w.heap.size w w'):IsSc w' S p X out k ad v :=
 ⟨zab hb h.blk,h.ad_,zbh h.row hb,h.at_,h.own,fun b hS=>⟨(h.lt b hS).1,Nat.lt_of_lt_of_le (h.lt b hS).2 hb.size⟩,h.src.mono hb,h.srcb,h.le,h.small,h.outl,h.nil_⟩
theorem ScQ.keep {w w':World} {S:Nat->Prop} {p:Nat} {X:Src} {out:List UInt8} {k:Nat} (h:ScQ w S p X out k) (hb:Below w.heap.size w w'):ScQ w' S p X out k:=by
 obtain ⟨ad,v,h⟩:=h;exact ⟨ad,v,h.keep hb⟩
theorem ScQ.drewN {w:World} {S:Nat->Prop} {p:Nat} {X:Src} {out:List UInt8} {k:Nat} (h:ScQ w S p X out k) (q:Nat):ScQ (w.drewN q) S p X out k:=h.keep (zag (Below.refl _ _) q)
theorem IsSc.cells {w:World} {S:Nat->Prop} {p:Nat} {X:Src} {out:List UInt8} {k:Nat} {ad v:Value} (h:IsSc w S p X out k ad v) :
  w.cell? ⟨p,0,none⟩=some ad/\w.cell? ⟨p,1,none⟩=some v/\w.cell? ⟨p,2,none⟩=some (.slice X.a X.bs.length X.cap)/\w.cell? ⟨p,3,none⟩=some (.int .i64 k)/\w.cell? ⟨p,4,none⟩=some (.bool X.yq):=by
 refine ⟨?_,?_,?_,?_,?_⟩<;>(rw [cell_of_row w p _ _ _ _ h.blk];rfl)
theorem IsSc.free {w:World} {S:Nat->Prop} {p:Nat} {X:Src} {out:List UInt8} {k:Nat} {ad v:Value} (h:IsSc w S p X out k ad v) (j:Nat):w.frozen? ⟨p,j,none⟩=false:=frozen_of_row w p j _ _ h.blk
theorem IsSc.byte {w:World} {S:Nat->Prop} {p:Nat} {X:Src} {out:List UInt8} {k:Nat} {ad v:Value} (h:IsSc w S p X out k ad v) (hk:k<X.bs.length) :
  ∃b off,X.a=some ⟨b,off,none⟩/\w.cell? ⟨b,off+k,none⟩=some (u8C (X.bs.getD k 0)):=by
 obtain ⟨b,off,ha,_,hc⟩:=h.src.at 0 k hk;exact ⟨b,off,ha,hc k hk⟩
theorem IsSc.move {w:World} {S:Nat->Prop} {p:Nat} {X:Src} {out:List UInt8} {k:Nat} {ad v:Value} (h:IsSc w S p X out k ad v) (k':Nat) (hk:k'<=X.bs.length) (hk2:k<=k'):zar w S p X out k' (w.setCell ⟨p,3,none⟩ (.int .i64 k')):=by
 have hb:w.heap[p]?=some (.cells (scV X ad v k) 192 (0,0)):=h.blk;have hp:=(h.lt p h.own).2;refine ⟨S,⟨ad,v,⟨?_,h.ad_,?_,h.at_,h.own,fun b hS=>by have:=h.lt b hS;simpa using this,?_,h.srcb,hk,h.small,by have:=h.outl;omega,h.nil_⟩⟩,(zak.refl S w).setCell (.inl h.own) _,fun _ hS=>.inl hS⟩
 ·rw [heap_setCell_same _ _ 3 _ _ _ hb];rfl
 ·exact ownsRow_setCell_other h.row (a:=⟨p,3,none⟩) (fun e=>by have:=(h.row.lt p e).1;omega) _
 ·exact h.src.keeps (S:=fun b=>b=p) ((zak.refl (fun b=>b=p) w).setCell (a:=⟨p,3,none⟩) (.inl rfl) _) (fun x hx e=>by have:=h.srcb x hx;omega)
def zfl (X:Src) (k:Nat):Value:=if k<X.bs.length then .tuple #[u8C (X.bs.getD k 0),.bool true] else .tuple #[.int .u8 0,.bool false]
theorem zdf {w:World} {S:Nat->Prop} {p:Nat} {X:Src} {out:List UInt8} {k:Nat} (h:ScQ w S p X out k) :
  Calls Tryz.prog 182 #[.pointer (some ⟨p,0,none⟩)] w fun e w'=>e=.returned (zfl X k)/\∃q,w'=w.drewN q:=by
 obtain ⟨ad,v,h⟩:=h;obtain ⟨c0,c1,c2,c3,c4⟩:=h.cells;have Zc:=h.small;have Qr:=h.le;obtain ⟨V,hV⟩:∃V,V=zfl X k:=⟨_,rfl⟩;rw [<-hV];unfold zfl at hV
 by_cases hk:k<X.bs.length
 ·obtain ⟨b,off,ha,hc⟩:=h.byte hk
  rw [yg hk] at hV;have HV:=yb hV;rw [ha] at c2;unfold u8C at hc HV;generalize (X.bs.getD k 0).toNat=x at *;generalize X.bs.length=n at *;have Zd:decide ((n:Int)<=k)=false:=ye (by omega);have Zv:(k:Int)<n:=by omega
  clear hV h ha;go_enter Tryz.func182,Tryz.ntmps182
  go_wp2
  go_quiet (fail)
  go_wp2
  go_quiet (fail)
  go_wp2;go_ret2;exact ⟨by rw [HV.out];rfl,by simp only [World.drewN_drewN];exact ⟨_,rfl⟩⟩
 ·rw [yh hk] at hV
  have HV:=yb hV;generalize X.bs.length=n at *;have Zd:decide ((n:Int)<=k)=true:=yd (by omega);clear hV h;go_enter Tryz.func182,Tryz.ntmps182
  go_wp2
  go_quiet (fail)
  go_wp2;go_ret2;exact ⟨by rw [HV.out];rfl,_,rfl⟩
theorem zei {w:World} {S:Nat->Prop} {p:Nat} {X:Src} {out:List UInt8} {k:Nat} (h:ScQ w S p X out k) :
  Calls Tryz.prog 183 #[.pointer (some ⟨p,0,none⟩)] w fun e w'=>e=.returned (.int .i64 (zbf X.yq))/\w=w':=by
 obtain ⟨ad,v,h⟩:=h;obtain ⟨-,-,-,-,c4⟩:=h.cells;have HV:=yb (show zbf X.yq=if X.yq=true then 10 else 6 by unfold zbf;cases X.yq<;>rfl)
 clear h;generalize zbf X.yq=V at *;generalize X.yq=l at *
 cases l
 all_goals
  go_enter Tryz.func183,Tryz.ntmps183
  go_wp2;go_ret;exact ⟨zaQ (by rw [HV.out];rfl),rfl⟩
theorem infoBuilder:(Tryz.prog.info? 107).map (·.size)=some 2:=by kernel_rfl
theorem liesBuilder:liesAt Tryz.prog Tryz.prog.depth 192 (5 / Tryz.prog.cellsOf 192) 0 107 1=true:=by kernel_rfl
theorem zdo:zfo Tryz.prog 28 5 (.int .u8 0) 1 1:=⟨Tryz.underlying28,by kernel_rfl,rfl,by omega⟩
theorem cellsByte:Tryz.prog.cellsOf 5=1:=by kernel_rfl
def Chk (w:World) (S:Nat->Prop) (p:Nat) (X:Src) (out:List UInt8) (k:Nat) (v:Value) (e:Ending) (w':World):Prop :=
 e=.returned (.tuple #[])/\IsSc w' S p X out k (.pointer (some ⟨p,0,none⟩)) v/\zak S w w'/\w'.heap.size=w.heap.size
theorem IsSc.mark {w:World} {S:Nat->Prop} {p:Nat} {X:Src} {out:List UInt8} {k:Nat} {ad v:Value} (h:IsSc w S p X out k ad v) :
  IsSc (w.setCell ⟨p,0,none⟩ (.pointer (some ⟨p,0,none⟩))) S p X out k (.pointer (some ⟨p,0,none⟩)) v:=by
 have hp:=(h.lt p h.own).2;refine ⟨?_,.inr rfl,ownsRow_setCell_other h.row (a:=⟨p,0,none⟩) (fun e=>by have:=(h.row.lt p e).1;omega) _,h.at_,h.own,fun b hS=>by have:=h.lt b hS;simpa using this,?_,h.srcb,h.le,h.small,h.outl,h.nil_⟩
 ·rw [heap_setCell_same _ _ 0 _ _ _ h.blk];rfl
 ·exact h.src.keeps (S:=fun b=>b=p) ((zak.refl (fun b=>b=p) w).setCell (a:=⟨p,0,none⟩) (.inl rfl) _) (fun x hx e=>by have:=h.srcb x hx;omega)
set_option maxRecDepth 100000 in
theorem zhO {w:World} {S:Nat->Prop} {p:Nat} {X:Src} {out:List UInt8} {k:Nat} {ad v:Value} (h:IsSc w S p X out k ad v) :
  Calls Tryz.prog 128 #[.pointer (some ⟨p,0,none⟩)] w (Chk w S p X out k v):=by
 obtain ⟨j,hj,Ze⟩:=Option.map_eq_some_iff.1 infoBuilder;obtain ⟨c0,-⟩:=h.cells;have Zw:=h.free 0;have QT:w.shape? p=some (192,5):=by have:=h.blk;simp [World.shape?,this,scV]
 rcases h.ad_ with rfl|rfl
 ·have HM:=yb h.mark
  have HK:=yb ((zak.refl S w).setCell (a:=⟨p,0,none⟩) (.inl h.own) (.pointer (some ⟨p,0,none⟩)));clear h;go_enter Tryz.func128,Tryz.ntmps128
  go_wp2;rw [Lib.run_to_unsafe w ⟨p,0,none⟩ Tryz.underlying105 Tryz.underlying209 hj (by rw [Ze];decide) QT (Nat.succ_pos 4)];simp only [Result.andThen];rw [Oper.upon_value];go_wp2;rw [run_callFunc_extern Tryz.func156 (by kernel_rfl) (by kernel_rfl) (by kernel_rfl) (e:=Extern.AbiNoEscape.same) (by kernel_rfl)];rw [Lib.run_noEscape];simp only [Result.andThen];rw [Oper.upon_value];go_wp2;rw [Lib.run_from_unsafe w ⟨p,0,none⟩ Tryz.underlying209 Tryz.underlying105 hj QT liesBuilder];simp only [Result.andThen];rw [Oper.upon_value];go_wp2;go_end0
  exact ⟨rfl,HM.out,HK.out,by simp⟩
 ·have HM:=yb h
  clear h;go_enter Tryz.func128,Tryz.ntmps128
  go_wp2;rw [Lib.run_neq_ptr_same w _ Tryz.underlying105 hj];go_wp2;go_end0
  exact ⟨rfl,HM.out,zak.refl _ _,rfl⟩
theorem IsSc.put {w w2:World} {S:Nat->Prop} {p:Nat} {X:Src} {out:List UInt8} {k:Nat} {v v':Value} (c:UInt8) (hk:out.length<k) (h:IsSc w S p X out k (.pointer (some ⟨p,0,none⟩)) v) (o:Obj)
  (hr:w2.ownsRow (p+1) 5 1 v' (out.length+1) (out.map u8C++[u8C c])) (hg:(w.alloc o).grownBy w2 v.ownBlock) (hn:NewAt (w.alloc o) v v') :
  zar w S p X (out++[c]) k (w2.setCell ⟨p,1,none⟩ v'):=by
 have hp:=(h.lt p h.own).2;have Zf:∀b,v.ownBlock=some b->p<b:=fun b hb=>(h.row.lt b hb).1
 have h1:w2.heap[p]?=some (.cells (scV X (.pointer (some ⟨p,0,none⟩)) v k) 192 (0,0)) :=
  (hg.block p (by rw [zaq];omega) (fun e=>by have:=Zf p e.symm;omega)).trans ((Below.heap_alloc w o p hp).trans h.blk)
 have Qt:zak S w w2:=((zak.refl S w).alloc o).grown hg (fun k hk=>.inl (h.at_ k hk));have hk2:=Qt.setCell (a:=⟨p,1,none⟩) (.inl h.own) v';have hsz:=hk2.size;refine ⟨fun b=>S b\/(p<=b/\w.heap.size<=b/\b<(w2.setCell ⟨p,1,none⟩ v').heap.size),⟨.pointer (some ⟨p,0,none⟩),v',⟨?_,.inr rfl,?_,fun b hb=>?_,.inl h.own,fun b hb=>?_,?_,h.srcb,h.le,h.small,by simp;omega,fun e=>by simp at e⟩⟩,hk2,fun b hb=>?_⟩
 ·rw [heap_setCell_same _ _ 1 _ _ _ h1];rfl
 ·have:=ownsRow_setCell_other hr (a:=⟨p,1,none⟩) (fun e=>by have:=(hr.lt p e).1;omega) v'
  simpa using this
 ·have hlt:=(hr.lt b hb)
  rcases hn b hb with h2|h2
  ·exact .inl (h.at_ b h2)
  ·rw [zaq] at h2
   exact .inr ⟨by omega,by omega,by simpa using hlt.2⟩
 ·rcases hb with hb|hb
  ·have:=h.lt b hb;omega
  ·exact ⟨hb.1,hb.2.2⟩
 ·exact h.src.keeps hk2 (fun x hx e=>by have h1:=h.srcb x hx;have h2:=(h.lt x.block e).1;omega)
 ·rcases hb with hb|hb
  ·exact .inl hb
  ·exact .inr hb.2.1
set_option maxRecDepth 100000 in
theorem za8 {w:World} {S:Nat->Prop} {p:Nat} {X:Src} {out:List UInt8} {k:Nat} (h:ScQ w S p X out k) (c:UInt8) (x:Int) (hx:x=(c.toNat:Int)) (hk:out.length<k) :
  Calls Tryz.prog 96 #[.pointer (some ⟨p,0,none⟩),.int .u8 x] w fun e w'=>e=.returned .nilIface/\zar w S p X (out++[c]) k w':=by
 obtain ⟨ad,v,h⟩:=h;have HC:=yb (zhO h);unfold Chk at HC;have QU:Value.int .u8 x=u8C c:=by rw [hx];rfl
 have HX:=yb QU;have Zc:=h.small;have Qr:=h.le;have Zx:=h.outl;clear h hx QU;go_enter Tryz.func96,Tryz.ntmps96
 go_wp2_with fail
 refine HC.out.mono ?_;rintro e w1 ⟨rfl,h1,Qt,QV⟩;have H1:=yb h1;have Zg:=yb Qt;have Zy:=yb QV;obtain ⟨-,c1,-⟩:=h1.cells;have Zz:=h1.free 1;have QW:=(h1.lt p h1.own).2;clear h1 Qt QV;go_wp2_with (at_builtin;refine zcY zdo rfl (.tmp 11) (.tmp 13) rfl (p+1) _ out.length _ rfl (H1.out.row.alloc _) _ 1 _ _ rfl (zbz _ _ _) (zbZ rfl) (by unfold maxLen;omega) (by omega) (by rw [zaq];omega) ?_;intro v' w2 hO2 Qn hn2;obtain ⟨a',cap',Zh,-⟩:=Row.of_owns hO2;subst Zh;rw [HX.out] at hO2;have HN:=yb (H1.out.put c hk _ hO2 Qn hn2);have ZA:p<w2.heap.size:=(by have:=Qn.size;rw [zaq] at this;omega);have Zi:w2.frozen? ⟨p,1,none⟩=false:=(frozen_of_row w2 p 1 _ _ ((Qn.block p (by rw [zaq];omega) (fun e=>by have:=(H1.out.row.lt p e.symm).1;omega)).trans ((Below.heap_alloc w1 _ p QW).trans H1.out.blk)));have ZB:w2.cell? ⟨p,1,none⟩=some v:=((cell_of_row w2 p 1 _ _ _ ((Qn.block p (by rw [zaq];omega) (fun e=>by have:=(H1.out.row.lt p e.symm).1;omega)).trans ((Below.heap_alloc w1 _ p QW).trans H1.out.blk))).trans rfl);clear hO2 Qn hn2)
 go_ret;exact ⟨rfl,zar.trans Zg.out (fun b hb=>.inl hb) HN.out⟩
end Go.Proofs.YtcmoehknppjkiaaGreatDoor
