/-
  Our texts QSym1 to PsB, in one.
-/
import Derived.Test.YtcmoehknppjkiaaGreatDoorPkB8
import Derived.Test.YtcmoehknppjkiaaGreatDoorProg
import Derived.BigQuiet
import Derived.Deep.QuietTactic
import Derived.Maps.AppendAt
set_option maxRecDepth 8000
set_option maxHeartbeats 8000000
namespace Go.Proofs.YtcmoehknppjkiaaGreatDoor
open Go.RowKit Go.Sort
theorem zeC {α:Type} [Inhabited α] (enc:α->Value) (hE:∀x,∃a n c,enc x=.slice a n c) (F:Value) (g cap a b n:Nat) (rest:List Value) (d:Array α) (w0 w:World)
  (hS:SB enc w0 g 23 rest d w) (hab:a+n<=b) (hb:b+n<=d.size) (hsz:d.size<4611686018427387904) :
  Calls Tryz.prog 211 #[.slice (some ⟨g,0,none⟩) d.size cap,.int .i64 a,.int .i64 b,.int .i64 n,F] w fun e w'=>e=.returned (.tuple #[])/\∃R:Array α,R.size=d.size/\SB enc w0 g 23 rest R w'/\(∀k,R[k]! = swR d a b n k)/\PermIn a (b+n) d R:=by
 have HS:=yb hS;clear hS;go_enter Tryz.func211,Tryz.ntmps211
 go_wp2
 go_loopw [10] (fun vi wr=>∃(i:Nat) (dk:Array α),vi=.int .i64 i/\i<=n/\dk.size=d.size/\Hid (SB enc w0 g 23 rest dk wr)/\Hid (∀k,dk[k]! = swR d a b i k)/\Hid (PermIn a (b+n) d dk)) (fun vi _=>n-(intOf vi).toNat)
 case atStart=>exact ⟨0,d,rfl,by omega,rfl,HS,yb (fun k=>(swR_zero d a b k).symm),yb (permIn_refl _ _ _)⟩
 case round =>
  obtain ⟨i,dk,rfl,Xs,QM,Qh,HR,HP⟩:=hrel;clear HS
  by_cases hlt:i<n
  ·have QB:=Qh.out.cell (a+i) (by omega)
   have QC:=Qh.out.cell (b+i) (by omega);have ZL:=Qh.out.free (a+i);have ZV:=Qh.out.free (b+i);obtain ⟨X,hX⟩:∃X,X=dk[a+i]! := ⟨_,rfl⟩;obtain ⟨Y,hY⟩:∃Y,Y=dk[b+i]! := ⟨_,rfl⟩;rw [<-hX] at QB;rw [<-hY] at QC;have HX:=yb hX;have HY:=yb hY;obtain ⟨x,xn,xc,hx⟩:=hE X;obtain ⟨y,yn,yc,hy⟩:=hE Y;rw [hx] at QB;rw [hy] at QC;have Q9:=yb hx;have Za:=yb hy;clear hx hy hX hY;have ZW:((a:Int)+(i:Int)).toNat=a+i:=by omega
   have Yp:((b:Int)+(i:Int)).toNat=b+i:=by omega
   have Zh:(a:Int)+(i:Int)<(d.size:Int):=by omega
   have Zb:(b:Int)+(i:Int)<(d.size:Int):=by omega
   go_wp2
   go_region
   all_goals go_wp2
   go_roundw
   case rel =>
    refine ⟨i+1,swp dk (a+i) (b+i),by go_num,by omega,by rw [size_swp];exact QM,?_,yb (swR_step d dk a b n i hlt hab (by omega) HR.out),yb (permIn_trans _ _ _ _ _ HP.out (swp_permIn dk a (b+n) (a+i) (b+i) (by omega) (by omega) (by omega) (by omega) (by omega)))⟩;have hw:=Qh.out.swp (a+i) (b+i) (by omega) (by omega) 1;rw [<-HX.out,<-HY.out,Q9.out,Za.out] at hw;exact yb hw
   case measure=>simp [intOf];omega
  ·obtain rfl:n=i:=by omega
   go_wp2;go_end0
   exact ⟨rfl,dk,QM,Qh.out,HR.out,HP.out⟩
theorem rot_anyQ {α:Type} [Inhabited α] (enc:α->Value) (hE:∀x,∃a n c,enc x=.slice a n c) (F:Value) (g cap a m b:Nat) (rest:List Value) (d:Array α) (w0 w:World)
  (hS:SB enc w0 g 23 rest d w) (ham:a<m) (hmb:m<b) (hb:b<=d.size) (hsz:d.size<4611686018427387904) :
  Calls Tryz.prog 209 #[.slice (some ⟨g,0,none⟩) d.size cap,.int .i64 a,.int .i64 m,.int .i64 b,F] w fun e w'=>e=.returned (.tuple #[])/\∃R:Array α,R.size=d.size/\SB enc w0 g 23 rest R w'/\(∀k,R[k]! = rotF d a m b k)/\PermIn a b d R:=by
 have HS:=yb hS;clear hS;go_enter Tryz.func209,Tryz.ntmps209
 go_wp2
 go_loopw [10,11] (fun vi vj wr=>∃(i j:Nat) (dk:Array α),vi=.int .i64 i/\vj=.int .i64 j/\0<i/\0<j/\i<=m-a/\j<=b-m/\dk.size=d.size/\Hid (SB enc w0 g 23 rest dk wr)/\Hid (∀k,rotF dk (m-i) m (m+j) k=rotF d a m b k)/\Hid (PermIn a b d dk)) (fun vi vj _=>(intOf vi).toNat+(intOf vj).toNat)
 case atStart=>exact ⟨m-a,b-m,d,by go_num,by go_num,by omega,by omega,by omega,by omega,rfl,HS,yb (fun k=>by rw [show m-(m-a)=a from by omega,show m+(b-m)=b from by omega]),yb (permIn_refl _ _ _)⟩
 case round =>
  obtain ⟨i,j,dk,rfl,rfl,hi,hj,Xt,Xu,QM,Qh,HR,HP⟩:=hrel;clear HS;have ZX:((m-i:Nat):Int)=(m:Int)-i:=by omega
  by_cases hgt:j<i
  ·have QQ:=zeC enc hE F g cap (m-i) m j rest dk w0 wr Qh.out (by omega) (by omega) (by omega)
   rw [ZX,QM] at QQ;have Zo:=yb QQ;have ZM:((i:Int)==(j:Int))=false:=by rw [yf];omega
   clear QQ;go_wp2_with (go_at_call 211;refine Zo.out.mono ?_;rintro e w2 ⟨rfl,R,Qc,Qt,Qu,Q3⟩;have Ql:=yb Qt;have Zp:=yb Qu;have Qm:=yb Q3;clear Qt Qu Q3)
   go_roundw
   case rel=>exact ⟨i-j,j,R,by go_num,rfl,by omega,by omega,by omega,by omega,Qc,Ql,yb (fun k=>by rw [rot_gt dk R m i j hgt (by omega) Zp.out k];exact HR.out k),yb (permIn_trans _ _ _ _ _ HP.out (permIn_mono dk R (m-i) (m+j) a b (by omega) (by omega) (by omega) Qm.out))⟩
   case measure=>simp [intOf];omega
  ·by_cases hlt:i<j
   ·have QQ:=zeC enc hE F g cap (m-i) (m+j-i) i rest dk w0 wr Qh.out (by omega) (by omega) (by omega)
    rw [ZX,QM,show ((m+j-i:Nat):Int)=(m:Int)+j-i from by omega] at QQ;have Zo:=yb QQ;have ZM:((i:Int)==(j:Int))=false:=by rw [yf];omega
    clear QQ;go_wp2_with (go_at_call 211;refine Zo.out.mono ?_;rintro e w2 ⟨rfl,R,Qc,Qt,Qu,Q3⟩;have Ql:=yb Qt;have Zp:=yb Qu;have Qm:=yb Q3;clear Qt Qu Q3)
    go_roundw
    case rel=>exact ⟨i,j-i,R,rfl,by go_num,by omega,by omega,by omega,by omega,Qc,Ql,yb (fun k=>by rw [rot_lt dk R m i j hlt (by omega) Zp.out k];exact HR.out k),yb (permIn_trans _ _ _ _ _ HP.out (permIn_mono dk R (m-i) (m+j-i+i) a b (by omega) (by omega) (by omega) Qm.out))⟩
    case measure=>simp [intOf];omega
   ·obtain rfl:i=j:=by omega
    have QQ:=zeC enc hE F g cap (m-i) m i rest dk w0 wr Qh.out (by omega) (by omega) (by omega);rw [ZX,QM] at QQ;have Zo:=yb QQ;clear QQ;go_wp2_with (go_at_call 211;refine Zo.out.mono ?_;rintro e w2 ⟨rfl,R,Qc,Qt,Qu,Q3⟩;have Ql:=yb Qt;have Zp:=yb Qu;have Qm:=yb Q3;clear Qt Qu Q3)
    go_end0
    exact ⟨rfl,R,Qc,Ql.out,fun k=>by rw [rot_eq dk R m i (by omega) Zp.out k];exact HR.out k,permIn_trans _ _ _ _ _ HP.out (permIn_mono dk R (m-i) (m+i) a b (by omega) (by omega) (by omega) Qm.out)⟩
variable {α : Type} [Inhabited α]
def shlF (d:Array α) (a k q:Nat):α:=if a<=q/\q<k then d[q+1]! else if q=k then d[a]! else d[q]!
theorem shlF_zero (d:Array α) (a q:Nat):shlF d a a q=d[q]! := by
 unfold shlF;rw [yh (by omega)]
 split
 ·rename_i h;rw [h]
 ·rfl
theorem shlF_step (d R:Array α) (a k:Nat) (hak:a<=k) (hk:k+1<R.size) (hR:∀q,R[q]! = shlF d a k q) (q:Nat):(swp R k (k+1))[q]! = shlF d a (k+1) q:=by
 by_cases h1:q=k
 ·subst h1
  rw [swp_left _ _ _ (by omega) (by omega),hR];unfold shlF;rw [yh (by omega),yh (by omega),yg (by omega)]
 ·by_cases h2:q=k+1
  ·subst h2
   rw [swp_right _ _ _ (by omega),hR];unfold shlF;rw [yh (by omega),yg rfl,yh (by omega),yg rfl]
  ·rw [swp_other _ _ _ _ h1 h2,hR]
   unfold shlF
   repeat' split
   all_goals first
    | rfl
    |(exfalso;omega)
def shrF (d:Array α) (m k q:Nat):α:=if k<q/\q<=m then d[q-1]! else if q=k then d[m]! else d[q]!
theorem shrF_zero (d:Array α) (m q:Nat):shrF d m m q=d[q]! := by
 unfold shrF;rw [yh (by omega)]
 split
 ·rename_i h;rw [h]
 ·rfl
theorem shrF_step (d R:Array α) (m k:Nat) (hkm:k+1<=m) (hk:k+1<R.size) (hR:∀q,R[q]! = shrF d m (k+1) q) (q:Nat):(swp R (k+1) k)[q]! = shrF d m k q:=by
 by_cases h1:q=k+1
 ·subst h1
  rw [swp_left _ _ _ (by omega) (by omega),hR];unfold shrF;rw [yh (by omega),yh (by omega),yg (by omega)];exact congrArg (fun i=>d[i]!) (by omega)
 ·by_cases h2:q=k
  ·subst h2
   rw [swp_right _ _ _ (by omega),hR];unfold shrF;rw [yh (by omega),yg rfl,yh (by omega),yg rfl]
  ·rw [swp_other _ _ _ _ h1 h2,hR]
   unfold shrF
   repeat' split
   all_goals first
    | rfl
    |(exfalso;omega)
theorem zdM (d:Array α) (s m e:Nat) (hsm:s<=m) (hme:m<=e) (h:s=m\/m=e) (k:Nat):d[k]! = rotF d s m e k:=by
 unfold rotF
 repeat' split
 all_goals first
  | rfl
  |(exfalso;omega)
  | exact congrArg (fun i=>d[i]!) (by omega)
variable {lt lt1 : α -> α -> Bool}
theorem zeu {d R:Array α} {a b f:Nat} (lo hi:Nat) (h:SortedIn lt a b d) (hlo:a<=f) (hhi:f+(hi-lo)<=b) (hR:∀k,lo<=k->k<hi->R[k]! = d[f+(k-lo)]!):SortedIn lt lo hi R:=fun i j h1 h2 h3=>by
 rw [hR i h1 (by omega),hR j (by omega) h3];exact h _ _ (by omega) (by omega) (by omega)
section
variable {d R : Array α} {a m b s e : Nat} (hR : ∀ k, R[k]! = rotF d s m e k) (has : a <= s) (hsm : s <= m) (hme : m <= e) (heb : e <= b) (h1 : SortedIn lt a m d) (h2 : SortedIn lt m b d)
include hR in
theorem part1 (k:Nat) (h:k<s):R[k]! = d[k]! := by
 rw [hR,rotF,yh (by omega),yh (by omega)]
include hR hsm in
theorem part2 (k:Nat) (h1:s<=k) (h2:k<s+(e-m)):R[k]! = d[m+(k-s)]! := by
 rw [hR,rotF,yg (by omega)];exact congrArg (fun i=>d[i]!) (by omega)
include hR in
theorem part3 (k:Nat) (h1:s+(e-m)<=k) (h2:k<e):R[k]! = d[s+(k-(s+(e-m)))]! := by
 rw [hR,rotF,yh (by omega),yg (by omega)];exact congrArg (fun i=>d[i]!) (by omega)
include hR hsm hme in
theorem part4 (k:Nat) (h1:e<=k):R[k]! = d[k]! := by
 rw [hR,rotF,yh (by omega),yh (by omega)]
include hR has hsm h1 in
theorem sp1:SortedIn lt a s R:=zeu (f:=a) a s h1 (yp _) (by omega) (fun k h3 h4=>by rw [part1 hR k h4];exact congrArg (fun i=>d[i]!) (by omega))
include hR hsm hme heb h2 in
theorem sp2:SortedIn lt s (s+(e-m)) R:=zeu (f:=m) _ _ h2 (yp _) (by omega) (fun k h3 h4=>part2 hR hsm k h3 h4)
include hR has hsm hme h1 in
theorem sp3:SortedIn lt (s+(e-m)) e R:=zeu (f:=s) _ _ h1 has (by omega) (fun k h3 h4=>part3 hR k h3 h4)
include hR hsm hme heb h2 in
theorem sp4:SortedIn lt e b R:=zeu (f:=e) e b h2 hme (by omega) (fun k h3 _=>by rw [part4 hR hsm hme k h3];exact congrArg (fun i=>d[i]!) (by omega))
include hR hsm hme heb in
theorem agree_lo (hA:zew lt1 lt d a m b):zew lt1 lt R a s (s+(e-m)):=fun p q h3 h4 h5 h6=>by
 rw [part1 hR p h4,part2 hR hsm q h5 h6];exact hA _ _ h3 (by omega) (by omega) (by omega)
include hR has hsm hme in
theorem agree_hi (hA:zew lt1 lt d a m b):zew lt1 lt R (s+(e-m)) e b:=fun p q h3 h4 h5 h6=>by
 rw [part3 hR p h3 h4,part4 hR hsm hme q h5];exact hA _ _ (by omega) (by omega) (by omega) h6
include hR has hsm hme heb h1 h2 in
theorem skip_lo (h:s=a\/s=s+(e-m)):SortedIn lt a (s+(e-m)) R:=by
 rcases h with h|h
 ·have:=sp2 hR hsm hme heb h2;rw [h] at this |-;exact this
 ·rw [<-h];exact sp1 hR has hsm h1
include hR has hsm hme heb h1 h2 in
theorem skip_hi (h:e=s+(e-m)\/e=b):SortedIn lt (s+(e-m)) b R:=by
 rcases h with h|h
 ·rw [<-h];exact sp4 hR hsm hme heb h2
 ·have:=sp3 hR has hsm hme h1;rw [h] at this |-;exact this
end
theorem zcJ {d R:Array α} {a b:Nat} (h:SortedIn lt a b d) (hR:∀k,a<=k->k<b->R[k]! = d[k]!):SortedIn lt a b R:=fun i j h1 h2 h3=>by
 rw [hR i h1 (by omega),hR j (by omega) h3];exact h i j h1 h2 h3
theorem agree_congr {d R:Array α} {a m b:Nat} (h:zew lt1 lt d a m b) (hR:∀k,a<=k->k<b->R[k]! = d[k]!):zew lt1 lt R a m b:=fun p q h1 h2 h3 h4=>by
 rw [hR p h1 (by omega),hR q (by omega) h4];exact h p q h1 h2 h3 h4
theorem zd9 {d R:Array α} {a b:Nat} (D:α->Prop) (hb:b<=d.size) (hP:PermIn a b d R) (hD:∀i,i<d.size->D d[i]!) (i:Nat) (hi:i<R.size):D R[i]! := by
 by_cases h:a<=i/\i<b
 ·exact permIn_all d R a b D hb hP (fun k _ h2=>hD k (by omega)) i h.1 h.2
 ·rw [hP.2.1 i (by omega)];exact hD i (by rw [<-hP.1];exact hi)
def zdW {α:Type} [Inhabited α] (enc:α->Value) (lt:α->α->Bool) (g a b:Nat) (rest:List Value) (d:Array α) (w0:World) (e:Ending) (w':World):Prop :=
 e=.returned (.tuple #[])/\∃R:Array α,R.size=d.size/\SB enc w0 g 23 rest R w'/\PermIn a b d R/\SortedIn lt a b R
theorem sym_leftQ {α:Type} [Inhabited α] (enc:α->Value) (hE:∀x,∃a n c,enc x=.slice a n c) (cf:α->α->Int) (lt:α->α->Bool) (hL:SWO lt) (D:α->Prop) (f:FuncId) (cb:Array Value) (g cap a m b:Nat) (rest:List Value) (d:Array α) (w0 w:World)
  (hC:CmpQ Tryz.prog f cb enc cf D w0 g) (hS:SB enc w0 g 23 rest d w) (hD:∀i,i<d.size->D d[i]!) (hm:m=a+1) (hmb:m<b) (hb:b<=d.size) (hsz:d.size<4611686018427387904)
  (h2:SortedIn lt m b d) (hA:zew (ltOf cf) lt d a m b) :
  Calls Tryz.prog 203 #[.slice (some ⟨g,0,none⟩) d.size cap,.int .i64 a,.int .i64 m,.int .i64 b,.func (.func f) #[] cb] w fun e w'=>zdW enc lt g a b rest d w0 e w':=by
 have eg:=hC.enters;have HC:=yb hC;have HS:=yb hS;have HD:=yb hD;have H2:=yb h2;have HA:=yb hA;clear hC hS hD h2 hA;have YT:((m:Int)-(a:Int)==1)=true:=by rw [beq_iff_eq];omega
 go_enter Tryz.func203,Tryz.ntmps203
 go_wp2
 go_loopw [10,11] (fun vi vj wr=>∃(i j:Nat),vi=.int .i64 i/\vj=.int .i64 j/\m<=i/\i<=j/\j<=b/\Hid (SB enc w0 g 23 rest d wr)/\Hid (∀q,m<=q->q<i->lt d[q]! d[a]! = true)/\Hid (∀q,j<=q->q<b->lt d[q]! d[a]! = false)) (fun vi vj _=>(intOf vj).toNat-(intOf vi).toNat)
 case atStart=>exact ⟨m,b,rfl,rfl,yp _,by omega,yp _,HS,yb (fun q h1 h2=>by omega),yb (fun q h1 h2=>by omega)⟩
 case round =>
  obtain ⟨i,j,rfl,rfl,Zq,ZY,Zi,Qh,QR,QS⟩:=hrel;clear HS
  by_cases hlt:i<j
  ·obtain ⟨h,hh⟩:∃h,h=(i+j) / 2:=⟨_,rfl⟩
   have QB:=Qh.out.cell h (by omega);have QC:=Qh.out.cell a (by omega);have Qa:=fun q=>HC.out.calls (wr.drewN q) (Qh.out.drewN q).grown d[h]! d[a]! (HD.out h (by omega)) (HD.out a (by omega));have hag:=HA.out a h (yp _) (by omega) (by omega) (by omega);obtain ⟨X,hX⟩:∃X,X=d[h]! := ⟨_,rfl⟩;obtain ⟨Y,hY⟩:∃Y,Y=d[a]! := ⟨_,rfl⟩;rw [<-hX] at QB Qa hag;rw [<-hY] at QC Qa hag;have HX:=yb hX;have HY:=yb hY;obtain ⟨x,xn,xc,hx⟩:=hE X;obtain ⟨y,yn,yc,hy⟩:=hE Y;rw [hx] at QB Qa;rw [hy] at QC Qa;have Qi:=yb Qa;have QN:=yb hag;clear Qa hx hy hX hY hag;have ZZ:((i:Int)+(j:Int)) / 2=(h:Int):=by omega
   have YU:(h:Int)<(d.size:Int):=by omega
   have hab:(a:Int)<(d.size:Int):=by omega
   have hhi:i<=h:=by omega
   have Z0:h<j:=by omega
   clear hh
   by_cases hcf:cf X Y<0
   ·have hl:lt X Y=true:=by rw [<-QN.out];simpa [ltOf] using hcf
    have HL:=yb hl;have QK:cf X Y<0:=hcf;clear hl hcf;go_wp2_with fail
    go_quiet ((refine Calls.quiet_of (Qi.out _)))
    go_wp2
    go_roundw
    case rel=>exact ⟨h+1,j,by go_num,rfl,by omega,by omega,Zi,yb (Qh.out.drewN _),yb (fun q h3 h4=>low_all hL H2.out (by omega:h<b) (by rw [<-HX.out,<-HY.out];exact HL.out) q h3 (by omega)),QS⟩
    case measure=>simp [intOf];omega
   ·have hl:lt X Y=false:=by rw [<-QN.out];simpa [ltOf] using hcf
    have HL:=yb hl;have QK:0<=cf X Y:=by omega
    clear hl hcf;go_wp2_with fail
    go_quiet ((refine Calls.quiet_of (Qi.out _)))
    go_wp2
    go_roundw
    case rel=>exact ⟨i,h,rfl,rfl,Zq,hhi,by omega,yb (Qh.out.drewN _),QR,yb (fun q h3 h4=>high_all hL H2.out (by omega) (by rw [<-HX.out,<-HY.out];exact HL.out) q h3 h4)⟩
    case measure=>simp [intOf];omega
  ·obtain rfl:i=j:=by omega
   go_wp2
   go_loopw [13] (fun vk wr2=>∃(k:Nat) (dk:Array α),vk=.int .i64 k/\a<=k/\k<=i-1/\dk.size=d.size/\Hid (SB enc w0 g 23 rest dk wr2)/\Hid (∀q,dk[q]! = shlF d a k q)/\Hid (PermIn a b d dk)) (fun vk _=>i-(intOf vk).toNat)
   case atStart=>exact ⟨a,d,rfl,yp _,by omega,rfl,Qh,yb (fun q=>(shlF_zero d a q).symm),yb (permIn_refl _ _ _)⟩
   case round =>
    obtain ⟨k,dk,rfl,hak,Xv,QM,Qy,HR,HP⟩:=hrel;clear Qh
    by_cases hk:k<i-1
    ·have QB:=Qy.out.cell k (by omega)
     have QC:=Qy.out.cell (k+1) (by omega);have ZL:=Qy.out.free k;have ZV:=Qy.out.free (k+1);obtain ⟨X,hX⟩:∃X,X=dk[k]! := ⟨_,rfl⟩;obtain ⟨Y,hY⟩:∃Y,Y=dk[k+1]! := ⟨_,rfl⟩;rw [<-hX] at QB;rw [<-hY] at QC;have HX:=yb hX;have HY:=yb hY;obtain ⟨x,xn,xc,hx⟩:=hE X;obtain ⟨y,yn,yc,hy⟩:=hE Y;rw [hx] at QB;rw [hy] at QC;have Q9:=yb hx;have Za:=yb hy;clear hx hy hX hY;have ZW:((k:Int)+1).toNat=k+1:=by omega
     have Zh:(k:Int)<(d.size:Int):=by omega
     have Zb:(k:Int)+1<(d.size:Int):=by omega
     go_wp2
     go_region
     all_goals go_wp2
     go_roundw
     case rel =>
      refine ⟨k+1,swp dk k (k+1),by go_num,by omega,by omega,by rw [size_swp];exact QM,?_,yb (shlF_step d dk a k hak (by omega) HR.out),yb (permIn_trans _ _ _ _ _ HP.out (swp_permIn dk a b k (k+1) (by omega) (by omega) (by omega) (by omega) (by omega)))⟩;have hw:=Qy.out.swp k (k+1) (by omega) (by omega) 1;rw [<-HX.out,<-HY.out,Q9.out,Za.out] at hw;exact yb hw
     case measure=>simp [intOf];omega
    ·obtain rfl:k=i-1:=by omega
     go_wp2;go_end0
     exact ⟨rfl,dk,QM,Qy.out,HP.out,left_done hL d dk a b i (by omega) Zi (by rw [<-hm];exact H2.out) (by rw [<-hm];exact QR.out) QS.out HR.out⟩
theorem sym_rightQ {α:Type} [Inhabited α] (enc:α->Value) (hE:∀x,∃a n c,enc x=.slice a n c) (cf:α->α->Int) (lt:α->α->Bool) (hL:SWO lt) (D:α->Prop) (f:FuncId) (cb:Array Value) (g cap a m b:Nat) (rest:List Value) (d:Array α) (w0 w:World)
  (hC:CmpQ Tryz.prog f cb enc cf D w0 g) (hS:SB enc w0 g 23 rest d w) (hD:∀i,i<d.size->D d[i]!) (ham:a+1<m) (hbm:b=m+1) (hb:b<=d.size) (hsz:d.size<4611686018427387904)
  (h1:SortedIn lt a m d) (hA:zew (ltOf cf) lt d a m b) :
  Calls Tryz.prog 203 #[.slice (some ⟨g,0,none⟩) d.size cap,.int .i64 a,.int .i64 m,.int .i64 b,.func (.func f) #[] cb] w fun e w'=>zdW enc lt g a b rest d w0 e w':=by
 have eg:=hC.enters;have HC:=yb hC;have HS:=yb hS;have HD:=yb hD;have H1:=yb h1;have HA:=yb hA;clear hC hS hD h1 hA;have ZM:((m:Int)-(a:Int)==1)=false:=by rw [yf];omega
 have YT:((b:Int)-(m:Int)==1)=true:=by rw [beq_iff_eq];omega
 go_enter Tryz.func203,Tryz.ntmps203
 go_wp2
 go_loopw [14,15] (fun vi vj wr=>∃(i j:Nat),vi=.int .i64 i/\vj=.int .i64 j/\a<=i/\i<=j/\j<=m/\Hid (SB enc w0 g 23 rest d wr)/\Hid (∀q,a<=q->q<i->lt d[m]! d[q]! = false)/\Hid (∀q,j<=q->q<m->lt d[m]! d[q]! = true)) (fun vi vj _=>(intOf vj).toNat-(intOf vi).toNat)
 case atStart=>exact ⟨a,m,rfl,rfl,yp _,by omega,yp _,HS,yb (fun q h1 h2=>by omega),yb (fun q h1 h2=>by omega)⟩
 case round =>
  obtain ⟨i,j,rfl,rfl,Zq,ZY,Zi,Qh,QR,QS⟩:=hrel;clear HS
  by_cases hlt:i<j
  ·obtain ⟨h,hh⟩:∃h,h=(i+j) / 2:=⟨_,rfl⟩
   have QB:=Qh.out.cell m (by omega);have QC:=Qh.out.cell h (by omega);have Qa:=fun q=>HC.out.calls (wr.drewN q) (Qh.out.drewN q).grown d[m]! d[h]! (HD.out m (by omega)) (HD.out h (by omega));have hag:=HA.out h m (by omega) (by omega) (by omega) (by omega);obtain ⟨X,hX⟩:∃X,X=d[m]! := ⟨_,rfl⟩;obtain ⟨Y,hY⟩:∃Y,Y=d[h]! := ⟨_,rfl⟩;rw [<-hX] at QB Qa hag;rw [<-hY] at QC Qa hag;have HX:=yb hX;have HY:=yb hY;obtain ⟨x,xn,xc,hx⟩:=hE X;obtain ⟨y,yn,yc,hy⟩:=hE Y;rw [hx] at QB Qa;rw [hy] at QC Qa;have Qi:=yb Qa;have QN:=yb hag;clear Qa hx hy hX hY hag;have ZZ:((i:Int)+(j:Int)) / 2=(h:Int):=by omega
   have YU:(h:Int)<(d.size:Int):=by omega
   have Xw:(m:Int)<(d.size:Int):=by omega
   have hhi:i<=h:=by omega
   have Z0:h<j:=by omega
   clear hh
   by_cases hcf:cf X Y<0
   ·have hl:lt X Y=true:=by rw [<-QN.out];simpa [ltOf] using hcf
    have HL:=yb hl;have QK:cf X Y<0:=hcf;have QT:decide (cf X Y<0)=true:=by rw [decide_eq_true_iff];exact hcf
    clear hl hcf;go_wp2_with fail
    go_quiet ((refine Calls.quiet_of (Qi.out _)))
    go_wp2
    go_roundw
    case rel=>exact ⟨i,h,rfl,rfl,Zq,hhi,by omega,yb (Qh.out.drewN _),QR,yb (fun q h3 h4=>high_all' hL H1.out (by omega) (by rw [<-HX.out,<-HY.out];exact HL.out) q h3 h4)⟩
    case measure=>simp [intOf];omega
   ·have hl:lt X Y=false:=by rw [<-QN.out];simpa [ltOf] using hcf
    have HL:=yb hl;have QK:0<=cf X Y:=by omega
    have QT:decide (cf X Y<0)=false:=by rw [decide_eq_false_iff_not];omega
    clear hl hcf;go_wp2_with fail
    go_quiet ((refine Calls.quiet_of (Qi.out _)))
    go_wp2
    go_roundw
    case rel=>exact ⟨h+1,j,by go_num,rfl,by omega,by omega,Zi,yb (Qh.out.drewN _),yb (fun q h3 h4=>low_all' hL H1.out (by omega:h<m) (by rw [<-HX.out,<-HY.out];exact HL.out) q h3 (by omega)),QS⟩
    case measure=>simp [intOf];omega
  ·obtain rfl:i=j:=by omega
   go_wp2
   go_loopw [17] (fun vk wr2=>∃(k:Nat) (dk:Array α),vk=.int .i64 k/\i<=k/\k<=m/\dk.size=d.size/\Hid (SB enc w0 g 23 rest dk wr2)/\Hid (∀q,dk[q]! = shrF d m k q)/\Hid (PermIn a b d dk)) (fun vk _=>(intOf vk).toNat)
   case atStart=>exact ⟨m,d,rfl,Zi,yp _,rfl,Qh,yb (fun q=>(shrF_zero d m q).symm),yb (permIn_refl _ _ _)⟩
   case round =>
    obtain ⟨k,dk,rfl,Xx,hkm,QM,Qy,HR,HP⟩:=hrel;clear Qh
    by_cases hk:i<k
    ·obtain ⟨u,rfl⟩:∃u,k=u+1:=⟨k-1,by omega⟩
     have QB:=Qy.out.cell (u+1) (by omega);have QC:=Qy.out.cell u (by omega);have ZL:=Qy.out.free (u+1);have ZV:=Qy.out.free u;obtain ⟨X,hX⟩:∃X,X=dk[u+1]! := ⟨_,rfl⟩;obtain ⟨Y,hY⟩:∃Y,Y=dk[u]! := ⟨_,rfl⟩;rw [<-hX] at QB;rw [<-hY] at QC;have HX:=yb hX;have HY:=yb hY;obtain ⟨x,xn,xc,hx⟩:=hE X;obtain ⟨y,yn,yc,hy⟩:=hE Y;rw [hx] at QB;rw [hy] at QC;have Q9:=yb hx;have Za:=yb hy;clear hx hy hX hY;have ZW:((u:Int)+1).toNat=u+1:=by omega
     have Yp:((u:Int)+1-1)=u:=by omega
     have Zh:(u:Int)<(d.size:Int):=by omega
     have Zb:(u:Int)+1<(d.size:Int):=by omega
     go_wp2
     go_region
     all_goals go_wp2
     go_roundw
     case rel =>
      refine ⟨u,swp dk (u+1) u,by go_num,by omega,by omega,by rw [size_swp];exact QM,?_,yb (shrF_step d dk m u (by omega) (by omega) HR.out),yb (permIn_trans _ _ _ _ _ HP.out (swp_permIn dk a b (u+1) u (by omega) (by omega) (by omega) (by omega) (by omega)))⟩;have hw:=Qy.out.swp (u+1) u (by omega) (by omega) 1;rw [<-HX.out,<-HY.out,Q9.out,Za.out] at hw;exact yb hw
     case measure=>simp [intOf]
    ·obtain rfl:i=k:=by omega
     go_wp2;go_end0
     refine ⟨rfl,dk,QM,Qy.out,HP.out,?_⟩;rw [hbm];exact right_done hL d dk a m i Zq Zi H1.out QR.out QS.out HR.out
def zg3 {α:Type} [Inhabited α] (enc:α->Value) (cf:α->α->Int) (lt:α->α->Bool) (D:α->Prop) (f:FuncId) (cb:Array Value) (g cap:Nat) (rest:List Value) (n:Nat) (w0:World) (N:Nat):Prop :=
 ∀(a m b:Nat) (d:Array α) (w:World),b-a<=N->d.size=n->SB enc w0 g 23 rest d w->(∀i,i<d.size->D d[i]!)->a<m->m<b->b<=n->SortedIn lt a m d->SortedIn lt m b d->zew (ltOf cf) lt d a m b ->
  Calls Tryz.prog 203 #[.slice (some ⟨g,0,none⟩) n cap,.int .i64 a,.int .i64 m,.int .i64 b,.func (.func f) #[] cb] w fun e w'=>zdW enc lt g a b rest d w0 e w'
def zhu {α:Type} [Inhabited α] (enc:α->Value) (lt:α->α->Bool) (f:FuncId) (cb:Array Value) (g cap:Nat) (rest:List Value) (n:Nat) (w0:World) (a m b mid s0 r0:Nat) (d:Array α):Prop :=
 ∀(s:Nat) (wr:World),s0<=s->s<=r0->SB enc w0 g 23 rest d wr->(s0<s->lt d[mid+m-s]! d[s-1]! = false)->(s<r0->lt d[mid+m-s-1]! d[s]! = true) ->
   ∃e,e=mid+m-s/\m<=e/\e<=b/\mid<=e/\s+(e-m)=mid /\
   (s<m->m<e->Calls Tryz.prog 209 #[.slice (some ⟨g,0,none⟩) n cap,.int .i64 s,.int .i64 m,.int .i64 e,.func (.func f) #[] cb] wr fun e1 w'=>e1=.returned (.tuple #[])/\∃R:Array α,R.size=n/\SB enc w0 g 23 rest R w'/\(∀k,R[k]! = rotF d s m e k)/\PermIn a b d R) /\
   (∀(R:Array α) (W:World),R.size=n->SB enc w0 g 23 rest R W->(∀k,R[k]! = rotF d s m e k)->PermIn a b d R->a<s->s<mid->Calls Tryz.prog 203 #[.slice (some ⟨g,0,none⟩) n cap,.int .i64 a,.int .i64 s,.int .i64 mid,.func (.func f) #[] cb] W fun e1 w'=>zdW enc lt g a mid rest R w0 e1 w') /\
   (∀(R R1:Array α) (W:World),R.size=n->R1.size=n->SB enc w0 g 23 rest R1 W->(∀k,R[k]! = rotF d s m e k)->PermIn a b d R->PermIn a mid R R1->mid<e->e<b->Calls Tryz.prog 203 #[.slice (some ⟨g,0,none⟩) n cap,.int .i64 mid,.int .i64 e,.int .i64 b,.func (.func f) #[] cb] W fun e1 w'=>zdW enc lt g mid b rest R1 w0 e1 w') /\
   (∀R:Array α,(∀k,R[k]! = rotF d s m e k)->(s=a\/s=mid)->SortedIn lt a mid R) /\
   (∀R R1:Array α,(∀k,R[k]! = rotF d s m e k)->PermIn a mid R R1->(e=mid\/e=b)->SortedIn lt mid b R1) /\
   (∀R R1 R2:Array α,R.size=n->(∀k,R[k]! = rotF d s m e k)->PermIn a b d R->PermIn a mid R R1->SortedIn lt a mid R1->PermIn mid b R1 R2->SortedIn lt mid b R2->PermIn a b d R2/\SortedIn lt a b R2)
theorem sym_finQ {α:Type} [Inhabited α] (enc:α->Value) (hE:∀x,∃a n c,enc x=.slice a n c) (cf:α->α->Int) (lt:α->α->Bool) (hL:SWO lt) (D:α->Prop) (f:FuncId) (cb:Array Value) (g cap:Nat) (rest:List Value) (n:Nat) (w0:World) (N:Nat)
  (hsz:n<4611686018427387904) (ih:zg3 enc cf lt D f cb g cap rest n w0 N)
  (a m b mid s0 r0:Nat) (d:Array α) (hN:b-a<=N+1) (hdn:d.size=n) (hD:∀i,i<d.size->D d[i]!) (hb:b<=n) (h1:SortedIn lt a m d) (h2:SortedIn lt m b d) (hA:zew (ltOf cf) lt d a m b)
  (hma:a<mid) (hmB:mid<b) (hs0a:a<=s0) (hr0m:r0<=m) (hr0d:r0<=mid) (hs0b:mid+m-s0<=b) (hend0:s0=a\/mid+m-s0=b) (hend1:r0=m\/r0=mid):zhu enc lt f cb g cap rest n w0 a m b mid s0 r0 d:=by
 have HD:=yb hD;have H1:=yb h1;have H2:=yb h2;have HA:=yb hA;have HI:=yb ih;clear hD h1 h2 hA ih;intro s wr h3 h4 hSB h5 h6;refine ⟨mid+m-s,rfl,by omega,by omega,by omega,by omega,?_,?_,?_,?_,?_,?_⟩
 ·intro h7 h8
  have h9:=rot_anyQ enc hE (.func (.func f) #[] cb) g cap s m (mid+m-s) rest d w0 wr hSB h7 h8 (by omega) (by omega);rw [hdn] at h9;exact h9.mono fun e1 w' ⟨q1,R,q2,q3,q4,q5⟩=>⟨q1,R,q2,q3,q4,permIn_mono d R s (mid+m-s) a b (by omega) (by omega) (by omega) q5⟩
 ·intro R W Zj Zk Q4 hR4 h7 h8
  refine HI.out a s mid R W (by omega) Zj Zk (zd9 D (by omega) hR4 HD.out) h7 h8 (by omega) (sp1 Q4 (by omega) (by omega) H1.out) ?_ ?_
  ·have:=sp2 Q4 (by omega) (by omega) (by omega) H2.out
   rwa [show s+(mid+m-s-m)=mid from by omega] at this
  ·have:=agree_lo Q4 (a:=a) (by omega) (by omega) (by omega:mid+m-s<=b) HA.out
   rwa [show s+(mid+m-s-m)=mid from by omega] at this
 ·intro R R1 W Zj Zk Q4 hR4 hR5 QX h7 h8
  have hc:∀k,mid<=k->R1[k]! = R[k]! := fun k hk=>QX.2.1 k (by omega);refine HI.out mid (mid+m-s) b R1 W (by omega) Zk Q4 (zd9 D (by omega) QX (zd9 D (by omega) hR5 HD.out)) h7 h8 hb ?_ ?_ ?_
  ·have:=sp3 hR4 (a:=a) (by omega) (by omega) (by omega) H1.out
   rw [show s+(mid+m-s-m)=mid from by omega] at this;exact zcJ this (fun k h9 _=>hc k h9)
  ·exact zcJ (sp4 hR4 (by omega) (by omega) (by omega) H2.out) (fun k h9 _=>hc k (by omega))
  ·have:=agree_hi hR4 (b:=b) (by omega:a<=s) (by omega) (by omega) HA.out
   rw [show s+(mid+m-s-m)=mid from by omega] at this;exact agree_congr this (fun k h9 _=>hc k h9)
 ·intro R hR h7
  have:=skip_lo hR (by omega:a<=s) (by omega) (by omega) (by omega:mid+m-s<=b) H1.out H2.out (by omega)
  rwa [show s+(mid+m-s-m)=mid from by omega] at this
 ·intro R R1 hR hP h7
  have:=skip_hi hR (by omega:a<=s) (by omega) (by omega) (by omega:mid+m-s<=b) H1.out H2.out (by omega);rw [show s+(mid+m-s-m)=mid from by omega] at this;exact zcJ this (fun k h9 _=>hP.2.1 k (by omega))
 ·intro R R1 R2 Zj hR hP p1 s1 p2 s2
  have ZN:s+(mid+m-s-m)=mid:=by omega
  refine ⟨permIn_trans _ _ _ _ _ (permIn_trans _ _ _ _ _ hP (permIn_mono R R1 a mid a b (by omega) (by omega) (by omega) p1)) (permIn_mono R1 R2 mid b a b (by omega) (by omega) (by have:=p1.1;omega) p2),?_⟩;refine merge_done hL d R R1 R2 a m b s (mid+m-s) (by omega) (by omega) (by omega) (by omega) (by omega) (by omega) H1.out H2.out hR (fun q1 q2=>h5 (by omega)) (fun q1 q2=>?_) (by rw [ZN];exact p1) (by rw [ZN];exact s1) (by rw [ZN];exact p2) (by rw [ZN];exact s2);have h8:=h6 (by omega)
  cases h9:lt d[s]! d[mid+m-s-1]! with
  | false=>rfl
  | true=>have:=hL.trans _ _ _ h8 h9;rw [hL.irrefl] at this;cases this
theorem sym_hiQ {α:Type} [Inhabited α] (enc:α->Value) (hE:∀x,∃a n c,enc x=.slice a n c) (cf:α->α->Int) (lt:α->α->Bool) (D:α->Prop) (f:FuncId) (cb:Array Value) (g cap:Nat) (rest:List Value) (n:Nat) (w0:World)
  (hC:CmpQ Tryz.prog f cb enc cf D w0 g) (hsz:n<4611686018427387904) (a m b mid s0 r0:Nat) (d:Array α) (w:World) (hdn:d.size=n) (hS:SB enc w0 g 23 rest d w) (hD:∀i,i<d.size->D d[i]!) (ham:a+1<m) (hmb:m+1<b) (hb:b<=n) (hA:zew (ltOf cf) lt d a m b)
  (hmid:mid=(a+b) / 2) (hcase:mid<m) (hs0:s0=mid+m-b) (hr0:r0=mid) (hfin:zhu enc lt f cb g cap rest n w0 a m b mid s0 r0 d) :
  Calls Tryz.prog 203 #[.slice (some ⟨g,0,none⟩) n cap,.int .i64 a,.int .i64 m,.int .i64 b,.func (.func f) #[] cb] w fun e w'=>zdW enc lt g a b rest d w0 e w':=by
 have Z1:((m:Int)-(a:Int)==1)=false:=by rw [yf];omega
 have Z2:((b:Int)-(m:Int)==1)=false:=by rw [yf];omega
 have Zr:((a:Int)+(b:Int)) / 2=(mid:Int):=by omega
 have hma:a<mid:=by omega
 have hmB:mid<b:=by omega
 have Z3:s0<=r0:=by omega
 have hs0a:a<=s0:=by omega
 have hr0m:r0<=m:=by omega
 have hr0d:r0<=mid:=by omega
 have hs0b:mid+m-s0<=b:=by omega
 have hend0:s0=a\/mid+m-s0=b:=by omega
 have hend1:r0=m\/r0=mid:=by omega
 have eg:=hC.enters;have HC:=yb hC;have HS:=yb hS;have HD:=yb hD;have HA:=yb hA;have Z4:=yb hs0;have Z5:=yb hr0;have FIN:=yb hfin;clear hC hS hD hA hs0 hr0 hmid hfin;go_enter Tryz.func203,Tryz.ntmps203
 go_wp2
 go_loopw [20,21] (fun vs vr wr=>∃(s r:Nat),vs=.int .i64 s/\vr=.int .i64 r/\s0<=s/\s<=r/\r<=r0/\Hid (SB enc w0 g 23 rest d wr)/\Hid (s0<s->lt d[mid+m-s]! d[s-1]! = false)/\Hid (r<r0->lt d[mid+m-r-1]! d[r]! = true)) (fun vs vr _=>(intOf vr).toNat-(intOf vs).toNat)
 case atStart=>exact ⟨s0,r0,by have:=Z4.out;go_num,by have:=Z5.out;go_num,yp _,Z3,yp _,HS,yb (fun h=>absurd h (Nat.lt_irrefl _)),yb (fun h=>absurd h (Nat.lt_irrefl _))⟩
 case round =>
  obtain ⟨s,r,rfl,rfl,h3,h4,h5,Qh,QR,QS⟩:=hrel;clear HS
  by_cases hlt:s<r
  ·obtain ⟨c,hc⟩:∃c,c=(s+r) / 2:=⟨_,rfl⟩
   have QB:=Qh.out.cell (mid+m-1-c) (by omega);have QC:=Qh.out.cell c (by omega);have Qa:=fun q=>HC.out.calls (wr.drewN q) (Qh.out.drewN q).grown d[mid+m-1-c]! d[c]! (HD.out (mid+m-1-c) (by omega)) (HD.out c (by omega));have hag:=HA.out c (mid+m-1-c) (by omega) (by omega) (by omega) (by omega);obtain ⟨X,hX⟩:∃X,X=d[mid+m-1-c]! := ⟨_,rfl⟩;obtain ⟨Y,hY⟩:∃Y,Y=d[c]! := ⟨_,rfl⟩;rw [<-hX] at QB Qa hag;rw [<-hY] at QC Qa hag;have HX:=yb hX;have HY:=yb hY;obtain ⟨x,xn,xc,hx⟩:=hE X;obtain ⟨y,yn,yc,hy⟩:=hE Y;rw [hx] at QB Qa;rw [hy] at QC Qa;have Qi:=yb Qa;have QN:=yb hag;clear Qa hx hy hX hY hag;have ZZ:((s:Int)+(r:Int)) / 2=(c:Int):=by omega
   have Z6:((mid:Int)+(m:Int)-1-(c:Int)).toNat=mid+m-1-c:=by omega
   have YV:0<=(mid:Int)+(m:Int)-1-(c:Int):=by omega
   have YW:(mid:Int)+(m:Int)-1-(c:Int)<(n:Int):=by omega
   have YX:(c:Int)<(n:Int):=by omega
   have hhi:s<=c:=by omega
   have Z0:c<r:=by omega
   clear hc
   by_cases hcf:cf X Y<0
   ·have hl:lt X Y=true:=by rw [<-QN.out];simpa [ltOf] using hcf
    have HL:=yb hl;have QK:cf X Y<0:=hcf;have QT:decide (cf X Y<0)=true:=by rw [decide_eq_true_iff];exact hcf
    clear hl hcf;go_wp2_with fail
    go_quiet ((refine Calls.quiet_of (Qi.out _)))
    go_wp2
    go_roundw
    case rel=>exact ⟨s,c,rfl,rfl,h3,hhi,by omega,yb (Qh.out.drewN _),QR,yb (fun _=>by rw [show mid+m-c-1=mid+m-1-c from by omega,<-HX.out,<-HY.out];exact HL.out)⟩
    case measure=>simp [intOf];omega
   ·have hl:lt X Y=false:=by rw [<-QN.out];simpa [ltOf] using hcf
    have HL:=yb hl;have QK:0<=cf X Y:=by omega
    have QT:decide (cf X Y<0)=false:=by rw [decide_eq_false_iff_not];omega
    clear hl hcf;go_wp2_with fail
    go_quiet ((refine Calls.quiet_of (Qi.out _)))
    go_wp2
    go_roundw
    case rel=>exact ⟨c+1,r,by go_num,rfl,by omega,by omega,h5,yb (Qh.out.drewN _),yb (fun _=>by rw [show mid+m-(c+1)=mid+m-1-c from by omega,Nat.add_sub_cancel,<-HX.out,<-HY.out];exact HL.out),QS⟩
    case measure=>simp [intOf];omega
  ·obtain rfl:s=r:=by omega
   obtain ⟨e,he,hme,heb,YY,Z7,FROT,FS1,FS2,FK1,FK2,FD⟩:=FIN.out s wr h3 h5 Qh.out QR.out QS.out;have YZ:(mid:Int)+(m:Int)-(s:Int)=(e:Int):=by omega
   replace FROT:=yb FROT;replace FS1:=yb FS1;replace FS2:=yb FS2;replace FK1:=yb FK1;replace FK2:=yb FK2;replace FD:=yb FD;clear he
   by_cases hA1:s<m
   ·by_cases hB1:m<e
    ·by_cases hC1:a<s
     ·by_cases hE1:e<b
      ·have QO:(s:Int)<(mid:Int):=by omega
       have QP:(mid:Int)<(e:Int):=by omega
       have Qv:=yb (FROT.out (by omega) (by omega));go_wp2_with fail
       (with_reducible refine Qv.out.mono ?_)
       rintro e1 w2 ⟨rfl,R,Qc,Qt,Qu,QD⟩;have Ql:=yb Qt;have Qd:=yb Qu;have Qk:=yb QD;clear Qt Qu QD;have QH:=FS1.out R w2 Qc Ql.out Qd.out Qk.out (by omega) (by omega);have QE:=yb QH;clear QH;go_wp2_with fail
       (with_reducible refine QE.out.mono ?_)
       rintro e2 w3 ⟨rfl,R1,Qf,Qn,Qo,Qp⟩;have Qb:R1.size=n:=Qf.trans Qc;have Qw:=yb Qn;have Qj:=yb Qo;have Qx:=yb Qp;clear Qf Qn Qo Qp;have QI:=FS2.out R R1 w3 Qc Qb Qw.out Qd.out Qk.out Qj.out (by omega) (by omega);have QF:=yb QI;clear QI;go_wp2_with fail
       (with_reducible refine QF.out.mono ?_)
       rintro e3 w4 ⟨rfl,R2,Qg,Qq,Qr,Qs⟩;have Qe:R2.size=n:=Qg.trans Qb;have Qz:=yb Qq;have Qm:=yb Qr;have QA:=yb Qs;clear Qg Qq Qr Qs;go_wp2
       all_goals go_end0
       all_goals exact ⟨rfl,R2,Qe.trans hdn.symm,Qz.out,FD.out R R1 R2 Qc Qd.out Qk.out Qj.out Qx.out Qm.out QA.out⟩
      ·have QO:(s:Int)<(mid:Int):=by omega
       have QP:(mid:Int)<(e:Int):=by omega
       have QU:(b:Int)<=(e:Int):=by omega
       have Qv:=yb (FROT.out (by omega) (by omega));go_wp2_with fail
       (with_reducible refine Qv.out.mono ?_)
       rintro e1 w2 ⟨rfl,R,Qc,Qt,Qu,QD⟩;have Ql:=yb Qt;have Qd:=yb Qu;have Qk:=yb QD;clear Qt Qu QD;have QH:=FS1.out R w2 Qc Ql.out Qd.out Qk.out (by omega) (by omega);have QE:=yb QH;clear QH;go_wp2_with fail
       (with_reducible refine QE.out.mono ?_)
       rintro e2 w3 ⟨rfl,R1,Qf,Qn,Qo,Qp⟩;have Qb:R1.size=n:=Qf.trans Qc;have Qw:=yb Qn;have Qj:=yb Qo;have Qx:=yb Qp;clear Qf Qn Qo Qp;have Qe:R1.size=n:=Qb;have Qz:=yb Qw.out;have Qm:=yb (permIn_refl R1 mid b);have QA:=yb (FK2.out R R1 Qd.out Qj.out (by omega));go_wp2
       all_goals go_end0
       all_goals exact ⟨rfl,R1,Qe.trans hdn.symm,Qz.out,FD.out R R1 R1 Qc Qd.out Qk.out Qj.out Qx.out Qm.out QA.out⟩
     ·by_cases hE1:e<b
      ·have QO:(s:Int)<(mid:Int):=by omega
       have QP:(mid:Int)<(e:Int):=by omega
       have QU:(s:Int)<=(a:Int):=by omega
       have Qv:=yb (FROT.out (by omega) (by omega));go_wp2_with fail
       (with_reducible refine Qv.out.mono ?_)
       rintro e1 w2 ⟨rfl,R,Qc,Qt,Qu,QD⟩;have Ql:=yb Qt;have Qd:=yb Qu;have Qk:=yb QD;clear Qt Qu QD;have Qb:R.size=n:=Qc;have Qw:=yb Ql.out;have Qj:=yb (permIn_refl R a mid);have Qx:=yb (FK1.out R Qd.out (by omega));have QI:=FS2.out R R w2 Qc Qb Qw.out Qd.out Qk.out Qj.out (by omega) (by omega);have QF:=yb QI;clear QI;go_wp2_with fail
       (with_reducible refine QF.out.mono ?_)
       rintro e3 w4 ⟨rfl,R2,Qg,Qq,Qr,Qs⟩;have Qe:R2.size=n:=Qg.trans Qb;have Qz:=yb Qq;have Qm:=yb Qr;have QA:=yb Qs;clear Qg Qq Qr Qs;go_wp2
       all_goals go_end0
       all_goals exact ⟨rfl,R2,Qe.trans hdn.symm,Qz.out,FD.out R R R2 Qc Qd.out Qk.out Qj.out Qx.out Qm.out QA.out⟩
      ·have QO:(s:Int)<(mid:Int):=by omega
       have QP:(mid:Int)<(e:Int):=by omega
       have QU:(s:Int)<=(a:Int):=by omega
       have Zc:(b:Int)<=(e:Int):=by omega
       have Qv:=yb (FROT.out (by omega) (by omega));go_wp2_with fail
       (with_reducible refine Qv.out.mono ?_)
       rintro e1 w2 ⟨rfl,R,Qc,Qt,Qu,QD⟩;have Ql:=yb Qt;have Qd:=yb Qu;have Qk:=yb QD;clear Qt Qu QD;have Qb:R.size=n:=Qc;have Qw:=yb Ql.out;have Qj:=yb (permIn_refl R a mid);have Qx:=yb (FK1.out R Qd.out (by omega));have Qe:R.size=n:=Qb;have Qz:=yb Qw.out;have Qm:=yb (permIn_refl R mid b);have QA:=yb (FK2.out R R Qd.out Qj.out (by omega));go_wp2
       all_goals go_end0
       all_goals exact ⟨rfl,R,Qe.trans hdn.symm,Qz.out,FD.out R R R Qc Qd.out Qk.out Qj.out Qx.out Qm.out QA.out⟩
    ·have QO:(e:Int)<=(m:Int):=by omega
     have QP:(mid:Int)<=(s:Int):=by omega
     have QU:(a:Int)<(s:Int):=by omega
     have Zc:(e:Int)<(b:Int):=by omega
     have Zs:(mid:Int)<(e:Int):=by omega
     have Qc:d.size=n:=hdn;have Ql:=yb Qh.out;have Qd:=yb (zdM d s m e (by omega) (by omega) (by omega));have Qk:=yb (permIn_refl d a b);have Qb:d.size=n:=Qc;have Qw:=yb Ql.out;have Qj:=yb (permIn_refl d a mid);have Qx:=yb (FK1.out d Qd.out (by omega));have QI:=FS2.out d d wr Qc Qb Qw.out Qd.out Qk.out Qj.out (by omega) (by omega);have QF:=yb QI;clear QI;go_wp2_with fail
     all_goals
      (with_reducible refine QF.out.mono ?_)
      rintro e3 w4 ⟨rfl,R2,Qg,Qq,Qr,Qs⟩;have Qe:R2.size=n:=Qg.trans Qb;have Qz:=yb Qq;have Qm:=yb Qr;have QA:=yb Qs;clear Qg Qq Qr Qs;go_wp2
      all_goals go_end0
      all_goals exact ⟨rfl,R2,Qe.trans hdn.symm,Qz.out,FD.out d d R2 Qc Qd.out Qk.out Qj.out Qx.out Qm.out QA.out⟩
   ·by_cases hB1:m<e
    ·have QO:(m:Int)<=(s:Int):=by omega
     have QP:(s:Int)<(mid:Int):=by omega
     have QU:(a:Int)<(s:Int):=by omega
     have Zc:(e:Int)<(b:Int):=by omega
     have Zs:(e:Int)<=(mid:Int):=by omega
     have Qc:d.size=n:=hdn;have Ql:=yb Qh.out;have Qd:=yb (zdM d s m e (by omega) (by omega) (by omega));have Qk:=yb (permIn_refl d a b);have QH:=FS1.out d wr Qc Ql.out Qd.out Qk.out (by omega) (by omega);have QE:=yb QH;clear QH;go_wp2_with fail
     all_goals
      (with_reducible refine QE.out.mono ?_)
      rintro e2 w3 ⟨rfl,R1,Qf,Qn,Qo,Qp⟩;have Qb:R1.size=n:=Qf.trans Qc;have Qw:=yb Qn;have Qj:=yb Qo;have Qx:=yb Qp;clear Qf Qn Qo Qp;have Qe:R1.size=n:=Qb;have Qz:=yb Qw.out;have Qm:=yb (permIn_refl R1 mid b);have QA:=yb (FK2.out d R1 Qd.out Qj.out (by omega));go_wp2
      all_goals go_end0
      all_goals exact ⟨rfl,R1,Qe.trans hdn.symm,Qz.out,FD.out d R1 R1 Qc Qd.out Qk.out Qj.out Qx.out Qm.out QA.out⟩
    ·have QO:(m:Int)<=(s:Int):=by omega
     have QP:(e:Int)<=(m:Int):=by omega
     have QU:(mid:Int)<=(s:Int):=by omega
     have Zc:(a:Int)<(s:Int):=by omega
     have Zs:(e:Int)<(b:Int):=by omega
     have Y0:(e:Int)<=(mid:Int):=by omega
     have Qc:d.size=n:=hdn;have Ql:=yb Qh.out;have Qd:=yb (zdM d s m e (by omega) (by omega) (by omega));have Qk:=yb (permIn_refl d a b);have Qb:d.size=n:=Qc;have Qw:=yb Ql.out;have Qj:=yb (permIn_refl d a mid);have Qx:=yb (FK1.out d Qd.out (by omega));have Qe:d.size=n:=Qb;have Qz:=yb Qw.out;have Qm:=yb (permIn_refl d mid b);have QA:=yb (FK2.out d d Qd.out Qj.out (by omega));go_wp2
     all_goals
      all_goals go_end0
      all_goals exact ⟨rfl,d,Qe.trans hdn.symm,Qz.out,FD.out d d d Qc Qd.out Qk.out Qj.out Qx.out Qm.out QA.out⟩
theorem sym_loQ {α:Type} [Inhabited α] (enc:α->Value) (hE:∀x,∃a n c,enc x=.slice a n c) (cf:α->α->Int) (lt:α->α->Bool) (D:α->Prop) (f:FuncId) (cb:Array Value) (g cap:Nat) (rest:List Value) (n:Nat) (w0:World)
  (hC:CmpQ Tryz.prog f cb enc cf D w0 g) (hsz:n<4611686018427387904) (a m b mid s0 r0:Nat) (d:Array α) (w:World) (hdn:d.size=n) (hS:SB enc w0 g 23 rest d w) (hD:∀i,i<d.size->D d[i]!) (ham:a+1<m) (hmb:m+1<b) (hb:b<=n) (hA:zew (ltOf cf) lt d a m b)
  (hmid:mid=(a+b) / 2) (hcase:m<=mid) (hs0:s0=a) (hr0:r0=m) (hfin:zhu enc lt f cb g cap rest n w0 a m b mid s0 r0 d) :
  Calls Tryz.prog 203 #[.slice (some ⟨g,0,none⟩) n cap,.int .i64 a,.int .i64 m,.int .i64 b,.func (.func f) #[] cb] w fun e w'=>zdW enc lt g a b rest d w0 e w':=by
 have Z1:((m:Int)-(a:Int)==1)=false:=by rw [yf];omega
 have Z2:((b:Int)-(m:Int)==1)=false:=by rw [yf];omega
 have Zr:((a:Int)+(b:Int)) / 2=(mid:Int):=by omega
 have hma:a<mid:=by omega
 have hmB:mid<b:=by omega
 have Z3:s0<=r0:=by omega
 have hs0a:a<=s0:=by omega
 have hr0m:r0<=m:=by omega
 have hr0d:r0<=mid:=by omega
 have hs0b:mid+m-s0<=b:=by omega
 have hend0:s0=a\/mid+m-s0=b:=by omega
 have hend1:r0=m\/r0=mid:=by omega
 have eg:=hC.enters;have HC:=yb hC;have HS:=yb hS;have HD:=yb hD;have HA:=yb hA;have Z4:=yb hs0;have Z5:=yb hr0;have FIN:=yb hfin;clear hC hS hD hA hs0 hr0 hmid hfin;go_enter Tryz.func203,Tryz.ntmps203
 go_wp2
 go_loopw [20,21] (fun vs vr wr=>∃(s r:Nat),vs=.int .i64 s/\vr=.int .i64 r/\s0<=s/\s<=r/\r<=r0/\Hid (SB enc w0 g 23 rest d wr)/\Hid (s0<s->lt d[mid+m-s]! d[s-1]! = false)/\Hid (r<r0->lt d[mid+m-r-1]! d[r]! = true)) (fun vs vr _=>(intOf vr).toNat-(intOf vs).toNat)
 case atStart=>exact ⟨s0,r0,by have:=Z4.out;go_num,by have:=Z5.out;go_num,yp _,Z3,yp _,HS,yb (fun h=>absurd h (Nat.lt_irrefl _)),yb (fun h=>absurd h (Nat.lt_irrefl _))⟩
 case round =>
  obtain ⟨s,r,rfl,rfl,h3,h4,h5,Qh,QR,QS⟩:=hrel;clear HS
  by_cases hlt:s<r
  ·obtain ⟨c,hc⟩:∃c,c=(s+r) / 2:=⟨_,rfl⟩
   have QB:=Qh.out.cell (mid+m-1-c) (by omega);have QC:=Qh.out.cell c (by omega);have Qa:=fun q=>HC.out.calls (wr.drewN q) (Qh.out.drewN q).grown d[mid+m-1-c]! d[c]! (HD.out (mid+m-1-c) (by omega)) (HD.out c (by omega));have hag:=HA.out c (mid+m-1-c) (by omega) (by omega) (by omega) (by omega);obtain ⟨X,hX⟩:∃X,X=d[mid+m-1-c]! := ⟨_,rfl⟩;obtain ⟨Y,hY⟩:∃Y,Y=d[c]! := ⟨_,rfl⟩;rw [<-hX] at QB Qa hag;rw [<-hY] at QC Qa hag;have HX:=yb hX;have HY:=yb hY;obtain ⟨x,xn,xc,hx⟩:=hE X;obtain ⟨y,yn,yc,hy⟩:=hE Y;rw [hx] at QB Qa;rw [hy] at QC Qa;have Qi:=yb Qa;have QN:=yb hag;clear Qa hx hy hX hY hag;have ZZ:((s:Int)+(r:Int)) / 2=(c:Int):=by omega
   have Z6:((mid:Int)+(m:Int)-1-(c:Int)).toNat=mid+m-1-c:=by omega
   have YV:0<=(mid:Int)+(m:Int)-1-(c:Int):=by omega
   have YW:(mid:Int)+(m:Int)-1-(c:Int)<(n:Int):=by omega
   have YX:(c:Int)<(n:Int):=by omega
   have hhi:s<=c:=by omega
   have Z0:c<r:=by omega
   clear hc
   by_cases hcf:cf X Y<0
   ·have hl:lt X Y=true:=by rw [<-QN.out];simpa [ltOf] using hcf
    have HL:=yb hl;have QK:cf X Y<0:=hcf;have QT:decide (cf X Y<0)=true:=by rw [decide_eq_true_iff];exact hcf
    clear hl hcf;go_wp2_with fail
    go_quiet ((refine Calls.quiet_of (Qi.out _)))
    go_wp2
    go_roundw
    case rel=>exact ⟨s,c,rfl,rfl,h3,hhi,by omega,yb (Qh.out.drewN _),QR,yb (fun _=>by rw [show mid+m-c-1=mid+m-1-c from by omega,<-HX.out,<-HY.out];exact HL.out)⟩
    case measure=>simp [intOf];omega
   ·have hl:lt X Y=false:=by rw [<-QN.out];simpa [ltOf] using hcf
    have HL:=yb hl;have QK:0<=cf X Y:=by omega
    have QT:decide (cf X Y<0)=false:=by rw [decide_eq_false_iff_not];omega
    clear hl hcf;go_wp2_with fail
    go_quiet ((refine Calls.quiet_of (Qi.out _)))
    go_wp2
    go_roundw
    case rel=>exact ⟨c+1,r,by go_num,rfl,by omega,by omega,h5,yb (Qh.out.drewN _),yb (fun _=>by rw [show mid+m-(c+1)=mid+m-1-c from by omega,Nat.add_sub_cancel,<-HX.out,<-HY.out];exact HL.out),QS⟩
    case measure=>simp [intOf];omega
  ·obtain rfl:s=r:=by omega
   obtain ⟨e,he,hme,heb,YY,Z7,FROT,FS1,FS2,FK1,FK2,FD⟩:=FIN.out s wr h3 h5 Qh.out QR.out QS.out;have YZ:(mid:Int)+(m:Int)-(s:Int)=(e:Int):=by omega
   replace FROT:=yb FROT;replace FS1:=yb FS1;replace FS2:=yb FS2;replace FK1:=yb FK1;replace FK2:=yb FK2;replace FD:=yb FD;clear he
   by_cases hA1:s<m
   ·by_cases hB1:m<e
    ·by_cases hC1:a<s
     ·by_cases hE1:e<b
      ·have QO:(s:Int)<(mid:Int):=by omega
       have QP:(mid:Int)<(e:Int):=by omega
       have Qv:=yb (FROT.out (by omega) (by omega));go_wp2_with fail
       (with_reducible refine Qv.out.mono ?_)
       rintro e1 w2 ⟨rfl,R,Qc,Qt,Qu,QD⟩;have Ql:=yb Qt;have Qd:=yb Qu;have Qk:=yb QD;clear Qt Qu QD;have QH:=FS1.out R w2 Qc Ql.out Qd.out Qk.out (by omega) (by omega);have QE:=yb QH;clear QH;go_wp2_with fail
       (with_reducible refine QE.out.mono ?_)
       rintro e2 w3 ⟨rfl,R1,Qf,Qn,Qo,Qp⟩;have Qb:R1.size=n:=Qf.trans Qc;have Qw:=yb Qn;have Qj:=yb Qo;have Qx:=yb Qp;clear Qf Qn Qo Qp;have QI:=FS2.out R R1 w3 Qc Qb Qw.out Qd.out Qk.out Qj.out (by omega) (by omega);have QF:=yb QI;clear QI;go_wp2_with fail
       (with_reducible refine QF.out.mono ?_)
       rintro e3 w4 ⟨rfl,R2,Qg,Qq,Qr,Qs⟩;have Qe:R2.size=n:=Qg.trans Qb;have Qz:=yb Qq;have Qm:=yb Qr;have QA:=yb Qs;clear Qg Qq Qr Qs;go_wp2
       all_goals go_end0
       all_goals exact ⟨rfl,R2,Qe.trans hdn.symm,Qz.out,FD.out R R1 R2 Qc Qd.out Qk.out Qj.out Qx.out Qm.out QA.out⟩
      ·have QO:(s:Int)<(mid:Int):=by omega
       have QP:(mid:Int)<(e:Int):=by omega
       have QU:(b:Int)<=(e:Int):=by omega
       have Qv:=yb (FROT.out (by omega) (by omega));go_wp2_with fail
       (with_reducible refine Qv.out.mono ?_)
       rintro e1 w2 ⟨rfl,R,Qc,Qt,Qu,QD⟩;have Ql:=yb Qt;have Qd:=yb Qu;have Qk:=yb QD;clear Qt Qu QD;have QH:=FS1.out R w2 Qc Ql.out Qd.out Qk.out (by omega) (by omega);have QE:=yb QH;clear QH;go_wp2_with fail
       (with_reducible refine QE.out.mono ?_)
       rintro e2 w3 ⟨rfl,R1,Qf,Qn,Qo,Qp⟩;have Qb:R1.size=n:=Qf.trans Qc;have Qw:=yb Qn;have Qj:=yb Qo;have Qx:=yb Qp;clear Qf Qn Qo Qp;have Qe:R1.size=n:=Qb;have Qz:=yb Qw.out;have Qm:=yb (permIn_refl R1 mid b);have QA:=yb (FK2.out R R1 Qd.out Qj.out (by omega));go_wp2
       all_goals go_end0
       all_goals exact ⟨rfl,R1,Qe.trans hdn.symm,Qz.out,FD.out R R1 R1 Qc Qd.out Qk.out Qj.out Qx.out Qm.out QA.out⟩
     ·by_cases hE1:e<b
      ·have QO:(s:Int)<(mid:Int):=by omega
       have QP:(mid:Int)<(e:Int):=by omega
       have QU:(s:Int)<=(a:Int):=by omega
       have Qv:=yb (FROT.out (by omega) (by omega));go_wp2_with fail
       (with_reducible refine Qv.out.mono ?_)
       rintro e1 w2 ⟨rfl,R,Qc,Qt,Qu,QD⟩;have Ql:=yb Qt;have Qd:=yb Qu;have Qk:=yb QD;clear Qt Qu QD;have Qb:R.size=n:=Qc;have Qw:=yb Ql.out;have Qj:=yb (permIn_refl R a mid);have Qx:=yb (FK1.out R Qd.out (by omega));have QI:=FS2.out R R w2 Qc Qb Qw.out Qd.out Qk.out Qj.out (by omega) (by omega);have QF:=yb QI;clear QI;go_wp2_with fail
       (with_reducible refine QF.out.mono ?_)
       rintro e3 w4 ⟨rfl,R2,Qg,Qq,Qr,Qs⟩;have Qe:R2.size=n:=Qg.trans Qb;have Qz:=yb Qq;have Qm:=yb Qr;have QA:=yb Qs;clear Qg Qq Qr Qs;go_wp2
       all_goals go_end0
       all_goals exact ⟨rfl,R2,Qe.trans hdn.symm,Qz.out,FD.out R R R2 Qc Qd.out Qk.out Qj.out Qx.out Qm.out QA.out⟩
      ·have QO:(s:Int)<(mid:Int):=by omega
       have QP:(mid:Int)<(e:Int):=by omega
       have QU:(s:Int)<=(a:Int):=by omega
       have Zc:(b:Int)<=(e:Int):=by omega
       have Qv:=yb (FROT.out (by omega) (by omega));go_wp2_with fail
       (with_reducible refine Qv.out.mono ?_)
       rintro e1 w2 ⟨rfl,R,Qc,Qt,Qu,QD⟩;have Ql:=yb Qt;have Qd:=yb Qu;have Qk:=yb QD;clear Qt Qu QD;have Qb:R.size=n:=Qc;have Qw:=yb Ql.out;have Qj:=yb (permIn_refl R a mid);have Qx:=yb (FK1.out R Qd.out (by omega));have Qe:R.size=n:=Qb;have Qz:=yb Qw.out;have Qm:=yb (permIn_refl R mid b);have QA:=yb (FK2.out R R Qd.out Qj.out (by omega));go_wp2
       all_goals go_end0
       all_goals exact ⟨rfl,R,Qe.trans hdn.symm,Qz.out,FD.out R R R Qc Qd.out Qk.out Qj.out Qx.out Qm.out QA.out⟩
    ·have QO:(e:Int)<=(m:Int):=by omega
     have QP:(mid:Int)<=(s:Int):=by omega
     have QU:(a:Int)<(s:Int):=by omega
     have Zc:(e:Int)<(b:Int):=by omega
     have Zs:(mid:Int)<(e:Int):=by omega
     have Qc:d.size=n:=hdn;have Ql:=yb Qh.out;have Qd:=yb (zdM d s m e (by omega) (by omega) (by omega));have Qk:=yb (permIn_refl d a b);have Qb:d.size=n:=Qc;have Qw:=yb Ql.out;have Qj:=yb (permIn_refl d a mid);have Qx:=yb (FK1.out d Qd.out (by omega));have QI:=FS2.out d d wr Qc Qb Qw.out Qd.out Qk.out Qj.out (by omega) (by omega);have QF:=yb QI;clear QI;go_wp2_with fail
     all_goals
      (with_reducible refine QF.out.mono ?_)
      rintro e3 w4 ⟨rfl,R2,Qg,Qq,Qr,Qs⟩;have Qe:R2.size=n:=Qg.trans Qb;have Qz:=yb Qq;have Qm:=yb Qr;have QA:=yb Qs;clear Qg Qq Qr Qs;go_wp2
      all_goals go_end0
      all_goals exact ⟨rfl,R2,Qe.trans hdn.symm,Qz.out,FD.out d d R2 Qc Qd.out Qk.out Qj.out Qx.out Qm.out QA.out⟩
   ·by_cases hB1:m<e
    ·have QO:(m:Int)<=(s:Int):=by omega
     have QP:(s:Int)<(mid:Int):=by omega
     have QU:(a:Int)<(s:Int):=by omega
     have Zc:(e:Int)<(b:Int):=by omega
     have Zs:(e:Int)<=(mid:Int):=by omega
     have Qc:d.size=n:=hdn;have Ql:=yb Qh.out;have Qd:=yb (zdM d s m e (by omega) (by omega) (by omega));have Qk:=yb (permIn_refl d a b);have QH:=FS1.out d wr Qc Ql.out Qd.out Qk.out (by omega) (by omega);have QE:=yb QH;clear QH;go_wp2_with fail
     all_goals
      (with_reducible refine QE.out.mono ?_)
      rintro e2 w3 ⟨rfl,R1,Qf,Qn,Qo,Qp⟩;have Qb:R1.size=n:=Qf.trans Qc;have Qw:=yb Qn;have Qj:=yb Qo;have Qx:=yb Qp;clear Qf Qn Qo Qp;have Qe:R1.size=n:=Qb;have Qz:=yb Qw.out;have Qm:=yb (permIn_refl R1 mid b);have QA:=yb (FK2.out d R1 Qd.out Qj.out (by omega));go_wp2
      all_goals go_end0
      all_goals exact ⟨rfl,R1,Qe.trans hdn.symm,Qz.out,FD.out d R1 R1 Qc Qd.out Qk.out Qj.out Qx.out Qm.out QA.out⟩
    ·have QO:(m:Int)<=(s:Int):=by omega
     have QP:(e:Int)<=(m:Int):=by omega
     have QU:(mid:Int)<=(s:Int):=by omega
     have Zc:(a:Int)<(s:Int):=by omega
     have Zs:(e:Int)<(b:Int):=by omega
     have Y0:(e:Int)<=(mid:Int):=by omega
     have Qc:d.size=n:=hdn;have Ql:=yb Qh.out;have Qd:=yb (zdM d s m e (by omega) (by omega) (by omega));have Qk:=yb (permIn_refl d a b);have Qb:d.size=n:=Qc;have Qw:=yb Ql.out;have Qj:=yb (permIn_refl d a mid);have Qx:=yb (FK1.out d Qd.out (by omega));have Qe:d.size=n:=Qb;have Qz:=yb Qw.out;have Qm:=yb (permIn_refl d mid b);have QA:=yb (FK2.out d d Qd.out Qj.out (by omega));go_wp2
     all_goals
      all_goals go_end0
      all_goals exact ⟨rfl,d,Qe.trans hdn.symm,Qz.out,FD.out d d d Qc Qd.out Qk.out Qj.out Qx.out Qm.out QA.out⟩
theorem zgY {α:Type} [Inhabited α] (enc:α->Value) (hE:∀x,∃a n c,enc x=.slice a n c) (cf:α->α->Int) (lt:α->α->Bool) (hL:SWO lt) (D:α->Prop) (f:FuncId) (cb:Array Value) (g cap:Nat) (rest:List Value) (n:Nat) (w0:World)
  (hC:CmpQ Tryz.prog f cb enc cf D w0 g) (hsz:n<4611686018427387904):∀N,zg3 enc cf lt D f cb g cap rest n w0 N
 | 0=>fun a m b d w h1 h2 h3 h4 h5 h6=>by omega
 | N+1=>by
  have ih:=zgY enc hE cf lt hL D f cb g cap rest n w0 hC hsz N;intro a m b d w hN hdn hS hD ham hmb hb h1 h2 hA
  by_cases c1:m=a+1
  ·subst hdn
   exact sym_leftQ enc hE cf lt hL D f cb g cap a m b rest d w0 w hC hS hD c1 hmb hb hsz h2 hA
  by_cases c2:b=m+1
  ·subst hdn
   exact sym_rightQ enc hE cf lt hL D f cb g cap a m b rest d w0 w hC hS hD (by omega) c2 hb hsz h1 hA
  obtain ⟨mid,hmid⟩:∃mid,mid=(a+b) / 2:=⟨_,rfl⟩
  by_cases c3:mid<m
  ·exact sym_hiQ enc hE cf lt D f cb g cap rest n w0 hC hsz a m b mid (mid+m-b) mid d w hdn hS hD (by omega) (by omega) hb hA hmid c3 rfl rfl
    (sym_finQ enc hE cf lt hL D f cb g cap rest n w0 N hsz ih a m b mid (mid+m-b) mid d hN hdn hD hb h1 h2 hA (by omega) (by omega) (by omega) (by omega) (by omega) (by omega) (by omega) (by omega))
  ·exact sym_loQ enc hE cf lt D f cb g cap rest n w0 hC hsz a m b mid a m d w hdn hS hD (by omega) (by omega) hb hA hmid (by omega) rfl rfl
    (sym_finQ enc hE cf lt hL D f cb g cap rest n w0 N hsz ih a m b mid a m d hN hdn hD hb h1 h2 hA (by omega) (by omega) (by omega) (by omega) (by omega) (by omega) (by omega) (by omega))
variable {α : Type} [Inhabited α] {lt lt1 : α -> α -> Bool} {d R R' : Array α} {lo m hi s i : Nat}
structure Good (lt:α->α->Bool) (d:Array α) (lo hi:Nat) (R:Array α):Prop where
 srt:SortedIn lt lo (min hi d.size) R
 loc:∀k,lo<=k->k<hi->k<d.size->∃j,lo<=j/\j<hi/\j<d.size/\R[k]! = d[j]!
theorem Good.same (h:Good lt d lo hi R) (hR:∀k,lo<=k->k<hi->k<d.size->R'[k]! = R[k]!):Good lt d lo hi R' :=
 ⟨zcJ h.srt (fun k h1 h2=>hR k h1 (by omega) (by omega)),fun k h1 h2 h3=>by rw [hR k h1 h2 h3];exact h.loc k h1 h2 h3⟩
theorem Good.agree (hag:∀p q,p<q->q<d.size->lt1 d[q]! d[p]! = lt d[q]! d[p]!) (h1:Good lt d lo m R) (h2:Good lt d m hi R):zew lt1 lt R lo m (min hi d.size):=fun p q a b c e=>by
 obtain ⟨p',_,p2,p3,hp⟩:=h1.loc p a b (by omega);obtain ⟨q',q1,q2,q3,hq⟩:=h2.loc q c (by omega) (by omega);rw [hp,hq];exact hag _ _ (by omega) q3
theorem Good.join (h1:Good lt d lo m R) (h2:Good lt d m hi R) (hlm:lo<=m) (hmh:m<=hi) (hsz:R.size=d.size) (hP:PermIn lo (min hi d.size) R R') (hS:SortedIn lt lo (min hi d.size) R'):Good lt d lo hi R' :=
 ⟨hS,fun k a b c=>permIn_all R R' lo (min hi d.size) (fun x=>∃j,lo<=j/\j<hi/\j<d.size/\x=d[j]!) (by omega) hP (fun i i1 i2=>by
  by_cases h:i<m
  ·obtain ⟨j,a1,a2,a3,a4⟩:=h1.loc i i1 h (by omega);exact ⟨j,a1,by omega,a3,a4⟩
  ·obtain ⟨j,a1,a2,a3,a4⟩:=h2.loc i (by omega) (by omega) (by omega);exact ⟨j,by omega,a2,a3,a4⟩) k a (by omega)⟩
theorem Good.wide (h:Good lt d lo m R) (hm:d.size<=m) (hmh:m<=hi):Good lt d lo hi R :=
 ⟨by have:=h.srt;rwa [show min m d.size=min hi d.size from by omega] at this,fun k a b c=>by obtain ⟨j,a1,a2,a3,a4⟩:=h.loc k a (by omega) c;exact ⟨j,a1,by omega,a3,a4⟩⟩
theorem Good.void (h:d.size<=lo):Good lt d lo hi R:=⟨fun p q h1 h2 h3=>by omega,fun k h1 h2 h3=>by omega⟩
structure zdl (lt:α->α->Bool) (d:Array α) (s i:Nat) (R:Array α):Prop where
 sz:R.size=d.size
 perm:PermIn 0 d.size d R
 old:∀k,s*i<=k->R[k]! = d[k]!
 good:∀j,j<i->Good lt d (s*j) (s*(j+1)) R
theorem zdl.start:zdl lt d s 0 d:=⟨rfl,permIn_refl _ _ _,fun _ _=>rfl,fun _ h=>by omega⟩
theorem zdl.step (h:zdl lt d s i R) (hle:s*i<=d.size) (hP:PermIn (s*i) (min (s*i+s) d.size) R R') (hS:SortedIn lt (s*i) (min (s*i+s) d.size) R'):zdl lt d s (i+1) R':=by
 have hm:s*(i+1)=s*i+s:=Nat.mul_succ s i;refine ⟨hP.1.trans h.sz,permIn_trans _ _ _ _ _ h.perm (permIn_mono R R' _ _ 0 d.size (by omega) (by omega) (by rw [h.sz];omega) hP),fun k hk=>?_,fun j hj=>?_⟩
 ·rw [hP.2.1 k (by omega)];exact h.old k (by omega)
 ·by_cases hji:j<i
  ·have h2:=Nat.mul_le_mul_left s (show j+1<=i by omega)
   exact (h.good j hji).same fun k h3 h4 h5=>hP.2.1 k (by omega)
  ·obtain rfl:j=i:=by omega
   rw [hm];exact ⟨hS,fun k a b c=>permIn_all R R' _ _ (fun x=>∃q,s*j<=q/\q<s*j+s/\q<d.size/\x=d[q]!) (by rw [h.sz];omega) hP (fun q h1 h2=>⟨q,h1,by omega,by omega,h.old q h1⟩) k a (by omega)⟩
theorem zdl.all (h:zdl lt d s i R) (hn:d.size<=s*i) (j:Nat):Good lt d (s*j) (s*(j+1)) R:=by
 by_cases hj:j<i
 ·exact h.good j hj
 ·have h2:=Nat.mul_le_mul_left s (show i<=j by omega)
  exact Good.void (by omega)
structure zb9 (lt:α->α->Bool) (d:Array α) (s i:Nat) (R:Array α):Prop where
 sz:R.size=d.size
 perm:PermIn 0 d.size d R
 lo:∀j,j<i->Good lt d (2*s*j) (2*s*(j+1)) R
 hi:∀j,2*i<=j->Good lt d (s*j) (s*(j+1)) R
theorem dbl0 (s i:Nat):s*(2*i)=2*s*i:=by rw [<-Nat.mul_assoc,Nat.mul_comm s 2]
theorem dbl1 (s i:Nat):s*(2*i+1)=2*s*i+s:=by rw [Nat.mul_succ,dbl0]
theorem dbl2 (s i:Nat):s*(2*i+1+1)=2*s*i+2*s:=by rw [Nat.mul_succ,dbl1];omega
theorem zb9.start (h1:R.size=d.size) (h2:PermIn 0 d.size d R) (h3:∀j,Good lt d (s*j) (s*(j+1)) R):zb9 lt d s 0 R:=⟨h1,h2,fun _ h=>by omega,fun j _=>h3 j⟩
theorem zb9.left (h:zb9 lt d s i R):Good lt d (2*s*i) (2*s*i+s) R:=by
 have:=h.hi (2*i) (yp _);rwa [dbl0,dbl1] at this
theorem zb9.right (h:zb9 lt d s i R):Good lt d (2*s*i+s) (2*s*i+2*s) R:=by
 have:=h.hi (2*i+1) (by omega);rwa [dbl1,dbl2] at this
theorem zb9.step (h:zb9 lt d s i R) (hle:2*s*i+s<=d.size) (hP:PermIn (2*s*i) (min (2*s*i+2*s) d.size) R R') (hS:SortedIn lt (2*s*i) (min (2*s*i+2*s) d.size) R'):zb9 lt d s (i+1) R':=by
 have hm:2*s*(i+1)=2*s*i+2*s:=Nat.mul_succ (2*s) i;refine ⟨hP.1.trans h.sz,permIn_trans _ _ _ _ _ h.perm (permIn_mono R R' _ _ 0 d.size (by omega) (by omega) (by rw [h.sz];omega) hP),fun j hj=>?_,fun j hj=>?_⟩
 ·by_cases hji:j<i
  ·have h2:=Nat.mul_le_mul_left (2*s) (show j+1<=i by omega)
   exact (h.lo j hji).same fun k h3 h4 h5=>hP.2.1 k (by omega)
  ·obtain rfl:j=i:=by omega
   rw [hm];exact h.left.join h.right (by omega) (by omega) h.sz hP hS
 ·have h2:=Nat.mul_le_mul_left s (show 2*i+1+1<=j by omega)
  rw [dbl2] at h2;exact (h.hi j (by omega)).same fun k h3 h4 h5=>hP.2.1 k (by omega)
theorem zb9.done (h:zb9 lt d s i R) (hn:d.size<=2*s*i+s) (j:Nat):Good lt d (2*s*j) (2*s*(j+1)) R:=by
 by_cases hj:j<i
 ·exact h.lo j hj
 ·by_cases hji:j=i
  ·subst hji
   rw [Nat.mul_succ (2*s) j];exact h.left.wide hn (by omega)
  ·have h2:=Nat.mul_le_mul_left (2*s) (show i+1<=j by omega)
   rw [Nat.mul_succ] at h2;exact Good.void (by omega)
theorem good_end (h:∀j,Good lt d (s*j) (s*(j+1)) R) (hs:d.size<=s):SortedIn lt 0 d.size R:=by
 have:=(h 0).srt
 rwa [Nat.mul_zero,Nat.zero_add,Nat.mul_one,show min s d.size=d.size from by omega] at this
theorem mrg_facts {A b:Nat} (h:zb9 lt d s i R) (hA:A=2*s*i) (hag:∀p q,p<q->q<d.size->lt1 d[q]! d[p]! = lt d[q]! d[p]!) (hb:b=min (A+2*s) d.size) (hm:A+s<b) :
  SortedIn lt A (A+s) R/\SortedIn lt (A+s) b R/\zew lt1 lt R A (A+s) b:=by
 have hl:=h.left;have hr:=h.right;rw [<-hA] at hl hr;have h1:=hl.srt;have h2:=hr.srt;have h3:=hl.agree hag hr;rw [show min (A+s) d.size=A+s from by omega] at h1;rw [<-hb] at h2 h3;exact ⟨h1,h2,h3⟩
theorem mrg_step {A b:Nat} (h:zb9 lt d s i R) (hA:A=2*s*i) (hb:b=min (A+2*s) d.size) (hm:A+s<b) (hP:PermIn A b R R') (hS:SortedIn lt A b R'):zb9 lt d s (i+1) R':=by
 subst hA hb;exact h.step (by omega) hP hS
theorem ins_step {A b:Nat} (h:zdl lt d s i R) (hA:A=s*i) (hb:b=min (A+s) d.size) (hm:A<=b) (hP:PermIn A b R R') (hS:SortedIn lt A b R'):zdl lt d s (i+1) R':=by
 subst hA hb;exact h.step (by omega) hP hS
theorem ins_agree {A b:Nat} (h:zdl lt d s i R) (hA:A=s*i) (hag:∀p q,p<q->q<d.size->lt1 d[q]! d[p]! = lt d[q]! d[p]!) (hb:b<=d.size) (p q:Nat) (h1:A<=p) (h2:p<q) (h3:q<b):lt1 R[q]! R[p]! = lt R[q]! R[p]! := by
 rw [h.old p (by omega),h.old q (by omega)];exact hag p q h2 (by omega)
theorem ins_anyQ {α:Type} [Inhabited α] (enc:α->Value) (hE:∀x,∃a n c,enc x=.slice a n c) (cf:α->α->Int) (D:α->Prop) (f:FuncId) (cb:Array Value) (g cap a b:Nat) (rest:List Value) (d:Array α) (w0 w:World)
  (hC:CmpQ Tryz.prog f cb enc cf D w0 g) (hS:SB enc w0 g 23 rest d w) (hD:∀i,i<d.size->D d[i]!) (hab:a<=b) (hb:b<=d.size) (hsz:d.size<4611686018427387904) :
  Calls Tryz.prog 202 #[.slice (some ⟨g,0,none⟩) d.size cap,.int .i64 a,.int .i64 b,.func (.func f) #[] cb] w fun e w'=>e=.returned (.tuple #[])/\SB enc w0 g 23 rest (Sort.insertionSort (ltOf cf) d a b) w':=by
 have eg:=hC.enters;have HC:=yb hC;have HS:=yb hS;have HD:=yb hD;clear hC hS hD;go_enter Tryz.func202,Tryz.ntmps202
 go_wp2
 go_loopw [8] (fun vi wr=>∃(i:Nat) (dk:Array α),vi=.int .i64 i/\a<i/\i<=b+1/\dk.size=d.size/\Hid (SB enc w0 g 23 rest dk wr)/\Hid (∀i,i<dk.size->D dk[i]!) /\
   Hid (insOuter (ltOf cf) a b i dk=insOuter (ltOf cf) a b (a+1) d)) (fun vi _=>b+1-(intOf vi).toNat)
 case atStart=>exact ⟨a+1,d,by go_num,by omega,by omega,rfl,HS,HD,rfl⟩
 case round =>
  obtain ⟨i,dk,rfl,Zq,Xy,QM,Qh,Yq,HO⟩:=hrel;clear HS
  by_cases hlt:i<b
  ·go_wp2
   go_loopw [9] (fun vj wr2=>∃(j:Nat) (dj:Array α),vj=.int .i64 j/\a<=j/\j<=i/\dj.size=d.size/\Hid (SB enc w0 g 23 rest dj wr2)/\Hid (∀i,i<dj.size->D dj[i]!) /\
     Hid (insInner (ltOf cf) a j dj=insInner (ltOf cf) a i dk)) (fun vj _=>(intOf vj).toNat)
   case atStart=>exact ⟨i,dk,rfl,by omega,yp _,QM,Qh,Yq,rfl⟩
   case round =>
    obtain ⟨j,dj,rfl,Xz,hji,Z8,Q5,Zd,HI⟩:=hrel;clear Qh Yq
    by_cases hja:a<j
    ·have QB:=Q5.out.cell j (by omega)
     have QC:=Q5.out.cell (j-1) (by omega);have ZL:=Q5.out.free j;have ZV:=Q5.out.free (j-1);have Qa:=fun q=>HC.out.calls (wr.drewN q) (Q5.out.drewN q).grown dj[j]! dj[j-1]! (Zd.out j (by omega)) (Zd.out (j-1) (by omega));obtain ⟨X,hX⟩:∃X,X=dj[j]! := ⟨_,rfl⟩;obtain ⟨Y,hY⟩:∃Y,Y=dj[j-1]! := ⟨_,rfl⟩;rw [<-hX] at QB Qa;rw [<-hY] at QC Qa;have HX:=yb hX;have HY:=yb hY;obtain ⟨x,xn,xc,hx⟩:=hE X;obtain ⟨y,yn,yc,hy⟩:=hE Y;rw [hx] at QB Qa;rw [hy] at QC Qa;have Qi:=yb Qa;have Q9:=yb hx;have Za:=yb hy;clear Qa hx hy hX hY;have ZW:(0:Int)<=(j:Int)-1:=by omega
     have Yp:((j:Int)-1).toNat=j-1:=by omega
     have XA:j<d.size:=by omega
     have Y1:(j:Int)<(d.size:Int):=by omega
     have out:ltOf cf X Y=false->∀q,∃i' dk',Value.int .i64 ((i:Int)+1)=.int .i64 (i':Nat)/\a<i'/\i'<=b+1/\dk'.size=d.size/\Hid (SB enc w0 g 23 rest dk' (wr.drewN q))/\Hid (∀i,i<dk'.size->D dk'[i]!)/\Hid (insOuter (ltOf cf) a b i' dk'=insOuter (ltOf cf) a b (a+1) d) :=
      fun hl q=>⟨i+1,dj,by go_num,by omega,by omega,Z8,Q5.out.drewN q,Zd,by rw [<-HO.out,zfB _ _ _ _ _ hlt,<-HI.out,zgV _ _ _ _ (.inr (by rw [<-HX.out,<-HY.out];exact hl))];exact yb rfl⟩
     have OUT:=yb out;clear out
     by_cases hcf:cf X Y<0
     ·have hl:ltOf cf X Y=true:=by simpa [ltOf] using hcf
      have HL:=yb hl;clear hl;go_wp2_with fail
      go_quiet ((refine Calls.quiet_of (Qi.out _)))
      go_wp2
      go_region
      all_goals go_wp2
      go_roundw
      case rel =>
       refine ⟨j-1,swp dj j (j-1),by congr 1;omega,by omega,by omega,by rw [size_swp];exact Z8,?_,?_,?_⟩
       ·have hw:=Q5.out.swp j (j-1) (by omega) (by omega) (nq+1)
        rw [<-HX.out,<-HY.out,Q9.out,Za.out] at hw;exact yb hw
       ·exact yb (fun q hq=>by
         rw [size_swp] at hq
         by_cases h1:q=j
         ·subst h1;rw [swp_left _ _ _ hq (by omega)];exact Zd.out _ (by omega)
         ·by_cases h2:q=j-1
          ·subst h2;rw [swp_right _ _ _ hq];exact Zd.out _ (by omega)
          ·rw [swp_other _ _ _ _ h1 h2];exact Zd.out _ hq)
       ·exact yb (by rw [<-HI.out,inner_go (ltOf cf) a j dj hja (by rw [<-HX.out,<-HY.out];exact HL.out)])
      case measure=>simp [intOf];omega
     ·have hl:ltOf cf X Y=false:=by simpa [ltOf] using hcf
      have HL:=yb hl;clear hl;go_wp2_with fail
      go_quiet ((refine Calls.quiet_of (Qi.out _)))
      go_wp2
      go_roundw
      case rel=>exact OUT.out HL.out nq
      case measure=>simp [intOf];omega
    ·have out:∀q,∃i' dk',Value.int .i64 ((i:Int)+1)=.int .i64 (i':Nat)/\a<i'/\i'<=b+1/\dk'.size=d.size/\Hid (SB enc w0 g 23 rest dk' (wr.drewN q))/\Hid (∀i,i<dk'.size->D dk'[i]!)/\Hid (insOuter (ltOf cf) a b i' dk'=insOuter (ltOf cf) a b (a+1) d) :=
      fun q=>⟨i+1,dj,by go_num,by omega,by omega,Z8,Q5.out.drewN q,Zd,by rw [<-HO.out,zfB _ _ _ _ _ hlt,<-HI.out,zgV _ _ _ _ (.inl (by omega))];exact yb rfl⟩
     have OUT:=yb out;clear out;have Y2:decide ((a:Int)<(j:Int))=false:=by simp;omega
     go_wp2
     go_quiet (fail)
     go_wp2
     go_roundw
     case rel=>exact OUT.out nq
     case measure=>simp [intOf];omega
  ·go_wp2
   go_end0
   refine ⟨rfl,?_⟩
   have e:Sort.insertionSort (ltOf cf) d a b=dk:=by
    unfold Sort.insertionSort;rw [<-HO.out,zda _ _ _ _ _ hlt]
   rw [e];exact Qh.out
theorem stable_coreQ {α:Type} [Inhabited α] (enc:α->Value) (hE:∀x,∃a n c,enc x=.slice a n c) (cf:α->α->Int) (lt2:α->α->Bool) (hO:SWO lt2) (D:α->Prop) (f:FuncId) (cb:Array Value) (g cap n:Nat) (rest:List Value) (d:Array α) (w0 w:World)
  (hC:CmpQ Tryz.prog f cb enc cf D w0 g) (hS:SB enc w0 g 23 rest d w) (hD:∀i,i<d.size->D d[i]!) (hag:∀p q,p<q->q<d.size->ltOf cf d[q]! d[p]! = lt2 d[q]! d[p]!) (hdn:d.size=n) (hsz:n<1152921504606846976) :
  Calls Tryz.prog 191 #[.slice (some ⟨g,0,none⟩) n cap,.int .i64 n,.func (.func f) #[] cb] w fun e w'=>e=.returned (.tuple #[])/\∃R,SB enc w0 g 23 rest R w'/\PermIn 0 d.size d R/\SortedIn lt2 0 d.size R:=by
 have eg:=hC.enters
 have insert:∀(A B:Nat) (R:Array α) (wr:World),R.size=n->SB enc w0 g 23 rest R wr->PermIn 0 d.size d R->A<=B->B<=n ->
   Calls Tryz.prog 202 #[.slice (some ⟨g,0,none⟩) n cap,.int .i64 A,.int .i64 B,.func (.func f) #[] cb] wr fun e w'=>e=.returned (.tuple #[])/\SB enc w0 g 23 rest (Sort.insertionSort (ltOf cf) R A B) w':=by
  intro A B R wr h1 h2 h3 h4 h5;have:=ins_anyQ enc hE cf D f cb g cap A B rest R w0 wr hC h2 (zd9 D (yp _) h3 hD) h4 (by omega) (by omega)
  rwa [h1] at this
 have merge:∀(A s m b i:Nat) (R:Array α) (wr:World),SB enc w0 g 23 rest R wr->zb9 lt2 d s i R->A=2*s*i->m=A+s->0<s->b=min (A+2*s) n->m<b ->
   Calls Tryz.prog 203 #[.slice (some ⟨g,0,none⟩) n cap,.int .i64 A,.int .i64 ((A:Int)+(s:Int)),.int .i64 b,.func (.func f) #[] cb] wr fun e w'=>e=.returned (.tuple #[])/\∃R',SB enc w0 g 23 rest R' w'/\zb9 lt2 d s (i+1) R':=by
  intro A s m b i R wr h1 h2 h3 h4 h5 h6 h7;obtain ⟨q1,q2,q3⟩:=mrg_facts (b:=b) h2 h3 hag (by rw [hdn];exact h6) (by omega);rw [<-h4] at q1 q2 q3;have hc:=zgY enc hE cf lt2 hO D f cb g cap rest n w0 hC (by omega) (b-A) A m b R wr (yp _) (h2.sz.trans hdn) h1 (zd9 D (yp _) h2.perm hD) (by omega) h7 (by omega) q1 q2 q3;rw [show (m:Int)=(A:Int)+(s:Int) from by omega] at hc;exact hc.mono fun e w' ⟨e1,R',_,e3,e4,e5⟩=>⟨e1,R',e3,mrg_step h2 h3 (by rw [hdn];exact h6) (by omega) e4 e5⟩
 have Zt:=yb insert;have Zu:=yb merge;have QN:=yb hag;have HO:=yb hO;have HS:=yb hS;have QY:=yb hdn;clear insert merge hag hO hS hC hD hdn;go_enter Tryz.func191,Tryz.ntmps191
 go_wp2
 go_loopw [7,8] (fun va vb wr=>∃(i A B:Nat) (R:Array α),va=.int .i64 A/\vb=.int .i64 B/\A<=n/\A+20<=B/\B<=A+20/\Hid (A=20*i)/\Hid (SB enc w0 g 23 rest R wr)/\Hid (zdl lt2 d 20 i R)) (fun va _ _=>n-(intOf va).toNat)
 case atStart=>exact ⟨0,0,20,d,rfl,rfl,Nat.zero_le _,by omega,by omega,yb rfl,HS,yb zdl.start⟩
 case round =>
  obtain ⟨i,A,B,R,rfl,rfl,ZO,hB1,Y3,HA,HR,HI⟩:=hrel;clear HS;have Yr:R.size=n:=HI.out.sz.trans QY.out;have Zv:=yb Yr;clear Yr
  by_cases hlt:B<=n
  ·have QV:=Zt.out A B R wr Zv.out HR.out HI.out.perm (by omega) hlt
   have Zl:=zg2 (ltOf cf) lt2 HO.out A B R (by omega) (by rw [Zv.out];exact hlt) (ins_agree HI.out HA.out QN.out (by rw [QY.out];exact hlt));have ZP:=yb QV;have Ys:=yb Zl;clear QV Zl;go_wp2_with (go_at_call 202;refine ZP.out.mono ?_;rintro e w2 ⟨rfl,Zw⟩;have QG:=yb Zw;clear Zw)
   go_roundw
   case rel=>exact ⟨i+1,B,B+20,_,rfl,by go_num,hlt,by omega,by omega,yb (by have:=HA.out;omega),QG,yb (ins_step HI.out HA.out (by rw [QY.out];omega) (by omega) Ys.out.1 Ys.out.2)⟩
   case measure=>simp [intOf];omega
  ·have QV:=Zt.out A n R wr Zv.out HR.out HI.out.perm ZO (yp _)
   have Zl:=zg2 (ltOf cf) lt2 HO.out A n R ZO (by rw [Zv.out];exact yp _) (ins_agree HI.out HA.out QN.out (by rw [QY.out];exact yp _));have Zx:=fun (R':Array α) (h1:PermIn A n R R') (h2:SortedIn lt2 A n R')=>ins_step HI.out HA.out (by rw [QY.out];omega) ZO h1 h2;have Yt:d.size<=20*(i+1):=by have:=HA.out;have:=QY.out;omega
   have QZ:=yb (Zx _ Zl.1 Zl.2);have ZP:=yb QV;have Yu:=yb Yt;clear QV Zl Zx Yt;go_wp2_with (go_at_call 202;refine ZP.out.mono ?_;rintro e w2 ⟨rfl,Zw⟩;have QG:=yb Zw;clear Zw)
   go_loopw [6] (fun vs wr=>∃(s:Nat) (R:Array α),vs=.int .i64 s/\20<=s/\s<=2305843009213693952/\Hid (SB enc w0 g 23 rest R wr)/\Hid (R.size=d.size)/\Hid (PermIn 0 d.size d R)/\Hid (∀j,Good lt2 d (s*j) (s*(j+1)) R)) (fun vs _=>n-(intOf vs).toNat)
   case atStart=>exact ⟨20,_,rfl,by omega,by omega,QG,yb QZ.out.sz,yb QZ.out.perm,yb (QZ.out.all Yu.out)⟩
   case round =>
    obtain ⟨s,R2,rfl,Y4,XB,QJ,Yv,Qm,Z9⟩:=hrel;clear QG QZ ZP Yu HR HI HA ZO hB1 Y3 hlt Zv
    by_cases hsn:s<n
    ·go_wp2
     go_loopw [7,8] (fun va vb wr=>∃(i A B:Nat) (R:Array α),va=.int .i64 A/\vb=.int .i64 B/\A<=n/\A+2*s<=B/\B<=A+2*s/\Hid (A=2*s*i)/\Hid (SB enc w0 g 23 rest R wr)/\Hid (zb9 lt2 d s i R)) (fun va _ _=>n-(intOf va).toNat)
     case atStart=>exact ⟨0,0,2*s,R2,rfl,by go_num,Nat.zero_le _,by omega,by omega,yb (by simp),QJ,yb (zb9.start Yv.out Qm.out Z9.out)⟩
     case round =>
      obtain ⟨j,A2,B2,R3,rfl,rfl,Y5,XC,XD,Zy,Q6,HM⟩:=hrel;clear QJ Yv Qm Z9
      by_cases hlt2:B2<=n
      ·have Ya:=yb (Zu.out A2 s (A2+s) B2 j R3 _ Q6.out HM.out Zy.out rfl (by omega) (by omega) (by omega))
       go_wp2_with (go_at_call 203;refine Ya.out.mono ?_;rintro e w3 ⟨rfl,R4,Q0,Zz⟩;have Ze:=yb Q0;have ZA:=yb Zz;clear Q0 Zz)
       go_roundw
       case rel=>exact ⟨j+1,B2,B2+2*s,R4,rfl,by go_num,hlt2,by omega,by omega,yb (by rw [Nat.mul_succ,<-Zy.out];omega),Ze,ZA⟩
       case measure=>simp [intOf];omega
      ·by_cases hm:A2+s<n
       ·have Y6:(A2:Int)+(s:Int)<(n:Int):=by omega
        have Ya:=yb (Zu.out A2 s (A2+s) n j R3 _ Q6.out HM.out Zy.out rfl (by omega) (by omega) hm);go_wp2_with (go_at_call 203;refine Ya.out.mono ?_;rintro e w3 ⟨rfl,R4,Q0,Zz⟩;have Ze:=yb Q0;have ZA:=yb Zz;clear Q0 Zz)
        go_roundw
        case rel=>exact ⟨2*s,R4,by go_num,by omega,by omega,Ze,yb ZA.out.sz,yb ZA.out.perm,yb (ZA.out.done (by rw [Nat.mul_succ,<-Zy.out,QY.out];omega))⟩
        case measure=>simp [intOf];omega
       ·have Y6:(n:Int)<=(A2:Int)+(s:Int):=by omega
        go_wp2
        go_roundw
        case rel=>exact ⟨2*s,R3,by go_num,by omega,by omega,Q6,yb HM.out.sz,yb HM.out.perm,yb (HM.out.done (by rw [<-Zy.out,QY.out];omega))⟩
        case measure=>simp [intOf];omega
    ·go_wp2
     go_end0
     exact ⟨rfl,R2,QJ.out,Qm.out,good_end Z9.out (by rw [QY.out];omega)⟩
theorem stable_anyQ {α:Type} [Inhabited α] (enc:α->Value) (hE:∀x,∃a n c,enc x=.slice a n c) (cf:α->α->Int) (lt2:α->α->Bool) (hO:SWO lt2) (D:α->Prop) (f:FuncId) (cb:Array Value) (g cap:Nat) (rest:List Value) (d:Array α) (w0 w:World)
  (hC:CmpQ Tryz.prog f cb enc cf D w0 g) (hS:SB enc w0 g 23 rest d w) (hD:∀i,i<d.size->D d[i]!) (hag:∀p q,p<q->q<d.size->ltOf cf d[q]! d[p]! = lt2 d[q]! d[p]!) (hsz:d.size<1152921504606846976) :
  Calls Tryz.prog 170 #[.slice (some ⟨g,0,none⟩) d.size cap,.func (.func f) #[] cb] w fun e w'=>e=.returned (.tuple #[])/\∃R,SB enc w0 g 23 rest R w'/\PermIn 0 d.size d R/\SortedIn lt2 0 d.size R:=by
 obtain ⟨n,hn⟩:∃n,n=d.size:=⟨_,rfl⟩;have QW:=stable_coreQ enc hE cf lt2 hO D f cb g cap n rest d w0 w hC hS hD hag hn.symm (by omega);rw [<-hn] at hsz |-;rw [<-hn] at QW;have HC:=yb QW;clear QW hC hS hD hag hn;go_enter Tryz.func170,Tryz.ntmps170
 go_wp2_with (go_at_call 191;refine HC.out.mono ?_;rintro e w2 ⟨rfl,R,h1,h2,h3⟩)
 go_end0
 exact ⟨rfl,R,h1,h2,h3⟩
theorem stable_nilQ (fv:Value) (w:World):Calls Tryz.prog 170 #[.slice none 0 0,fv] w fun e w'=>e=.returned (.tuple #[])/\w=w':=by
 go_enter Tryz.func170,Tryz.ntmps170
 go_wp2;refine wp_loop_once ?_;go_wp2;refine wp_loop_once ?_;go_wp2;go_end0
 go_wp2;refine wp_loop_once ?_;go_wp2;go_end0
 go_wp2;go_end0
 exact ⟨rfl,rfl⟩
theorem cmpS_lt {p:List (PV×PV)} {i j:Nat} (h:i<j):ltOf (fun i j=>cmpS p[i]!.1.s p[j]!.1.s) j i=ltI p j i:=by
 have hc:∀x y:List UInt8,decide (cmpS x y<0)=sLt x y:=fun x y=>by
  unfold cmpS
  cases h1:sLt x y
  ·cases h2:sLt y x<;>simp
  ·simp
 show decide (cmpS p[j]!.1.s p[i]!.1.s<0)=ltI p j i;rw [hc];unfold ltI;have:decide (j<i)=false:=ye (by omega);rw [this,Bool.and_false,Bool.or_false]
def Names (w:World) (b off m:Nat) (p:List (PV×PV)):Prop:=∀k,k<m->w.cell? ⟨b,off+2*k*4+2,none⟩=some (.string (mkB p[k]!.1.s))
theorem Names.of {w:World} {F:Nat->Prop} {b off cap m:Nat} {l:List PV} {cs:List Value} (hr:Row w 4 (some ⟨b,off,none⟩) (2*m) cap cs) (h:IsVs w F l cs) (hm:l.length=2*m):Names w b off m (twoV l):=by
 intro k hk;obtain ⟨x,y,h1,h2,h3⟩:=twoV_at m l hm k hk;obtain ⟨sl,-,-,-,h4,-⟩:=h.get (2*k) x h1;obtain ⟨b',off',e,hb,hc⟩:=hr.2.2.2.2 (by omega)
 cases e
 rw [h3,Nat.add_assoc];exact hc _ _ h4
theorem sort_parts {W:World} {B b off m:Nat} {v:Value} {p:List (PV×PV)} (hp:p.length=m) (hO:W.ownsRow B 23 1 v m ((List.range m).map (zcA b off))) (hn:Names W b off m p) (hb:b<B) (hm:m<=200000) :
  Calls Tryz.prog 170 #[v,.func (.func 171) #[] #[]] W fun e w'=>e=.returned (.tuple #[]) /\
   ∃R:Array Nat,R.size=m/\(∀i,i<m->R[i]!<m)/\R.toList.map (fun i=>p[i]!)=zen p/\w'.ownsRow B 23 1 v m (R.toList.map (zcA b off))/\W.grownBy w' v.ownBlock:=by
 rcases hO.2 with ⟨rfl,h0⟩|⟨g,cap,cur,rfl,Y7,hg,Y8,ZQ,Y9,Xa⟩
 ·subst h0
  have:p=[]:=List.eq_nil_of_length_eq_zero hp;subst this;exact (stable_nilQ _ W).mono fun e w' ⟨h1,h2⟩=>⟨h1,#[],rfl,fun i hi=>by omega,rfl,by rw [<-h2];exact hO,by rw [<-h2];exact ze8 W _⟩
 ·have hS:SB (zcA b off) W g 23 (cur.toList.drop m) (Array.range m) W:=by
   refine SB.start hg ?_;rw [<-Nat.mul_one m,Xa];simp
  have hC:CmpQ Tryz.prog 171 #[] (zcA b off) (fun i j=>cmpS p[i]!.1.s p[j]!.1.s) (fun i=>i<m) W g:=by
   refine ⟨enters_of Tryz.func171 (by kernel_rfl) rfl,fun W' Xb x y hx hy=>?_⟩
   have hk:∀k,k<m->W'.cell? ⟨b,off+2*k*4+2,none⟩=some (.string (mkB p[k]!.1.s)):=fun k hk=>by
    have hc:=hn k hk;rw [World.cell?_of_block (w:=W) (a:=⟨b,off+2*k*4+2,none⟩) (Xb.block b (World.block_lt_of_cell? W _ hc) (fun e=>by cases e;omega))];exact hc
   exact cmpPair_any (hk x hx) (hk y hy) (by omega) (by omega)
  have hc:=stable_anyQ (zcA b off) (fun x=>⟨_,_,_,rfl⟩) (fun i j=>cmpS p[i]!.1.s p[j]!.1.s) (ltI p) (zhN p) (fun i=>i<m) 171 #[] g cap (cur.toList.drop m) (Array.range m) W W hC hS
   (fun i hi=>by simp at hi;rw [getElem!_pos _ i (by simpa using hi)];simpa using hi)
   (fun i j ZY hj=>by
    simp at hj;rw [getElem!_pos _ j (by simpa using hj),getElem!_pos _ i (by simp;omega)];simp only [Array.getElem_range];exact cmpS_lt ZY) (by simp;omega)
  rw [show (Array.range m).size=m by simp] at hc;refine hc.mono fun e w' ⟨he,R,h1,h2,h3⟩=>⟨he,R,(zdX h2).1,(zdX h2).2,?_,?_,h1.grown⟩
  ·subst hp
   exact sorted_is p R h2 h3
  ·have hz:=(zdX h2).1
   refine ⟨by simp [hz],.inr ⟨g,cap,_,rfl,Y7,h1.blk,Y8,ZQ,?_,?_⟩⟩
   ·have:cur.toList.length=cap*1:=by rw [<-Y9];simp
    simp at this |-;omega
   ·show List.take (m*1) _=_
    have:(R.toList.map (zcA b off)).length=m:=by simp [hz]
    simp only [List.take_append,this];simp only [Nat.mul_one,Nat.sub_self,List.take_zero,List.append_nil];exact List.take_of_length_le (by omega)
end Go.Proofs.YtcmoehknppjkiaaGreatDoor
namespace Go.Proofs.YtcmoehknppjkiaaGreatDoor
open Go.RowKit Go.Shelf Go.Sort
attribute [local go_sem] Oper.semAt_some
theorem EPart:(Tryz.prog.info? 23).map (fun i=>(i.zero,i.size,i.bytes))=some (some (.slice none 0 0),1,24):=by kernel_rfl
def PairsEnd (w:World) (F:Nat->Prop) (R:Option (List PV)) (e:Ending) (w':World):Prop :=
 Below w.heap.size w w'/\match R with
  | none=>e=.returned (.tuple #[.slice none 0 0,.int .i64 16])
  | some m=>∃v cs',e=.returned (.tuple #[v,.int .i64 0])/\w'.ownsRow w.heap.size 25 4 v m.length cs'/\IsVs w' F m cs'
theorem put_part {W w1:World} {base B Bs Bn:Nat} {v v':Value} {k:Nat} {xs:List Value} {tmp:Obj} (hrow:W.ownsRow base 23 1 v k xs) (hgrow:(W.alloc tmp).grownBy w1 v.ownBlock)
  (h1:Bs<base) (h2:Bn<base) (h3:Bs≠B) (h4:Bn≠B) (hb:base<=W.heap.size):zaU (fun c=>c=Bs\/c=Bn) W (w1.setCell ⟨B,0,none⟩ v'):=by
 have hs:=hgrow.size;rw [zaq] at hs
 have key:∀c,c<base->c≠B->(w1.setCell ⟨B,0,none⟩ v').heap[c]?=W.heap[c]?:=fun c hc hcB=>by
  rw [heap_setCell_other _ _ _ _ hcB,hgrow.block c (by rw [zaq];omega) (fun e=>by have:=(hrow.lt c e.symm).1;omega)];exact Below.heap_alloc W tmp c (by omega)
 refine ⟨by simp [World.setCell];omega,fun c _ hc=>?_⟩;rcases hc with rfl|rfl
 ·exact key _ h1 h3
 ·exact key _ h2 h4
theorem eq_mkB' (a b:List UInt8):((mkB a).toList==(mkB b).toList)=decide (a=b):=by
 rw [zaj,zaj];by_cases h:a=b<;>simp [h]
set_option maxRecDepth 100000 in
theorem pairs_any {w:World} {F:Nat->Prop} {l:List PV} {a:Option Addr} {cap:Nat} {cs:List Value} {m:Nat} (hr:Row w 4 a (2*m) cap cs) (h:IsVs w F l cs) (hm:2*m=l.length) (hl:m<=200000) :
  Calls Tryz.prog 140 #[.slice a (2*m) cap] w (PairsEnd w F (zex l)):=by
 have Yb:Fence.wide.round=none:=rfl;obtain ⟨i0,hi,Yw,Yx,Yy⟩:=info_parts EPart;have ZB:=hr.2.1;have ZQ:=hr.2.2.1
 obtain ⟨b,off,hab,Xc⟩:∃b off,(0<m->a=some ⟨b,off,none⟩)/\b<w.heap.size+1:=by
  rcases Nat.eq_zero_or_pos m with h0|h0
  ·exact ⟨0,0,fun h=>by omega,by omega⟩
  ·obtain ⟨b,off,e,hb,_⟩:=hr.2.2.2.2 (by omega)
   exact ⟨b,off,fun _=>e,by omega⟩
 have HR:=yb hr;have H:=yb h;have HM:=yb hm;have ZR:=yb hab;clear hr h hm hab;refine (callsIn_wide (n:=5)).1 ?_;refine callsIn_of_wp_marks Tryz.func140 rfl trivial ?_ Yb;simp only [Tryz.ntmps140,List.size_toArray,List.length_cons,List.length_nil,Nat.reduceAdd,Nat.reduceSub,Array.replicate_succ,Array.replicate_zero,List.push_toArray,List.append_toArray,List.nil_append,List.cons_append]
 gi_wp2_with (refine ⟨trivial,?_⟩;gi_at_call 169;refine (chunk_in trivial _ _ _ _ _).mono ?_;rintro e w' ⟨rfl,rfl⟩)
 have bO:=Boxed.new w 222 (.slice none 0 0);have bS:=Boxed.new (w.alloc (.cells #[.slice none 0 0] 222)) 23 (.slice a (2*m) cap);have bN:=Boxed.new ((w.alloc (.cells #[.slice none 0 0] 222)).alloc (.cells #[.slice a (2*m) cap] 23)) 3 (.int .i64 2);simp only [World.size_alloc] at bS bN;have Yc:=zfL w (.cells #[.slice none 0 0] 222) (.cells #[.slice a (2*m) cap] 23) (.cells #[.int .i64 2] 3);have bO':=(bO.alloc (.cells #[.slice a (2*m) cap] 23)).alloc (.cells #[.int .i64 2] 3);have bS':=bS.alloc (.cells #[.int .i64 2] 3);obtain ⟨W0,Yd⟩:∃W0:World,((w.alloc (.cells #[.slice none 0 0] 222)).alloc (.cells #[.slice a (2*m) cap] 23)).alloc (.cells #[.int .i64 2] 3)=W0:=⟨_,rfl⟩;have hsz:W0.heap.size=w.heap.size+3:=by rw [<-Yd,zaq,zaq,zaq]
 rw [Yd] at bO' bS' bN Yc |-;clear Yd bO bS
 refine wpIn_rangeFunc_ownG Yb (by omega) (gf:=190) (lb:=#[.pointer (some ⟨w.heap.size+1,0,none⟩),.pointer (some ⟨w.heap.size+1+1,0,none⟩)]) rfl trivial (enters_of Tryz.func190 (by kernel_rfl) rfl)
  (chunk_stops 4 Yb (by omega) (w.heap.size+1) (w.heap.size+1+1) b off m cap a ZR.out ZB ZQ W0 (by omega) (by omega) bS'.cell bN.cell) staysK_t (staysK_b (by rintro c (rfl|rfl)<;>omega)) (Below.refl _ _) (fun _=>rfl)
  (fun pre W=>(∃v,Boxed W w.heap.size 222 v/\W.ownsRow W0.heap.size 23 1 v pre.length (pre.map (zcA b off))/\True)/\Below w.heap.size w W/\W0.heap.size<=W.heap.size)
  (fun _ _ _=>False)
  (OwnFrom.and (Own.from (holdsRow_own W0.heap.size w.heap.size 222 23 1 (fun pre:List Nat=>pre.length) (fun pre:List Nat=>pre.map (zcA b off)) (fun _ _=>True)) _) (OwnFrom.and (ownFrom_below (yp _) (by omega)) (fun s A B row hs hg _=>Nat.le_trans hs hg.size)))
  (fun _ _ _ _ _ hs _ _=>hs)
  ⟨⟨_,bO',World.ownsRow_nil _ _ _ _,trivial⟩,Yc,yp _⟩
  (fun x=>{ tmps:=#[.slice a (2*m) cap,undef,.slice none 0 0,.int .i64 0,.pointer (some ⟨w.heap.size,0,none⟩),zcA b off x,undef,.slice a (2*m) cap,.func (.func 190) #[] #[.pointer (some ⟨w.heap.size+1,0,none⟩),.pointer (some ⟨w.heap.size+1+1,0,none⟩)],zcA b off x,
   undef,undef,undef,undef,undef,undef,undef,undef,undef,undef,undef,undef,undef,undef,undef,undef,undef,undef,undef,undef,undef,undef,undef,undef,undef,undef,undef,undef,undef,undef],defers:=[] }) ?assign ?body ?done ?stop
 case assign =>
  intro l x W K hK
  gi_wp2
  exact hK
 case body =>
  rintro l pre x W ⟨⟨v,hv,hrow,-⟩,hB,hs⟩ hlt;have hc:=hv.cell;have hle:w.heap.size<=W0.heap.size:=by omega
  unfold zcA
  gi_wp2_with (gi_at_builtin;refine wpListIn_append_own _ rfl _ _ 222 rfl W0.heap.size 23 i0 (.slice none 0 0) 1 24 Tryz.underlying222 hi Yw Yx Yy rfl (by decide) _ _ _ rfl (hrow.alloc _) ⟨W.heap.size,0,none⟩ 1 1 [zcA b off x] rfl rfl (cell_one_new _ _ _) (by simp [Value.oneCell',zcA]) (by unfold maxLen;omega) (by omega) (by simp;omega) ?_;intro v' w1 hown' hgrow _;obtain ⟨g',cap',rfl⟩:=ownsRow_succ hown';obtain ⟨Ye,Yz,XE,YA,Zb⟩:=hv.appended (by decide) (zci hrow hle) hB.size (yp _) (zci hown' hle) hgrow;have QB:=Ye.cell;have ZL:=Ye.frozen)
  refine ⟨YA.from _,put_part hrow hgrow (by omega) (by omega) (by omega) (by omega) hs,⟨_,Yz,?_,trivial⟩,hB.trans Zb,?_⟩
  ·rw [List.length_append,List.map_append]
   exact zbd hown' fun c hc=>heap_setCell_other _ _ _ _ (by have:=(hown'.lt c hc).1;intro e;subst e;simp at this;omega)
  ·have:=hgrow.size
   rw [zaq] at this;simp [World.setCell];omega
 case done =>
  rintro D ys W hD rfl ⟨⟨v,hv,hrow,-⟩,hB,hs⟩ hK;rw [List.length_range] at hrow;have hc:=hv.cell;have hp:(twoV l).length=m:=twoV_len m l HM.out.symm;have Yf:Names W b off m (twoV l):=fun k hk=>cell?_keep hB (Names.of (cap:=cap) (by have:=HR.out;rwa [ZR.out (by omega)] at this) H.out HM.out.symm k hk);have Xd:=yb Yf;have Xe:=yb (sort_parts hp hrow Yf (show b<W0.heap.size by omega) hl)
  have YB:v.ownBlock≠some D:=fun e=>by
   obtain ⟨cs,hc⟩:=zaY hrow e;rw [hK] at hc;cases hc
  have YC:v.ownBlock≠some w.heap.size:=fun e=>by have:=(hrow.lt _ e).1;omega
  have HV:=yb hv;have Xf:=yb YB;have Xg:=yb YC;have YD:=yb (fun b h=>(hrow.lt b h));have YE:=yb hB;have Xh:=yb (show D<W.heap.size from (Array.getElem?_eq_some_iff.1 hK).1);clear hp hrow Yf YB YC hi Yw Yx Yy Xc bN bS' bO' Yc
  gi_wp2_with (refine ⟨trivial,?_⟩;gi_at_call 170;refine (callsIn_wide.2 Xe.out).mono ?_;rintro e w1 ⟨rfl,R,Zj,Zk,Q4,Yg,ZC⟩)
  refine wpIn_wide.2 ?_;have ZS:=yb (show w1.heap[D]?=some (.deferred (some [])) from (ZC.block D Xh.out (fun e=>Xf.out e.symm)).trans hK);have QB:w1.cell? ⟨w.heap.size,0,none⟩=some v:=(show Boxed w1 w.heap.size 222 v from (ZC.block _ (Boxed.lt HV.out) (fun e=>Xg.out e.symm)).trans HV.out).cell;have ZD:=yb (YE.out.grown ZC YE.out.size (fun k e=>by have:=(YD.out k e).1;omega))
  have YF:=yb (show Names w1 b off m (twoV l) from fun k hk=>by
   have hc:=Xd.out k hk;rw [World.cell?_of_block (w:=W) (a:=⟨b,off+2*k*4+2,none⟩) (ZC.block b (World.block_lt_of_cell? W _ hc) (fun e=>by have:=(YD.out b e.symm).1;have:=World.block_lt_of_cell? w _ (Names.of (cap:=cap) (by have:=HR.out;rwa [ZR.out (by omega)] at this) H.out HM.out.symm k hk);simp at this;omega))];exact hc)
  have Qx:=yb Yg;have Q7:=yb Zj;have QJ:=yb Zk;have Q6:=yb Q4;obtain ⟨av,cv,rfl,Ye,Yz⟩:=zaB Yg;clear hv hc hK Zj Zk Q4 Yg ZC hB hs;go_wp2
  go_loopw [6] (fun v6 wr=>∃k:Nat,v6=.int .i64 k/\1<=k/\k<=210000/\(∃q,w1.drewN q=wr)/\Hid (k<=m\/k=1)/\Hid (∀i,i+1<k->(twoV l)[R[i]!]!.1.s≠(twoV l)[R[i+1]!]!.1.s)) (fun v6 _=>m-(intOf v6).toNat)
  case atStart=>exact ⟨1,rfl,yp _,by omega,⟨0,rfl⟩,.inr rfl,yb (fun i hi=>by omega)⟩
  case round =>
   obtain ⟨k,rfl,XF,YA,⟨q,rfl⟩,Xi,Yh⟩:=hrel
   by_cases hlt:k<m
   ·obtain ⟨gb,go,rfl,XG,Yi⟩:=(Row.of_own Qx.out).2.2.2.2.2 (by omega)
    have Zm:R.size=m:=Q7.out;have Xj:w1.cell? ⟨gb,go+k,none⟩=some (zcA b off R[k]!):=Yi k _ (by rw [List.getElem?_map,getElem!_pos R k (by omega)];simp [show k<R.size by omega]);have Xk:w1.cell? ⟨gb,go+(k-1),none⟩=some (zcA b off R[k-1]!):=Yi (k-1) _ (by rw [List.getElem?_map,getElem!_pos R (k-1) (by omega)];simp [show k-1<R.size by omega]);have XH:=YF.out _ (QJ.out k hlt);have XI:=YF.out _ (QJ.out (k-1) (by omega));have YG:=eq_mkB' (twoV l)[R[k]!]!.1.s (twoV l)[R[k-1]!]!.1.s;have ZT:k-1+1=k:=by omega
    have XJ:=yb ZT
    have Zn:=yb (show ∀j,j+1<k+1->(twoV l)[R[k]!]!.1.s≠(twoV l)[R[k-1]!]!.1.s->(twoV l)[R[j]!]!.1.s≠(twoV l)[R[j+1]!]!.1.s from fun j hj ZM=>by
     by_cases e:j+1=k
     ·have:j=k-1:=by omega
      subst this;rw [ZT];exact Ne.symm ZM
     ·exact Yh.out j (by omega))
    have QG:=yb (show (twoV l)[R[k]!]!.1.s=(twoV l)[R[k-1]!]!.1.s->zex l=none from fun e=>by
     unfold zex;rw [yg];rw [<-Q6.out];refine (zfM _).2 ⟨k-1,by simp;omega,?_⟩
     have g:∀j,j<m->(R.toList.map fun i=>(twoV l)[i]!)[j]! = (twoV l)[R[j]!]! := fun j hj=>by
      rw [getElem!_pos _ j (by simp;omega),getElem!_pos R j (by omega)];simp
     rw [g (k-1) (by omega),ZT,g k hlt];exact e.symm)
    unfold zcA at Xj Xk;generalize (twoV l)[R[k]!]!.1.s=s1 at *;generalize (twoV l)[R[k-1]!]!.1.s=s2 at *;generalize R[k]! = q1 at *;generalize R[k-1]! = q2 at *;have i1:(0:Int)<=(k:Int)-1:=by omega
    have i2:((k:Int)-1).toNat=k-1:=by omega
    have i3:IntKind.i64.wrap ((k:Int)-1)=(k:Int)-1:=IntWalk.i64_in _ (by omega);have i4:(k:Int)<(m:Int):=by omega
    have i5:(k:Int)-1<(m:Int):=by omega
    clear Yi ZT Zm
    by_cases hs:s1=s2
    ·rw [yd hs] at YG
     have Q8:=QG.out hs;have ZE:=yb Q8;clear Q8 hs Zn QG;go_wp2
     go_quiet (fail)
     go_wp2;refine ⟨by simp,.inl ⟨_,_,rfl,run_takeDeferred (show (w1.drewN (q+nq)).heap[D]?=_ from ZS.out),?_⟩⟩;refine ⟨_,results_tmp2 rfl _ _ _,?_⟩;rw [ZE.out];exact ⟨(zag (zag ZD.out q) nq).trans (belowK_b (w:=w) (yp _) _ D _ _ (by omega) (show ((w1.drewN q).drewN nq).heap[D]?=_ from ZS.out) rfl rfl),rfl⟩
    ·rw [ye hs] at YG
     have Ze:=yb (fun j hj=>Zn.out j hj hs);clear hs Zn QG Yh;go_wp2
     go_quiet (fail)
     go_wp2
     go_roundw
     case rel=>exact ⟨k+1,by go_num,by omega,by omega,⟨q+nq,rfl⟩,.inl (by omega),Ze⟩
     case measure=>simp [intOf];omega
   ·have Zm:R.toList.length=m:=Q7.out
    have hrow:Row w 4 (some ⟨b,off,none⟩) (2*m) cap cs:=⟨HR.out.1,ZB,ZQ,fun h=>(by cases h),fun hn=>by
     have h:=HR.out.2.2.2.2 hn
     rwa [ZR.out (by omega)] at h⟩
    have Yj:=concat_any (w:=w1.drewN q) (a:=av) (cap:=cv) (b:=b) (off:=off) (n:=2*m) (c:=cap) (qs:=R.toList) (cs:=cs) (by rw [Zm];exact (Row.of_own Qx.out).2.mono (zag (Below.refl _ _) q))
     ((hrow.mono ZD.out).mono (zag (Below.refl _ _) q)) H.out.one1 (fun k hk=>by
      obtain ⟨i,hi,rfl⟩:=List.getElem_of_mem hk;have:=QJ.out i (by omega);rw [getElem!_pos R i (by rw [Zm] at hi;have:=Q7.out;omega)] at this;simp only [Array.getElem_toList];omega) (by omega)
    rw [Zm] at Yj;have Xl:=yb Yj
    have HP:=yb (show zex l=some (zaS (zen (twoV l))) by
     unfold zex;rw [yh];rw [<-Q6.out,zfM];rintro ⟨i,h1,h2⟩;have h3:i+1<m:=by simpa [Q7.out] using h1
     have g:∀j,j<m->(R.toList.map fun i=>(twoV l)[i]!)[j]! = (twoV l)[R[j]!]! := fun j hj=>by
      rw [getElem!_pos _ j (by simp [Q7.out];omega),getElem!_pos R j (by rw [Q7.out];omega)];simp
     rw [g i (by omega),g (i+1) h3] at h2;refine Yh.out i ?_ h2;rcases Xi.out with h|h<;>omega)
    have XK:decide (k<m)=false:=ye hlt;clear Yj hrow Zm hlt;go_wp2;refine wpIn_wide.2 ?_;go_wp2_with (go_at_call 173;refine Xl.out.mono ?_;rintro e w2 ⟨v2,rfl,Xm,Zb⟩)
    have Yk:w2.heap[D]?=some (.deferred (some [])):=(Zb.block D (zam ZS.out)).trans ZS.out;refine ⟨by simp,.inl ⟨_,_,rfl,run_takeDeferred Yk,?_⟩⟩;refine ⟨_,results_tmp2 rfl _ _ _,?_⟩;have YH:RowKit.Below w.heap.size w (w2.putObj D (.deferred none)):=((zag ZD.out q).trans (Zb.mono (zag ZD.out q).size)).trans (belowK_b (w:=w) (yp _) _ D _ _ (by omega) Yk rfl rfl);rw [HP.out];refine ⟨YH,v2,R.toList.flatMap (zfk cs),rfl,?_,?_⟩
    ·rw [flatV_len,<-Q6.out,List.length_map,show R.toList.length=m from Q7.out]
     exact ownsRow_putObj (zci Xm (zag ZD.out q).size) _ Yk rfl
    ·rw [<-Q6.out]
     exact parts_all HM.out.symm (H.out.below YH) R.toList fun k hk=>by
      obtain ⟨i,hi,rfl⟩:=List.getElem_of_mem hk;have:=QJ.out i (by have:=Q7.out;simp at hi;omega);rw [getElem!_pos R i (by simpa using hi)] at this
      simpa using this
 case stop =>
  rintro D c pre W _ _ h _;exact h.elim
end Go.Proofs.YtcmoehknppjkiaaGreatDoor
namespace Go.Proofs.YtcmoehknppjkiaaGreatDoor
open Go.RowKit
section
variable {w0 w w' : World} {F F' G : Nat -> Prop} {p : Nat} {a : Option Addr} {cap : Nat} {bs : List UInt8} {yq : Bool} {st : List Lv} {at_ : Int} {gs : List Nat} {osl : Value}
theorem za3 {w:World} {r b:Nat} (h:b≠r) (y0 y1 y2 y3:Value):((((w.setCell ⟨r,0,none⟩ y0).setCell ⟨r,1,none⟩ y1).setCell ⟨r,2,none⟩ y2).setCell ⟨r,3,none⟩ y3).heap[b]?=w.heap[b]?:=zbp h _ _ _ _
theorem za5 (w:World) (r:Nat) (y0 y1 y2 y3:Value):((((w.setCell ⟨r,0,none⟩ y0).setCell ⟨r,1,none⟩ y1).setCell ⟨r,2,none⟩ y2).setCell ⟨r,3,none⟩ y3).heap.size=w.heap.size:=by simp [World.setCell]
theorem Nxt.fin4 {W1 W2:World} {r:Nat} (h:zaA w0 w F G p a cap bs yq st at_ gs osl) (hb:Below w.heap.size w W1) {st2:List Lv} {at2:Int} (N:Nxt w0 W1 F (fun b=>G b\/b=r) p a cap bs yq st2 at2 F' W2) (hr:w.heap.size<=r) (y0 y1 y2 y3:Value) :
  Nxt w0 w F G p a cap bs yq st2 at2 F' ((((W2.setCell ⟨r,0,none⟩ y0).setCell ⟨r,1,none⟩ y1).setCell ⟨r,2,none⟩ y2).setCell ⟨r,3,none⟩ y3):=by
 obtain ⟨gs2,osl2,hs⟩:=N.stk;have Xn:∀b,G b->b<w.heap.size:=fun b hb=>(h.gb b hb).2;have Xo:∀b,F b->b<w.heap.size:=fun b hb=>h.Flt hb;have h1:=hb.size;have h2:=N.sg.1;refine ⟨⟨gs2,osl2,(hs.set4 (.inr rfl) _ _ _ _).give fun b hb=>.inl hb⟩,⟨by rw [za5];omega,fun b Zh hG=>?_⟩,⟨by rw [za5];omega,fun b Zh hf=>?_⟩,N.ff⟩
 ·rw [za3 (by have:=Xn b hG;omega),N.sg.2 b (by omega) (.inl hG),hb.block b Zh]
 ·rw [za3 (by have:=Xo b hf;omega),N.sf.2 b (by omega) hf,hb.block b Zh]
theorem IsV.fin4 {W2:World} {r:Nat} {st2:List Lv} {at2:Int} {v:PV} {sl:Value} (h:IsV W2 F' v sl) (N:Stk w0 W2 F' (fun b=>G b\/b=r) p a cap bs yq st2 at2) (y0 y1 y2 y3:Value) :
  IsV ((((W2.setCell ⟨r,0,none⟩ y0).setCell ⟨r,1,none⟩ y1).setCell ⟨r,2,none⟩ y2).setCell ⟨r,3,none⟩ y3) F' v sl:=by
 obtain ⟨gs2,osl2,hs⟩:=N;exact IsV.keep ⟨by rw [za5];exact yp _,fun b _ hf=>za3 (fun e=>(hs.fb b hf).2.1 (.inr e)) _ _ _ _⟩ (fun _ h=>h) v h
theorem Nxt.drew {W:World} (N:Nxt w0 w F G p a cap bs yq st at_ F' W):Nxt w0 w F G p a cap bs yq st at_ F' W.drew:=by
 obtain ⟨gs2,osl2,hs⟩:=N.stk;exact ⟨⟨gs2,osl2,hs.drewN 1⟩,N.sg,N.sf,N.ff⟩
theorem Nxt.weak {W:World} {F1:Nat->Prop} (N:Nxt w0 w F1 G p a cap bs yq st at_ F' W) (hF:∀b,F b->F1 b):Nxt w0 w F G p a cap bs yq st at_ F' W :=
 ⟨N.stk,N.sg,⟨N.sf.1,fun b hb hf=>N.sf.2 b hb (hF b hf)⟩,fun b hb=>N.ff b (hF b hb)⟩
theorem IsV.of_owns {W:World} {base:Nat} {v:PV} {sl:Value} {cs:List Value} (hO:W.ownsRow base 25 4 sl v.l.length cs) (h:IsVs W F v.l cs) (hF:∀b,sl.ownBlock=some b->F b):IsV W F v sl:=by
 obtain ⟨a,c,rfl,hr,-⟩:=Row.of_owns hO;refine IsV.mk hr (fun hn x hx=>?_) h;subst hx;rcases hO.2 with ⟨e,-⟩|⟨g,cap,cur,e,-⟩
 ·cases e
 ·cases e;exact hF g rfl
theorem zaA.popA {v:Lv} {g:Nat} {t:List Nat} {ao:Option Addr} {oc:Nat} {sl:Value} (h:zaA w0 w F G p a cap bs yq (v::st) at_ (g::t) (.slice ao (st.length+1) oc)) (hg:w.heap[g]?=some (.cells #[.bool v.dict,sl] 128 (0,0))) :
  ∃F',Nxt w0 w F G p a cap bs yq st at_ F' (w.setCell ⟨p,3,none⟩ (.slice ao st.length oc))/\IsV (w.setCell ⟨p,3,none⟩ (.slice ao st.length oc)) F' (.mk 6 0 [] v.l) sl:=by
 obtain ⟨F',sl',hF,⟨g',t',cs,h1,h2,h3,h4,h5⟩,N⟩:=h.pop rfl;simp only [List.cons.injEq] at h1;obtain ⟨rfl,rfl⟩:=h1;rw [hg] at h2;obtain rfl:sl=sl':=by simpa using h2
 refine ⟨F',N,IsV.of_owns (v:=.mk 6 0 [] v.l) (base:=w0.heap.size) (cs:=cs) (zbd h3 fun b hb=>?_) (IsVs.keep ⟨by simp [World.setCell],fun b _ hf=>?_⟩ (fun _ h=>h) _ h4) h5⟩
 ·exact heap_setCell_other _ _ _ _ (by obtain ⟨ds,hc⟩:=zaY h3 hb;exact zbj hc h.blk (by decide))
 ·obtain ⟨gs2,osl2,hs⟩:=N.stk
  exact heap_setCell_other _ _ _ _ (hs.notF hf)
theorem IsV.drew {W:World} {v:PV} {sl:Value} (h:IsV W F v sl):IsV W.drew F v sl:=IsV.below h (zag (Below.refl _ _) 1)
theorem zaA.popD {v:Lv} {ao:Option Addr} {oc:Nat} {v':PV} {sl:Value} (h:zaA w0 w F G p a cap bs yq (v::st) at_ gs (.slice ao (st.length+1) oc)) (hv:IsV w F v' sl) :
  ∃F',Nxt w0 w F G p a cap bs yq st at_ F' (w.setCell ⟨p,3,none⟩ (.slice ao st.length oc))/\IsV (w.setCell ⟨p,3,none⟩ (.slice ao st.length oc)) F' v' sl:=by
 obtain ⟨F',sl',hF,-,N⟩:=h.pop rfl;exact ⟨F',N,IsV.keep N.sf hF _ hv⟩
theorem zaA.lastV {v:Lv} {g:Nat} {t:List Nat} {sl:Value} (h:zaA w0 w F G p a cap bs yq (v::st) at_ (g::t) osl) (hg:w.heap[g]?=some (.cells #[.bool v.dict,sl] 128 (0,0))) :
  ∃cs,w.ownsRow w0.heap.size 25 4 sl v.l.length cs/\IsVs w F v.l cs:=by
 obtain ⟨g',t',sl',cs,h1,h2,h3,h4,h5,h6,-⟩:=h.lvs;simp only [List.cons.injEq] at h1;obtain ⟨rfl,rfl⟩:=h1;rw [hg] at h4;obtain rfl:sl=sl':=by simpa using h4
 exact ⟨cs,h5,h6⟩
theorem zaA.gain {W3:World} {m:List PV} {v3:Value} {cs:List Value} (h:zaA w0 w F G p a cap bs yq st at_ gs osl) (hb:Below w.heap.size w W3) (hO:W3.ownsRow w.heap.size 25 4 v3 m.length cs) (hV:IsVs W3 F m cs) :
  zaA w0 W3 (fun b=>F b\/v3.ownBlock=some b) G p a cap bs yq st at_ gs osl/\IsV W3 (fun b=>F b\/v3.ownBlock=some b) (.mk 7 0 [] m) v3:=by
 refine ⟨h.frame' (zaz hb) (fun b hb=>.inl hb) (fun b hb=>.inl hb) (fun b hb'=>?_),IsV.of_owns (v:=.mk 7 0 [] m) hO (hV.weaken fun b hb=>.inl hb) fun b hb=>.inr hb⟩;rcases hb' with h1|h1
 ·exact .inl h1
 ·refine .inr ⟨(hO.lt b h1).1,fun hG=>?_,zaY hO h1⟩
  have h2:=(h.gb b hG).2;have h3:=(hO.lt b h1).1;omega
def EndEnd (w0 w:World) (F G:Nat->Prop) (p:Nat) (a:Option Addr) (cap:Nat) (bs:List UInt8) (yq:Bool) (at_:Int) (R:PV×List Lv×Int) (e:Ending) (w':World):Prop :=
 ∃F' sl,e=.returned (.tuple #[pvA R.1 sl,.int .i64 R.2.2])/\IsV w' F' R.1 sl/\Nxt w0 w F G p a cap bs yq R.2.1 at_ F' w'
theorem end_any (h:zaA w0 w F G p a cap bs yq st at_ gs osl) (d:Bool) (hlen:∀v∈st,v.l.length<=400000):Calls Tryz.prog 103 #[.pointer (some ⟨p,0,none⟩),.bool d] w (EndEnd w0 w F G p a cap bs yq at_ (zc3 st d)):=by
 obtain ⟨R,hR⟩:∃R,R=zc3 st d:=⟨_,rfl⟩;rw [<-hR];have HR:=yb hR;have HS:=yb h;obtain ⟨r,hr⟩:∃r,r=w.heap.size:=⟨_,rfl⟩;have ZU:=yb hr;have YI:r<(w.alloc (.cells #[.int .i64 0,.int .i64 0,.string ⟨#[]⟩,.slice none 0 0] 25)).heap.size:=by rw [zaq];omega
 have h1:=h.res (G':=fun b=>G b\/b=r) (zai w (.cells #[.int .i64 0,.int .i64 0,.string ⟨#[]⟩,.slice none 0 0] 25)) (fun b hb=>hb.imp id fun e=>by rw [e];exact ⟨Nat.le_of_eq hr.symm,YI⟩);have YJ:=zac (w:=w) (b:=r) (.cells #[.int .i64 0,.int .i64 0,.string ⟨#[]⟩,.slice none 0 0] 25) hr;have HW:=yb (zai w (.cells #[.int .i64 0,.int .i64 0,.string ⟨#[]⟩,.slice none 0 0] 25));have Yl:p≠r:=by have:=h.lt;omega
 clear h hR YI;go_enter Tryz.func103,Tryz.ntmps103
 go_wp2_with fail
 rw [<-hr];generalize w.alloc _=W1 at *;have ZF:=yb (zhp h1);have Zn:=yb h1;have YK:=yb YJ;clear hr h1 YJ;refine ZF.out.mono ?_;rintro e w1 ⟨rfl,q,rfl⟩;have QG:=yb (Zn.out.drewN q);have ZG:=yb (zag HW.out q);have QJ:=yb (show (W1.drewN q).heap[r]?=_ from YK.out);clear Zn HW YK ZF;generalize W1.drewN q=W2 at *
 have ZH:R=(PV.none,st,11)->∀y0 y1 y2 y3:Value,(y0=.int .i64 0/\y1=.int .i64 0/\y2=.string ⟨#[]⟩/\y3=.slice none 0 0)->EndEnd w0 w F G p a cap bs yq at_ R (.returned (.tuple #[.agg #[y0,y1,y2,y3],.int .i64 11])) ((((W2.setCell ⟨r,0,none⟩ y0).setCell ⟨r,1,none⟩ y1).setCell ⟨r,2,none⟩ y2).setCell ⟨r,3,none⟩ y3):=by
  rintro e y0 y1 y2 y3 ⟨rfl,rfl,rfl,rfl⟩;rw [e];exact ⟨F,.slice none 0 0,rfl,IsV.leaf _ _ _ rfl,Nxt.fin4 HS.out ZG.out (Nxt.refl QG.out (Below.refl _ _)) (Nat.le_of_eq ZU.out.symm) _ _ _ _⟩
 have QL:=yb ZH;obtain ⟨⟨q0,q1,q2,q3⟩,n0,n1,n2,n3⟩:=zad QJ.out;clear ZH;rcases QG.out.top with ⟨rfl,rfl⟩|⟨v,st',g,t',sa,sc,rfl,rfl,h1,h2,h3⟩
 ·unfold topP
  go_wp2;refine yi (zaa rfl _ _ r 25 _ (0,0) _ rfl (by exact set4 QJ.out _ _ _ _) Tryz.underlying25 rfl (by exact zav) _ rfl) rfl ?_;exact QL.out HR.out _ _ _ _ ⟨rfl,rfl,rfl,rfl⟩
 ·obtain ⟨k0,k1⟩:W2.cell? ⟨g,0,none⟩=some (.bool v.dict)/\W2.cell? ⟨g,1,none⟩=some (.slice sa v.l.length sc):=⟨by rw [cell_of_row W2 g 0 _ _ _ h3];rfl,by rw [cell_of_row W2 g 1 _ _ _ h3];rfl⟩
  have Zf:=yb (zfK h3 (by omega));have hR:=HR.out;unfold zc3 at hR;simp only at hR;have HG:=yb h3;unfold topP;have ZI:=yb (show zgQ v=(v.dict&&v.l.length % 2==0) from rfl);have Xp:=yb (hlen v List.mem_cons_self);have YL:g≠p:=fun e=>by subst e;have:=QG.out.blk;rw [h3] at this;simp at this
  by_cases hdd:v.dict=d
  case neg =>
   have Ql:=yb (QL.out (hR.trans (yg (.inl hdd))));have e1:(v.dict==d)=false:=by rw [yf];exact hdd
   have e2:(v.dict != d)=true:=by simp only [bne,e1,yj]
   generalize v.dict=vd at *;clear hR hdd h1 h2 h3 hlen QL;go_wp2;refine yi (zaa rfl _ _ r 25 _ (0,0) _ rfl (by exact set4 QJ.out _ _ _ _) Tryz.underlying25 rfl (by exact zav) _ rfl) rfl ?_;exact Ql.out _ _ _ _ ⟨rfl,rfl,rfl,rfl⟩
  subst hdd;obtain ⟨ao,oc,rfl,Xq,XL⟩:=zaB QG.out.own;obtain ⟨⟨c0,c1,c2,c3⟩,f0,f1,f2,f3⟩:=QG.out.cells;simp only [List.length_cons] at c3 Xq;have XM:st'.length<=63:=by have:=QG.out.deep;simp at this;omega
  have XN:=yb YL;obtain ⟨vd,ZJ⟩:∃vd,vd=v.dict:=⟨_,rfl⟩;rw [<-ZJ] at k0 Zf ZI hR;rw [<-ZJ] at HG;rw [<-ZJ];have YM:=yb ZJ;clear ZJ h3 hlen
  cases vd with
  | false =>
   have Xr:=yb ((hR.trans (yh (by rintro (h|⟨h,-⟩);exact h rfl;cases h))).trans (yg rfl));have i1:(0:Int)<=(st'.length:Int)+1-1:=by omega
   have i2:((st'.length:Int)+1-1).toNat=st'.length:=by omega
   have i3:IntKind.i64.wrap ((st'.length:Int)+1-1)=(st'.length:Int):=by rw [IntWalk.i64_in _ (by omega)];omega
   have i4:(st'.length:Int)<=(oc:Int):=by omega
   have i5:(0:Int)<=(st'.length:Int):=by omega
   have i6:(st'.length:Int).toNat=st'.length:=by omega
   clear hR QL Zf;obtain ⟨F',hN,hV⟩:=QG.out.popA (by rw [<-YM.out];exact HG.out);have XO:p≠g:=Ne.symm YL;have Ym:=yb (show (W2.setCell ⟨p,3,none⟩ (.slice ao st'.length oc)).heap[r]?=_ from (heap_setCell_other W2 ⟨p,3,none⟩ r _ (Ne.symm Yl)).trans QJ.out);have ZK:=yb hN;have Zg:=yb hV;clear hN hV;go_wp2
   go_region
   all_goals
    go_wp2;refine yi (zaa rfl _ _ r 25 _ (0,0) _ rfl (by exact set4 Ym.out _ _ _ _) Tryz.underlying25 rfl (by exact zav) _ rfl) rfl ?_;rw [Xr.out];exact ⟨F',_,rfl,(IsV.fin4 Zg.out ZK.out.stk _ _ _ _).drew,(Nxt.fin4 HS.out ZG.out ZK.out (Nat.le_of_eq ZU.out.symm) _ _ _ _).drew⟩
  | true =>
   cases hev:(v.l.length % 2==0)
   ·rw [hev,Bool.and_false] at Zf ZI
    have Ql:=yb (QL.out (hR.trans (yg (.inr ⟨rfl,ZI.out⟩))));clear hR QL h1 h2 hev;go_wp2_with (go_at_call 139;refine Zf.out.mono ?_;rintro e w' ⟨rfl,rfl⟩)
    refine yi (zaa rfl _ _ r 25 _ (0,0) _ rfl (by exact set4 QJ.out _ _ _ _) Tryz.underlying25 rfl (by exact zav) _ rfl) rfl ?_;exact Ql.out _ _ _ _ ⟨rfl,rfl,rfl,rfl⟩
   ·rw [hev,Bool.and_true] at Zf ZI
    have QX:=(hR.trans (yh (by rintro (h|⟨-,h⟩);exact h rfl;rw [ZI.out] at h;cases h))).trans (yh (by decide));have YN:=yb QX;obtain ⟨m,hm⟩:∃m,2*m=v.l.length:=⟨v.l.length / 2,by simp at hev;omega⟩;obtain ⟨cs,hO,YO⟩:=QG.out.lastV (by rw [<-YM.out];exact HG.out);have HP:=yb (pairs_any (m:=m) (by rw [hm];exact (Row.of_own hO).2) YO hm (by have:=Xp.out;omega));rw [<-hm] at k1;have i1:(0:Int)<=(st'.length:Int)+1-1:=by omega
    have i2:((st'.length:Int)+1-1).toNat=st'.length:=by omega
    have i3:IntKind.i64.wrap ((st'.length:Int)+1-1)=(st'.length:Int):=by rw [IntWalk.i64_in _ (by omega)];omega
    have i4:(st'.length:Int)<=(oc:Int):=by omega
    have i5:(0:Int)<=(st'.length:Int):=by omega
    have i6:(st'.length:Int).toNat=st'.length:=by omega
    have Qk:=yb (show r≠p from Ne.symm Yl);clear hR QL h1 h2 hev hm hO YO
    cases hpv:zex v.l with
    | none =>
     rw [hpv] at QX HP;have Yn:=yb QX;clear QX hpv YN
     go_wp2_with (first
      |(go_at_call 139;refine Zf.out.mono ?_;rintro e w' ⟨rfl,rfl⟩)
      |(go_at_call 140;refine HP.out.mono ?_;rintro e w3 ⟨Q1,rfl⟩;have Qw:=yb Q1;have Q2:=yb (zab Q1 QJ.out);clear Q1 q0 q1 q2 q3 n0 n1 n2 n3 k0 k1 c0 c1 c2 c3 f0 f1 f2 f3;obtain ⟨⟨q0,q1,q2,q3⟩,n0,n1,n2,n3⟩:=zad Q2.out))
     refine yi (zaa rfl _ _ r 25 _ (0,0) _ rfl (by exact set4 Q2.out _ _ _ _) Tryz.underlying25 rfl (by exact zav) _ rfl) rfl ?_;rw [Yn.out];exact ⟨F,.slice none 0 0,rfl,IsV.leaf _ _ _ rfl,Nxt.fin4 HS.out ZG.out (Nxt.refl QG.out Qw.out) (Nat.le_of_eq ZU.out.symm) _ _ _ _⟩
    | some m2 =>
     rw [hpv] at QX HP;have Yn:=yb QX;clear QX hpv YN
     go_wp2_with (first
      |(go_at_call 139;refine Zf.out.mono ?_;rintro e w' ⟨rfl,rfl⟩)
      |(go_at_call 140;refine HP.out.mono ?_;rintro e w3 ⟨Q1,v3,cs3,rfl,Yo,YP⟩;obtain ⟨a3,cap3,rfl,-,-⟩:=zaB Yo;obtain ⟨Q0,YQ⟩:=QG.out.gain Q1 Yo YP;obtain ⟨F',YR,YS⟩:=Q0.popD YQ;have Qw:=yb Q1;have ZK:=yb YR;have Zg:=yb YS;have Ym:=yb (show (w3.setCell ⟨p,3,none⟩ (.slice ao st'.length oc)).heap[r]?=_ from (heap_setCell_other w3 ⟨p,3,none⟩ r _ (Ne.symm Yl)).trans (zab Q1 QJ.out));have Ze:=yb Q0;have Q2:=yb (zab Q1 QJ.out);clear Q1 Yo YP Q0 YQ YR YS q0 q1 q2 q3 n0 n1 n2 n3 k0 k1 c0 c1 c2 c3 f0 f1 f2 f3;obtain ⟨⟨q0,q1,q2,q3⟩,n0,n1,n2,n3⟩:=zad Q2.out;obtain ⟨⟨c0,c1,c2,c3⟩,f0,f1,f2,f3⟩:=Ze.out.cells;simp only [List.length_cons] at c3))
     go_region
     all_goals
      go_wp2;refine yi (zaa rfl _ _ r 25 _ (0,0) _ rfl (by exact set4 Ym.out _ _ _ _) Tryz.underlying25 rfl (by exact zav) _ rfl) rfl ?_;rw [Yn.out];exact ⟨F',_,rfl,(IsV.fin4 Zg.out ZK.out.stk _ _ _ _).drew,(Nxt.fin4 HS.out (ZG.out.trans (Qw.out.mono ZG.out.size)) (ZK.out.weak fun b hb=>.inl hb) (Nat.le_of_eq ZU.out.symm) _ _ _ _).drew⟩
end
end Go.Proofs.YtcmoehknppjkiaaGreatDoor
