/-
  Our texts Print to Sr1, in one.
-/
import Derived.Test.YtcmoehknppjkiaaGreatDoorPkB11
import Derived.Deep.Cut
set_option maxRecDepth 8000
set_option maxHeartbeats 8000000
namespace Go.Proofs.YtcmoehknppjkiaaGreatDoor
open Go.RowKit
def zcn (k n:Int) (bare:Bool) (w:World) (e:Ending) (w':World):Prop:=e=.returned (.tuple #[.string (mkS (zaT k n bare).1),.int .i64 (zaT k n bare).2])/\Below w.heap.size w w'
theorem zhb {k n:Int} {b:Bool} (h:zaM k n b=2):zaT k n b=([],2):=by unfold zaT;rw [yh (by omega)]
theorem zfT {k n:Int} {b:Bool} (h:zaM k n b=0):zaT k n b=(zbX n++absL k n.natAbs,0):=by unfold zaT;rw [yg h]
theorem checkV_is (k n:Int) (b:Bool):zaM k n b=0\/zaM k n b=2:=by unfold zaM;split<;>simp
theorem padV6 (A:Nat):padV ((A % 1000000:Nat):Int) 6=(padL (A % 1000000) 6,0):=by
 have h:=zbs 5 (A % 1000000) (by omega);rw [padV_ok (by omega) (by omega) (by omega)];rfl
theorem pad6_len (A:Nat):(padL (A % 1000000) 6).length=6:=zdK (zbs 5 (A % 1000000) (by omega))
theorem print_any (k n:Int) (s:ByteArray) (a:Option Addr) (m c:Nat) (w:World) (hm:(m:Int)<=9223372036854775807) :
  Calls Tryz.prog 93 #[.agg #[.int .i64 k,.int .i64 n,.string s,.slice a m c]] w (zcn k n (zbA s m) w):=by
 obtain ⟨V,hV⟩:∃V,V=zaT k n (zbA s m):=⟨_,rfl⟩;unfold zcn;rw [<-hV];have HV:=yb hV;have HC:=yb (fun W=>zc4 k n s a m c W hm);have QA:=yb (show (w.alloc (.cells #[.int .i64 k,.int .i64 n,.string s,.slice a m c] 25)).heap[w.heap.size]?=some (.cells #[.int .i64 k,.int .i64 n,.string s,.slice a m c] 25 (0,0)) from zac _ rfl);have Qq:=yb (zai w (.cells #[.int .i64 k,.int .i64 n,.string s,.slice a m c] 25));clear hV hm;rcases checkV_is k n (zbA s m) with hc|hc
 case inr =>
  have HE:=yb (show V=([],2) by rw [HV.out];exact zhb hc);rw [hc] at HC;clear hc;go_enter Tryz.func93,Tryz.ntmps93
  go_wp2_with (go_at_call 120;refine (HC.out _).mono ?_;rintro e w' ⟨rfl,hb⟩)
  go_ret2;exact ⟨by rw [HE.out];rfl,Qq.out.trans (hb.mono Qq.out.size)⟩
 have HE:=yb (show V=(zbX n++absL k n.natAbs,0) by rw [HV.out];exact zfT hc);obtain ⟨-,Q6⟩:=zcK hc;rw [hc] at HC;clear hc;obtain ⟨A,hA⟩:∃A:Nat,A=n.natAbs:=⟨_,rfl⟩;rw [<-hA] at HE;have ZI:A<=2147483647000000:=by omega
 have HT:=yb (fun W=>zgv A (by omega) W);have QH:=yb (fun W=>zgv (A / 1000000) (by omega) W);unfold zhC at HT QH;have Zu:IntKind.u64.wrap (A:Int)=(A:Int):=IntWalk.u64_in _ (by omega);have Q7:IntKind.u64.wrap ((A / 1000000:Nat):Int)=((A / 1000000:Nat):Int):=IntWalk.u64_in _ (by omega);have ZJ:(mkS (decL A)).size<=20:=by rw [zbP];exact zbs 19 A (by omega)
 have Q8:(mkS (decL (A / 1000000))).size<=20:=by rw [zbP];exact zbs 19 _ (by omega)
 rcases Q6 with ⟨rfl,hn1,Q9⟩|⟨rfl,hn1,Q9⟩
 ·have Qd:=yb (show V=(zbX n++decL A,0) by rw [HE.out];rfl)
  by_cases hn:n<0
  ·have Za:-n=(A:Int):=by omega
   have HR:=yb (show (⟨#[45]⟩:ByteArray)++mkS (decL A)=mkS (zbX n++decL A) by rw [<-ze2];unfold zbX;rw [yg hn];rfl);clear hA;generalize mkS (decL A)=T at *;go_enter Tryz.func93,Tryz.ntmps93
   go_wp2_with fail
   refine (HC.out _).mono ?_;rintro e w1 ⟨rfl,Qa⟩;have Ql:=yb (zab Qa QA.out);have Qi:=yo Qq Qa;obtain ⟨⟨k0,k1,k2,k3⟩,-⟩:=zad Ql.out;clear Qa;go_wp2
   go_quiet (fail)
   go_wp2_with (go_at_call 71;refine (HT.out _).mono ?_;rintro e w' ⟨rfl,q,rfl⟩)
   go_ret2;exact ⟨zcf (by rw [Qd.out];exact HR.out) (by rw [Qd.out]),by simpa using zag (zag Qi.out nq) q⟩
  ·obtain rfl:n=(A:Int):=by omega
   have HR:=yb (show (⟨#[]⟩:ByteArray)++mkS (decL A)=mkS (zbX (A:Int)++decL A) by rw [<-ze2];unfold zbX;rw [yh hn];rfl);clear hA hn;generalize mkS (decL A)=T at *;go_enter Tryz.func93,Tryz.ntmps93
   go_wp2_with fail
   refine (HC.out _).mono ?_;rintro e w1 ⟨rfl,Qa⟩;have Ql:=yb (zab Qa QA.out);have Qi:=yo Qq Qa;obtain ⟨⟨k0,k1,k2,k3⟩,-⟩:=zad Ql.out;clear Qa;go_wp2
   go_quiet (fail)
   go_wp2_with (go_at_call 71;refine (HT.out _).mono ?_;rintro e w' ⟨rfl,q,rfl⟩)
   go_ret2;exact ⟨zcf (by rw [Qd.out];exact HR.out) (by rw [Qd.out]),by simpa using zag (zag Qi.out nq) q⟩
 ·have Qd:=yb (show V=(zbX n++(decL (A / 1000000)++46::zbO (padL (A % 1000000) 6)),0) by rw [HE.out];rfl)
  have hp:=fun W=>pad_any ((A % 1000000:Nat):Int) 6 W (by omega) (by omega) (by omega) (by omega);unfold PadEnd at hp;rw [padV6] at hp;have HP:=yb hp;have Q2:(mkS (padL (A % 1000000) 6)).size=6:=by rw [zbP];exact pad6_len A
  have Zv:=yb (fun W=>zhU ((mkS (padL (A % 1000000) 6)).extract 1 6) W (by rw [ByteArray.size_extract];omega))
  have QS:=yb (show (mkS (padL (A % 1000000) 6)).extract 0 1++mkS (zcu (bl ((mkS (padL (A % 1000000) 6)).extract 1 6)))=mkS (zbO (padL (A % 1000000) 6)) by
   apply zdb
   rw [zek,zcW,zcW,bl_to];have h6:=bl_from (mkS (padL (A % 1000000) 6)) 1;rw [Q2] at h6;rw [h6,zcW];rfl)
  have ZK:((mkS (padL (A % 1000000) 6)).extract 0 1++mkS (zcu (bl ((mkS (padL (A % 1000000) 6)).extract 1 6)))).size<=6:=by
   rw [QS.out,zbP];exact (zey (A % 1000000) (by omega)).2.2.2
  have ZY:(mkS (zcu (bl ((mkS (padL (A % 1000000) 6)).extract 1 6)))).size<=6:=by rw [zev] at ZK;omega
  have ZZ:((mkS (padL (A % 1000000) 6)).extract 0 1).size<=6:=by rw [ByteArray.size_extract];omega
  clear hp
  by_cases hn:n<0
  ·have Za:-n=(A:Int):=by omega
   have HR:=yb (show (⟨#[45]⟩:ByteArray)++mkS (decL (A / 1000000))++⟨#[46]⟩++((mkS (padL (A % 1000000) 6)).extract 0 1++mkS (zcu (bl ((mkS (padL (A % 1000000) 6)).extract 1 6))))=mkS (zbX n++(decL (A / 1000000)++46::zbO (padL (A % 1000000) 6))) by
    rw [QS.out];unfold zbX;rw [yg hn]
    apply zdb
    simp only [zek,zcW];simp [bl])
   clear hA QS;generalize mkS (decL (A / 1000000))=T at *;generalize mkS (padL (A % 1000000) 6)=F at *;go_enter Tryz.func93,Tryz.ntmps93
   go_wp2_with fail
   refine (HC.out _).mono ?_;rintro e w1 ⟨rfl,Qa⟩;have Ql:=yb (zab Qa QA.out);have Qi:=yo Qq Qa;obtain ⟨⟨k0,k1,k2,k3⟩,-⟩:=zad Ql.out;clear Qa;go_wp2
   go_quiet (fail)
   go_wp2_with fail
   refine (HP.out _).mono ?_;rintro e w2 ⟨rfl,q,rfl⟩;go_wp2_with fail
   go_quiet ((go_at_call 129;exact (Zv.out _).mono fun _ _ ⟨he,hm⟩=>⟨he,_,hm.symm⟩))
   go_wp2_with (go_at_call 71;refine (QH.out _).mono ?_;rintro e w' ⟨rfl,q2,rfl⟩)
   go_ret2;exact ⟨zcf (by rw [Qd.out];exact HR.out) (by rw [Qd.out]),by simpa using zag Qi.out _⟩
  ·obtain rfl:n=(A:Int):=by omega
   have HR:=yb (show (⟨#[]⟩:ByteArray)++mkS (decL (A / 1000000))++⟨#[46]⟩++((mkS (padL (A % 1000000) 6)).extract 0 1++mkS (zcu (bl ((mkS (padL (A % 1000000) 6)).extract 1 6))))=mkS (zbX (A:Int)++(decL (A / 1000000)++46::zbO (padL (A % 1000000) 6))) by
    rw [QS.out];unfold zbX;rw [yh hn]
    apply zdb
    simp only [zek,zcW];simp [bl])
   clear hA QS hn;generalize mkS (decL (A / 1000000))=T at *;generalize mkS (padL (A % 1000000) 6)=F at *;go_enter Tryz.func93,Tryz.ntmps93
   go_wp2_with fail
   refine (HC.out _).mono ?_;rintro e w1 ⟨rfl,Qa⟩;have Ql:=yb (zab Qa QA.out);have Qi:=yo Qq Qa;obtain ⟨⟨k0,k1,k2,k3⟩,-⟩:=zad Ql.out;clear Qa;go_wp2
   go_quiet (fail)
   go_wp2_with fail
   refine (HP.out _).mono ?_;rintro e w2 ⟨rfl,q,rfl⟩;go_wp2_with fail
   go_quiet ((go_at_call 129;exact (Zv.out _).mono fun _ _ ⟨he,hm⟩=>⟨he,_,hm.symm⟩))
   go_wp2_with (go_at_call 71;refine (QH.out _).mono ?_;rintro e w' ⟨rfl,q2,rfl⟩)
   go_ret2;exact ⟨zcf (by rw [Qd.out];exact HR.out) (by rw [Qd.out]),by simpa using zag Qi.out _⟩
theorem trimF_one (a:UInt8):zbO [a]=[a]:=by simp [zbO,zcu]
theorem trimF_snoc (a:UInt8) (g:List UInt8):zbO (a::(g++[48]))=zbO (a::g):=by unfold zbO;simp [zeY]
theorem trimF_stop (a c:UInt8) (g:List UInt8) (h:c≠48):zbO (a::(g++[c]))=a::(g++[c]):=by unfold zbO;simp [zeV _ _ h]
theorem zg1 (t:List UInt8) (ht:1<=t.length):zbO (t++[48])=zbO t:=by
 cases t with
 | nil=>simp at ht
 | cons a g=>exact trimF_snoc a g
theorem zgK (t:List UInt8) (c:UInt8) (ht:1<=t.length) (hc:c≠48):zbO (t++[c])=t++[c]:=by
 cases t with
 | nil=>simp at ht
 | cons a g=>exact trimF_stop a c g hc
theorem zeD (k n:Int) (s:ByteArray) (a:Option Addr) (m c:Nat) (w:World) (hm:(m:Int)<=9223372036854775807) :
  Calls Tryz.prog 48 #[.agg #[.int .i64 k,.int .i64 n,.string s,.slice a m c]] w (zcn k n (zbA s m) w):=by
 obtain ⟨V,hV⟩:∃V,V=zaT k n (zbA s m):=⟨_,rfl⟩;unfold zcn;rw [<-hV];have HV:=yb hV;have HC:=yb (fun W=>zeZ k n s a m c W hm);have QA:=yb (show (w.alloc (.cells #[.int .i64 k,.int .i64 n,.string s,.slice a m c] 25)).heap[w.heap.size]?=some (.cells #[.int .i64 k,.int .i64 n,.string s,.slice a m c] 25 (0,0)) from zac _ rfl);have Qq:=yb (zai w (.cells #[.int .i64 k,.int .i64 n,.string s,.slice a m c] 25));clear hV hm;rcases checkV_is k n (zbA s m) with hc|hc
 case inr =>
  have HE:=yb (show V=([],2) by rw [HV.out];exact zhb hc);rw [hc] at HC;clear hc;go_enter Tryz.func48,Tryz.ntmps48
  go_wp2_with (go_at_call 79;refine (HC.out _).mono ?_;rintro e w' ⟨rfl,hb⟩)
  go_ret2;exact ⟨by rw [HE.out];rfl,Qq.out.trans (hb.mono Qq.out.size)⟩
 have HE:=yb (show V=(zbX n++absL k n.natAbs,0) by rw [HV.out];exact zfT hc);obtain ⟨-,Q6⟩:=zcK hc;rw [hc] at HC;clear hc;obtain ⟨A,hA⟩:∃A:Nat,A=n.natAbs:=⟨_,rfl⟩;rw [<-hA] at HE;have ZI:A<=2147483647000000:=by omega
 have hT:=fun W=>zeM A 1 W (by omega) (by omega) (by omega);have Zb:=fun W=>zeM (A / 1000000) 1 W (by omega) (by omega) (by omega);have Zc:=fun W=>zeM (A % 1000000) 6 W (by omega) (by omega) (by omega);rw [show padL A (1:Int).toNat=decL A from zdE (za4 A).2.2] at hT;rw [show padL (A / 1000000) (1:Int).toNat=decL (A / 1000000) from zdE (za4 _).2.2] at Zb;rw [show (6:Int).toNat=6 from rfl] at Zc;have HT:=yb hT;have QH:=yb Zb;have Zw:=yb Zc;clear hT Zb Zc;have ZJ:(mkS (decL A)).size<=20:=by rw [zbP];exact zbs 19 A (by omega)
 have Q8:(mkS (decL (A / 1000000))).size<=20:=by rw [zbP];exact zbs 19 _ (by omega)
 obtain ⟨sg,QB⟩:∃sg:ByteArray,sg=if n<0 then ⟨#[45]⟩ else ⟨#[]⟩:=⟨_,rfl⟩;have Zx:=yb (show bl sg=zbX n by rw [QB];unfold zbX;split<;>rfl)
 rcases Q6 with ⟨rfl,hn1,Q9⟩|⟨rfl,hn1,Q9⟩
 ·have Qd:=yb (show V=(zbX n++decL A,0) by rw [HE.out];rfl)
  have HR:=yb (show sg++mkS (decL A)=mkS (zbX n++decL A) by apply zdb;rw [zek,zcW,zcW,Zx.out])
  by_cases hn:n<0
  ·have Za:-n=(A:Int):=by omega
   rw [yg hn] at QB;subst QB;clear hA;generalize mkS (decL A)=T at *;go_enter Tryz.func48,Tryz.ntmps48
   go_wp2_with fail
   refine (HC.out _).mono ?_;rintro e w1 ⟨rfl,Qa⟩;have Ql:=yb (zab Qa QA.out);have Qi:=yo Qq Qa;obtain ⟨⟨k0,k1,k2,k3⟩,-⟩:=zad Ql.out;clear Qa;go_wp2_with (go_at_call 73;refine (HT.out _).mono ?_;rintro e w' ⟨rfl,rfl⟩)
   go_ret2;exact ⟨zcf (by rw [Qd.out];exact HR.out) (by rw [Qd.out]),Qi.out⟩
  ·obtain rfl:n=(A:Int):=by omega
   rw [yh hn] at QB;subst QB;clear hA hn;generalize mkS (decL A)=T at *;go_enter Tryz.func48,Tryz.ntmps48
   go_wp2_with fail
   refine (HC.out _).mono ?_;rintro e w1 ⟨rfl,Qa⟩;have Ql:=yb (zab Qa QA.out);have Qi:=yo Qq Qa;obtain ⟨⟨k0,k1,k2,k3⟩,-⟩:=zad Ql.out;clear Qa;go_wp2_with (go_at_call 73;refine (HT.out _).mono ?_;rintro e w' ⟨rfl,rfl⟩)
   go_ret2;exact ⟨zcf (by rw [Qd.out];exact HR.out) (by rw [Qd.out]),Qi.out⟩
 ·have Qd:=yb (show V=(zbX n++(decL (A / 1000000)++46::zbO (padL (A % 1000000) 6)),0) by rw [HE.out];rfl)
  have Q2:(mkS (padL (A % 1000000) 6)).size=6:=by rw [zbP];exact pad6_len A
  have HR:=yb (show ∀F:ByteArray,bl F=zbO (padL (A % 1000000) 6)->sg++mkS (decL (A / 1000000))++⟨#[46]⟩++F=mkS (zbX n++(decL (A / 1000000)++46::zbO (padL (A % 1000000) 6))) from fun F hF=>by
    apply zdb
    simp only [zek,zcW,Zx.out,hF];simp [bl])
  obtain ⟨f,hf⟩:∃f,f=zbO (padL (A % 1000000) 6):=⟨_,rfl⟩;have HF:=yb (show f=zbO (bl (mkS (padL (A % 1000000) 6))) from hf);rw [<-hf] at HR Qd;clear hf
  by_cases hn:n<0
  ·have Za:-n=(A:Int):=by omega
   rw [yg hn] at QB;subst QB;clear hA;generalize mkS (decL (A / 1000000))=T at *;generalize mkS (padL (A % 1000000) 6)=F at *;go_enter Tryz.func48,Tryz.ntmps48
   go_wp2_with fail
   refine (HC.out _).mono ?_;rintro e w1 ⟨rfl,Qa⟩;have Ql:=yb (zab Qa QA.out);have Qi:=yo Qq Qa;obtain ⟨⟨k0,k1,k2,k3⟩,-⟩:=zad Ql.out;clear Qa;go_wp2_with fail
   refine (Zw.out _).mono ?_;rintro e w2 ⟨rfl,rfl⟩;go_wp2
   go_loop [6,7] (fun v i=>∃(j:Nat) (G:ByteArray),j<=5/\v=.string G/\i=.int .i64 j/\G.size=6-j/\Hid (f=zbO (bl G))) (fun _ i=>5-(intOf i).toNat)
   case atStart=>exact ⟨0,F,by omega,rfl,rfl,Q2,HF⟩
   case round =>
    obtain ⟨j,G,hj,rfl,rfl,QT,HG⟩:=hrel
    by_cases hj5:j<5
    ·have Zd:decide ((j:Int)<5)=true:=by simp;omega
     obtain ⟨q,hq⟩:∃q,6-j=q+1:=⟨5-j,by omega⟩;have ZL:1<=q:=by omega
     have ZM:q<=5:=by omega
     have Ze:=PlainAid.get_bt G;rw [hq] at QT;have hlt:q<G.size:=by omega
     have hx:(G[q].toNat:Int)=PlainAid.bt G q:=Ze q hlt;have hl:1<=((bl G).take q).length:=by rw [List.length_take,zaC];omega
     have QK:=zdj G q hlt;rw [List.take_of_length_le (by rw [zaC];omega)] at QK;have HL:=yb hl;have QU:=yb QK;have HX:=yb hx;have HQ:=yb hq;clear hl QK hx hq
     by_cases h48:PlainAid.bt G q=48
     ·have QL:(PlainAid.bt G q==48)=true:=by rw [beq_iff_eq];exact h48
      have HN:=yb (show f=zbO (bl (G.extract 0 q)) by
       have hc:G[q]=48:=UInt8.toNat_inj.1 (Int.ofNat_inj.1 (HX.out.trans h48));have h1:=QU.out;rw [hc] at h1;have h2:=zg1 _ HL.out;rw [<-h1] at h2;rw [HG.out,bl_to,h2])
      clear h48;go_wp2
      go_round
      case rel=>exact ⟨j+1,_,by omega,rfl,by go_num,by have:=HQ.out;rw [ByteArray.size_extract];omega,HN⟩
      case measure=>simp [intOf];omega
     ·have QL:(PlainAid.bt G q==48)=false:=by rw [yf];exact h48
      have HN:=yb (show bl G=f by
       have hc:G[q]≠48:=fun e=>h48 (by rw [<-HX.out,e];rfl);have h2:=zgK _ _ HL.out hc;rw [<-QU.out] at h2;rw [HG.out,h2])
      have QM:=yb (HR.out G HN.out);clear h48;go_wp2_with (go_at_call 73;refine (QH.out _).mono ?_;rintro e w' ⟨rfl,rfl⟩)
      go_ret2;exact ⟨zcf (by rw [Qd.out];exact QM.out) (by rw [Qd.out]),Qi.out⟩
    ·obtain rfl:j=5:=by omega
     have HN:=yb (show bl G=f by
      rw [HG.out];have Zf:(bl G).length=1:=by rw [zaC,QT]
      obtain ⟨a,ha⟩:=List.length_eq_one_iff.1 Zf;rw [ha,trimF_one])
     have QM:=yb (HR.out G HN.out);go_wp2_with (go_at_call 73;refine (QH.out _).mono ?_;rintro e w' ⟨rfl,rfl⟩)
     go_ret2;exact ⟨zcf (by rw [Qd.out];exact QM.out) (by rw [Qd.out]),Qi.out⟩
  ·obtain rfl:n=(A:Int):=by omega
   rw [yh hn] at QB;subst QB;clear hA hn;generalize mkS (decL (A / 1000000))=T at *;generalize mkS (padL (A % 1000000) 6)=F at *;go_enter Tryz.func48,Tryz.ntmps48
   go_wp2_with fail
   refine (HC.out _).mono ?_;rintro e w1 ⟨rfl,Qa⟩;have Ql:=yb (zab Qa QA.out);have Qi:=yo Qq Qa;obtain ⟨⟨k0,k1,k2,k3⟩,-⟩:=zad Ql.out;clear Qa;go_wp2_with fail
   refine (Zw.out _).mono ?_;rintro e w2 ⟨rfl,rfl⟩;go_wp2
   go_loop [6,7] (fun v i=>∃(j:Nat) (G:ByteArray),j<=5/\v=.string G/\i=.int .i64 j/\G.size=6-j/\Hid (f=zbO (bl G))) (fun _ i=>5-(intOf i).toNat)
   case atStart=>exact ⟨0,F,by omega,rfl,rfl,Q2,HF⟩
   case round =>
    obtain ⟨j,G,hj,rfl,rfl,QT,HG⟩:=hrel
    by_cases hj5:j<5
    ·have Zd:decide ((j:Int)<5)=true:=by simp;omega
     obtain ⟨q,hq⟩:∃q,6-j=q+1:=⟨5-j,by omega⟩;have ZL:1<=q:=by omega
     have ZM:q<=5:=by omega
     have Ze:=PlainAid.get_bt G;rw [hq] at QT;have hlt:q<G.size:=by omega
     have hx:(G[q].toNat:Int)=PlainAid.bt G q:=Ze q hlt;have hl:1<=((bl G).take q).length:=by rw [List.length_take,zaC];omega
     have QK:=zdj G q hlt;rw [List.take_of_length_le (by rw [zaC];omega)] at QK;have HL:=yb hl;have QU:=yb QK;have HX:=yb hx;have HQ:=yb hq;clear hl QK hx hq
     by_cases h48:PlainAid.bt G q=48
     ·have QL:(PlainAid.bt G q==48)=true:=by rw [beq_iff_eq];exact h48
      have HN:=yb (show f=zbO (bl (G.extract 0 q)) by
       have hc:G[q]=48:=UInt8.toNat_inj.1 (Int.ofNat_inj.1 (HX.out.trans h48));have h1:=QU.out;rw [hc] at h1;have h2:=zg1 _ HL.out;rw [<-h1] at h2;rw [HG.out,bl_to,h2])
      clear h48;go_wp2
      go_round
      case rel=>exact ⟨j+1,_,by omega,rfl,by go_num,by have:=HQ.out;rw [ByteArray.size_extract];omega,HN⟩
      case measure=>simp [intOf];omega
     ·have QL:(PlainAid.bt G q==48)=false:=by rw [yf];exact h48
      have HN:=yb (show bl G=f by
       have hc:G[q]≠48:=fun e=>h48 (by rw [<-HX.out,e];rfl);have h2:=zgK _ _ HL.out hc;rw [<-QU.out] at h2;rw [HG.out,h2])
      have QM:=yb (HR.out G HN.out);clear h48;go_wp2_with (go_at_call 73;refine (QH.out _).mono ?_;rintro e w' ⟨rfl,rfl⟩)
      go_ret2;exact ⟨zcf (by rw [Qd.out];exact QM.out) (by rw [Qd.out]),Qi.out⟩
    ·obtain rfl:j=5:=by omega
     have HN:=yb (show bl G=f by
      rw [HG.out];have Zf:(bl G).length=1:=by rw [zaC,QT]
      obtain ⟨a,ha⟩:=List.length_eq_one_iff.1 Zf;rw [ha,trimF_one])
     have QM:=yb (HR.out G HN.out);go_wp2_with (go_at_call 73;refine (QH.out _).mono ?_;rintro e w' ⟨rfl,rfl⟩)
     go_ret2;exact ⟨zcf (by rw [Qd.out];exact QM.out) (by rw [Qd.out]),Qi.out⟩
theorem zfa {l:List PV} {k:Nat} {x:PV} (hx:l[k]?=some x):zbH (l.take (k+1))=max (zbH (l.take k)) (zaZ x):=by
 induction l generalizing k with
 | nil=>cases hx
 | cons y l ih =>
  cases k with
  | zero =>
   have:y=x:=by simpa using hx
   subst this;simp [zbH]
  | succ k =>
   rw [List.take_succ_cons,List.take_succ_cons];simp only [zbH];rw [ih (by simpa using hx)];omega
theorem zd3 {x:PV}:∀(l:List PV) (k:Nat),l[k]?=some x->zaZ x<=zbH l
 | [],k,h=>by cases h
 | y::l,0,h=>by
  have:y=x:=by simpa using h
  subst this;simp only [zbH];omega
 | y::l,k+1,h=>by
  have:=zd3 l k (by simpa using h);simp only [zbH];omega
theorem zep (v:PV):zaZ v=if v.kind=6\/v.kind=7 then 1+zbH v.l else 1:=by obtain ⟨_,_,_,_⟩:=v;rfl
theorem vdepth_any:∀(N:Nat) (v:PV) (sl:Value) (w:World),SizeOf.sizeOf v<=N->zaZ v<=1000->IsV w anyF v sl ->
  Calls Tryz.prog 75 #[pvA v sl] w fun e w'=>e=.returned (.int .i64 (zaZ v:Nat))/\Below w.heap.size w w':=by
 intro N
 induction N with
 | zero=>intro v sl w h;obtain ⟨_,_,_,_⟩:=v;simp at h
 | succ N ih =>
 intro v sl w hN hd hv;obtain ⟨a1,cap1,e1,g1,g2,g3⟩:=hv.len;subst e1;have HA:=yb hv;have Qp:=yb ih;have HN:=yb hN;have Qm:=yb (fun (k:Nat) (x:PV) (h:v.l[k]?=some x)=>zb3 h);have m1:(v.l.length:Int)<=9223372036854775807:=by unfold maxLen at g2;omega
 have Qv:=zep v;unfold pvA;obtain ⟨DV,Zy⟩:∃DV,DV=zaZ v:=⟨_,rfl⟩;rw [<-Zy] at hd Qv |-;clear Zy;clear ih hN hv;obtain ⟨la,Qg⟩:∃la,la=v.l:=⟨_,rfl⟩;have Qj:=yb Qg;rw [<-Qg] at Qv HA Qm m1 g1 |-;clear Qg g2 g3;have Zz:∀k,k=v.kind->DV=if k=6\/k=7 then 1+zbH la else 1:=fun k e=>by rw [e];exact Qv
 obtain ⟨k0,Q3⟩:∃k,k=v.kind:=⟨_,rfl⟩;have QV:=Zz k0 Q3;rw [<-Q3];have HD:=yb hd;clear Zz Qv Q3 hd;generalize v.n=n0 at *;generalize mkB v.s=s0 at *;go_enter Tryz.func75,Tryz.ntmps75
 obtain ⟨B,hB⟩:∃B,B=w.heap.size:=⟨_,rfl⟩;have Qs:=yb (zac (w:=w) (b:=B) (.cells #[.int .i64 k0,.int .i64 n0,.string s0,.slice a1 la.length cap1] 25) hB);have HW:=yb (zai w (.cells #[.int .i64 k0,.int .i64 n0,.string s0,.slice a1 la.length cap1] 25))
 go_upto_region 2 with fail
 rw [<-hB];clear hB;generalize w.alloc _=W1 at *;obtain ⟨⟨c0,c1,c2,c3⟩,-⟩:=zad Qs.out
 by_cases hk:k0=6\/k0=7
 case neg =>
  have Z0:(k0==6)=false:=by rw [yf];omega
  have Z1:(k0==7)=false:=by rw [yf];omega
  rw [yh hk] at QV;subst QV;clear hk HA Qp HN Qm HD Qj;go_wp2;go_ret;exact ⟨rfl,HW.out⟩
 rw [yg hk] at QV;have ZA:=yb QV;have Z2:zbH la<=999:=by have:=HD.out;omega
 clear QV;have ZB:∀ {Q:Prop},(k0=6->Q)->(k0=7->Q)->Q:=fun h6 h7=>hk.elim h6 h7;have Zg:Hid (∀w',Below w.heap.size w w'->w'=w'):=yb fun _ _=>rfl;clear hk Zg;refine ZB (fun e6=>?_) (fun e7=>?_)
 all_goals
  first|subst e6|subst e7
  clear ZB;go_wp2
  go_loopw [3,17] (fun vn vk wr=>∃(k n:Nat),vk=.int .i64 k/\vn=.int .i64 n/\n<=999/\k<=la.length/\Hid (Below W1.heap.size W1 wr)/\Hid (n=zbH (la.take k))) (fun _ vk _=>la.length-(intOf vk).toNat)
  case atStart=>exact ⟨0,0,rfl,rfl,by omega,Nat.zero_le _,Below.refl _ _,rfl⟩
  case round =>
   obtain ⟨k,n,rfl,rfl,hn,hk,Qe,HV⟩:=hrel;have Qh:=yb (HW.out.trans (Qe.out.mono HW.out.size))
   by_cases q1:k<la.length
   case neg =>
    have Qt:k=la.length:=by omega
    subst Qt;have hv:=HV.out;rw [List.take_length] at hv;have QW:DV=1+n:=by rw [ZA.out,hv]
    have Zh:=yb QW;clear hv QW HV HA Qp HN Qm c0 c1 c2 c3 ZA;go_wp2;go_ret;exact ⟨by rw [Zh.out];push_cast;rfl,Qh.out⟩
   obtain ⟨x,hx⟩:∃x,la[k]?=some x:=⟨_,List.getElem?_eq_getElem q1⟩;obtain ⟨-,-,-,b1,o1,rfl,-,-,Qb⟩:=(HA.out.below Qh.out).at (by omega);rw [<-Qj.out] at Qb;obtain ⟨sx,Qw,x0,x1,x2,x3⟩:=Qb k x hx;have hlt:SizeOf.sizeOf x<SizeOf.sizeOf v:=Qm.out k x hx;have hN:=HN.out;have Zi:=zd3 la k hx;have hv:max n (zaZ x)=zbH (la.take (k+1)):=by rw [zfa hx];have:=HV.out;omega
   have Qx:=yb hv;have Zj:zaZ x<=999:=by omega
   obtain ⟨sa',sc',rfl,-,-,-⟩:=Qw.len;have Qc:=yb (fun (W:World) (hb:Below wr.heap.size wr W)=>Qp.out x _ W (by omega) (by omega) (Qw.below hb));simp only [pvA] at Qc;clear hv Qw hlt hN Qb hx HA Qp HV Qm Qj HN Zi c0 c1 c2 c3;generalize zaZ x=d at *;have Qt:(0:Int)<=(k:Int):=by omega
   have QI:(k:Int)<(la.length:Int):=by omega
   have hd1:decide (k<la.length)=true:=yd q1;generalize x.kind=xk at *;generalize x.n=xn at *;generalize mkB x.s=xs at *;generalize x.l.length=xl at *;have Zk:=yb (zai wr (.cells #[.int .i64 xk,.int .i64 xn,.string xs,.slice sa' xl sc'] 25));have ZC:=yb (zac (w:=wr) (b:=wr.heap.size) (.cells #[.int .i64 xk,.int .i64 xn,.string xs,.slice sa' xl sc'] 25) rfl);have Qk:=yb (Qe.out.trans (Zk.out.mono Qe.out.size))
   go_upto_region 6 with fail
   obtain ⟨r4,ZD⟩:∃r4,r4=wr.heap.size:=⟨_,rfl⟩;rw [<-ZD] at ZC |-;clear ZD x0 x1 x2 x3;have ZE:=yb (Qc.out _ Zk.out);clear Qc Zk;generalize wr.alloc _=W4 at *;obtain ⟨⟨x0,x1,x2,x3⟩,-⟩:=zad ZC.out;go_wp2_with fail
   refine ZE.out.mono ?_;rintro e w5 ⟨rfl,QX⟩;have QN:=yo Qk QX;clear QX x0 x1 x2 x3 ZE
   by_cases hc:n<d
   ·have hm:max n d=d:=by omega
    have Zl:max (n:Int) (d:Int)=(d:Int):=by omega
    rw [hm] at Qx;have hd1:decide ((n:Int)<(d:Int))=true:=yd (by omega);have Qu:decide (n<d)=true:=yd hc;have ZN:(n:Int)<=(d:Int):=by omega
    go_wp2
    go_roundw
    case rel=>exact ⟨k+1,d,by go_num,by go_num,by omega,by omega,QN,Qx⟩
    case measure=>simp [intOf];omega
   ·have hm:max n d=n:=by omega
    have Zl:max (n:Int) (d:Int)=(n:Int):=by omega
    rw [hm] at Qx;have hd1:decide ((n:Int)<(d:Int))=false:=ye (by omega);have Qu:decide (n<d)=false:=ye hc;have ZN:(d:Int)<=(n:Int):=by omega
    go_wp2
    go_roundw
    case rel=>exact ⟨k+1,n,by go_num,by go_num,by omega,by omega,QN,Qx⟩
    case measure=>simp [intOf];omega
theorem eqBs (a b:List UInt8):((mkB a).toList==b)=decide (a=b):=by
 rw [zaj];by_cases h:a=b<;>simp [h]
theorem plain_any (k n:Int) (s:List UInt8) (a:Option Addr) (m c:Nat) (w:World) :
  Calls Tryz.prog 119 #[.agg #[.int .i64 k,.int .i64 n,.string (mkB s),.slice a m c]] w fun e w'=>e=.returned (.bool (n==0&&decide (s=[])&&m==0))/\Below w.heap.size w w':=by
 have hs:=eqBs s [];generalize decide (s=[])=ds at *;generalize mkB s=S at *;have HB:=yb (zai w (.cells #[.int .i64 k,.int .i64 n,.string S,.slice a m c] 25));have hm:((m:Int)==0)=(m==0):=by rw [Bool.eq_iff_iff];simp
 cases h1:(n==0)
 ·go_enter Tryz.func119,Tryz.ntmps119
  go_wp2;go_ret;exact ⟨rfl,HB.out⟩
 ·cases ds
  ·go_enter Tryz.func119,Tryz.ntmps119
   go_wp2;go_ret;exact ⟨rfl,HB.out⟩
  ·cases h2:(m==0)
   ·rw [h2] at hm
    go_enter Tryz.func119,Tryz.ntmps119
    go_wp2;go_ret;exact ⟨rfl,HB.out⟩
   ·rw [h2] at hm
    go_enter Tryz.func119,Tryz.ntmps119
    go_wp2;go_ret;exact ⟨rfl,HB.out⟩
theorem zg8 {l:List PV} (h:zcT l=true) {k:Nat} {x:PV} (hx:l[k*2]?=some x):x.kind=5:=by
 induction k generalizing l with
 | zero =>
  match l,h with
  | [a],h =>
   have e:a=x:=by simpa using hx
   subst e
   simpa [zcT] using h
  | a::b::l,h =>
   have e:a=x:=by simpa using hx
   subst e;simp [zcT] at h;exact h.1
  | [],_=>simp at hx
 | succ k ih =>
  match l,h with
  | [],_=>simp at hx
  | [a],_=>simp at hx
  | a::b::l,h=>exact ih (l:=l) (by simp [zcT] at h;exact h.2) (by rw [show (k+1)*2=k*2+2 by omega] at hx;simpa using hx)
theorem zhq:∀(l:List PV),(∀k x,l[k*2]?=some x->x.kind=5)->zcT l=true
 | [],_=>rfl
 | [a],h=>by have:=h 0 a rfl;simp [zcT,this]
 | a::b::l,h=>by
  have h1:=h 0 a rfl;have h2:=zhq l (fun k x hx=>h (k+1) x (by rw [show (k+1)*2=k*2+2 by omega];simpa using hx));simp [zcT,h1,h2]
theorem asc_getS {l:List PV} (h:ascV (twoV l)=true) (he:l.length % 2=0) {k:Nat} {x y:PV} (hx:l[k*2]?=some x) (hy:l[k*2+2]?=some y):sLt x.s y.s=true:=by
 induction k generalizing l with
 | zero =>
  match l,h with
  | [],_=>cases hx
  | [a],_=>cases hy
  | [a,b],_=>cases hy
  | [a,b,c],_=>simp at he
  | a::b::c::d::l,h =>
   have e1:a=x:=by simpa using hx
   have e2:c=y:=by simpa using hy
   subst e1 e2;simp [twoV,ascV] at h;exact h.1
 | succ k ih =>
  match l,h with
  | [],_=>cases hx
  | [a],_=>simp at he
  | a::b::l,h =>
   refine ih (l:=l) ?_ (by simp at he;omega) (by rw [show (k+1)*2=k*2+2 by omega] at hx;simpa using hx) (by rw [show (k+1)*2+2=(k*2+2)+2 by omega] at hy;simpa using hy)
   match l,h with
   | [],_=>rfl
   | [c],_=>rfl
   | c::d::l,h=>simp [twoV,ascV] at h |-;exact h.2
theorem asc_ofS:∀(l:List PV),(∀k x y,l[k*2]?=some x->l[k*2+2]?=some y->sLt x.s y.s=true)->ascV (twoV l)=true
 | [],_=>rfl
 | [a],_=>rfl
 | [a,b],_=>rfl
 | [a,b,c],_=>rfl
 | a::b::c::d::l,h=>by
  have h1:=h 0 a c rfl rfl;have h2:=asc_ofS (c::d::l) (fun k x y hx hy=>h (k+1) x y (by rw [show (k+1)*2=k*2+2 by omega];simpa using hx) (by rw [show (k+1)*2+2=(k*2+2)+2 by omega];simpa using hy));simp [twoV,ascV] at h2 |-;exact ⟨h1,h2⟩
def zdT (l:List PV):Int:=if l.length % 2≠0 then 2 else if zcT l=false then 2 else if ascV (twoV l)=true then 0 else 16
theorem vdict_any {v:PV} {sl:Value} {w:World} (hv:IsV w anyF v sl) :
  Calls Tryz.prog 122 #[pvA v sl] w fun e w'=>e=.returned (.int .i64 (zdT v.l))/\Below w.heap.size w w':=by
 obtain ⟨a1,cap1,e1,g1,g2,g3⟩:=hv.len;subst e1;have HA:=yb hv;have m1:(v.l.length:Int)<=9223372036854775807:=by unfold maxLen at g2;omega
 unfold pvA;clear hv g2 g3;obtain ⟨la,Qg⟩:∃la,la=v.l:=⟨_,rfl⟩;have Qj:=yb Qg;rw [<-Qg] at m1 g1 HA |-;clear Qg;obtain ⟨R,hR⟩:∃R,R=zdT la:=⟨_,rfl⟩;rw [<-hR];unfold zdT at hR;have HR:=yb hR;clear hR;generalize v.kind=k0 at *;generalize v.n=n0 at *;generalize mkB v.s=s0 at *;go_enter Tryz.func122,Tryz.ntmps122
 obtain ⟨B,hB⟩:∃B,B=w.heap.size:=⟨_,rfl⟩;have Qs:=yb (zac (w:=w) (b:=B) (.cells #[.int .i64 k0,.int .i64 n0,.string s0,.slice a1 la.length cap1] 25) hB);have HW:=yb (zai w (.cells #[.int .i64 k0,.int .i64 n0,.string s0,.slice a1 la.length cap1] 25))
 go_upto_region 1 with fail
 rw [<-hB];clear hB;generalize w.alloc _=W1 at *;obtain ⟨⟨c0,c1,c2,c3⟩,-⟩:=zad Qs.out
 by_cases he:la.length % 2=0
 case neg =>
  have QY:((la.length:Int) % 2==1)=true:=by rw [beq_iff_eq];omega
  have QC:((la.length:Int) % 2==0)=false:=by rw [yf];omega
  have QZ:((la.length:Int) % 2 != 0)=true:=by simp only [bne,QC,yj]
  have hr:=HR.out;rw [yg he] at hr;subst hr;clear HR HA he;go_wp2;go_ret;exact ⟨rfl,HW.out⟩
 have QY:((la.length:Int) % 2==1)=false:=by rw [yf];omega
 have QC:((la.length:Int) % 2==0)=true:=by rw [beq_iff_eq];omega
 have QZ:((la.length:Int) % 2 != 0)=false:=by simp only [bne,QC,Bool.not_true]
 have HE:=yb he;have hr:=HR.out;rw [yh (by omega)] at hr;clear HR;have HR:=yb hr;clear hr he;go_wp2;clear QY QC QZ
 go_loopw [3] (fun vk wr=>∃j K:Nat,vk=.int .i64 (K:Int)/\Hid (K=j*2)/\K<=la.length/\wr=W1/\Hid (∀i x,i<j->la[i*2]?=some x->x.kind=5)) (fun vk _=>la.length+2-(intOf vk).toNat)
 case atStart=>exact ⟨0,0,rfl,rfl,by omega,rfl,yb fun i x h=>absurd h (Nat.not_lt_zero _)⟩
 case round =>
  obtain ⟨j,k,rfl,HK,hj,QJ,HG⟩:=hrel;rw [QJ];clear QJ;have QO:k<la.length->k+2<=la.length:=fun h=>by have h1:=HK.out;have h2:=HE.out;omega
  by_cases q1:k<la.length
  case pos =>
   obtain ⟨x,hx⟩:∃x,la[k]?=some x:=⟨_,List.getElem?_eq_getElem q1⟩;obtain ⟨-,-,-,b1,o1,rfl,-,-,Qb⟩:=(HA.out.below HW.out).at (by omega);rw [<-Qj.out] at Qb;obtain ⟨sx,-,x0,-⟩:=Qb k x hx;have Qt:(0:Int)<=(k:Int):=by omega
   have QI:(k:Int)<(la.length:Int):=by omega
   have hd1:decide (k<la.length)=true:=yd q1;have Qu:decide ((k:Int)<(la.length:Int))=true:=yd QI;have Q0:=QO q1;clear QO
   by_cases h5:x.kind=5
   ·rw [h5] at x0
    have QD:=yb (show ∀i y,i<j+1->la[i*2]?=some y->y.kind=5 from fun i y hi hy=>by
     by_cases e:i=j
     ·subst e
      have h1:=HK.out;rw [<-h1,hx] at hy
      cases hy
      exact h5
     ·exact HG.out i y (by omega) hy)
    clear Qb hx h5 HG;go_wp2
    go_roundw
    case rel=>exact ⟨j+1,k+2,by go_num,by have:=HK.out;show k+2=(j+1)*2;omega,Q0,trivial,QD⟩
    case measure=>simp [intOf];omega
   ·have Zm:(x.kind==5)=false:=by rw [yf];exact h5
    have ZO:(x.kind != 5)=true:=by simp only [bne,Zm,yj]
    have Qy:zcT la=false:=by
     cases hq:zcT la with
     | false=>rfl
     | true=>exact absurd (zg8 hq (k:=j) (by rw [<-HK.out];exact hx)) h5
    have hr:=HR.out;rw [yg Qy] at hr;subst hr;generalize x.kind=xk at *;clear Qb hx h5 HG HR HA Qy HK HE;go_wp2;go_ret;exact ⟨rfl,HW.out⟩
  have hd1:decide (k<la.length)=false:=ye q1;have Qu:decide ((k:Int)<(la.length:Int))=false:=ye (by omega);have QR:¬(k:Int)<(la.length:Int):=by omega
  have Qy:zcT la=true:=zhq la fun i x hx=>HG.out i x (by
   have h1:=HK.out;have h2:=(List.getElem?_eq_some_iff.1 hx).1;omega) hx
  have hr:=HR.out;rw [yh (by rw [Qy];decide)] at hr;clear HR;have HR:=yb hr;clear hr HK hj QO HG Qy;go_wp2;clear hd1 Qu QR q1;clear c0 c1 c2 c3
  go_loopw [4] (fun vk wr=>∃j m K:Nat,vk=.int .i64 (K:Int)/\Hid (m=j*2)/\m+2=K/\m<=la.length/\Hid (Below W1.heap.size W1 wr)/\Hid (∀i x y,i<j->la[i*2]?=some x->la[i*2+2]?=some y->sLt x.s y.s=true)) (fun vk _=>la.length+4-(intOf vk).toNat)
  case atStart=>exact ⟨0,0,2,by go_num,rfl,rfl,by omega,Below.refl _ _,yb fun i x y h=>absurd h (Nat.not_lt_zero _)⟩
  case round =>
   obtain ⟨j,m,K,rfl,HK,Qn,Zl,Qh,HG⟩:=hrel;have QE:=yb (HW.out.trans (Qh.out.mono HW.out.size));obtain ⟨⟨c0,c1,c2,c3⟩,-⟩:=zad (zab Qh.out Qs.out)
   by_cases q2:K<la.length
   case neg =>
    have Zn:decide (K<la.length)=false:=ye q2;have hd1:decide ((K:Int)<(la.length:Int))=false:=ye (by omega);have QR:¬(K:Int)<(la.length:Int):=by omega
    have Qr:ascV (twoV la)=true:=asc_ofS la fun i x y hx hy=>HG.out i x y (by
     have h1:=HK.out;have h2:=(List.getElem?_eq_some_iff.1 hy).1;omega) hx hy
    have hr:=HR.out;rw [yg Qr] at hr;subst hr;clear HG HA HR Qr HK HE Qn;go_wp2;go_ret;exact ⟨rfl,QE.out⟩
   obtain ⟨x,hx⟩:∃x,la[m]?=some x:=⟨_,List.getElem?_eq_getElem (by omega)⟩;obtain ⟨y,hy⟩:∃y,la[K]?=some y:=⟨_,List.getElem?_eq_getElem q2⟩;have ZP:K+2<=la.length:=by have h1:=HK.out;have h2:=HE.out;omega
   obtain ⟨-,-,-,b1,o1,rfl,-,-,Qb⟩:=(HA.out.below QE.out).at (by omega);rw [<-Qj.out] at Qb;obtain ⟨sx,-,-,-,x2,-⟩:=Qb m x hx;obtain ⟨sy,-,-,-,y2,-⟩:=Qb K y hy;have l1:Op.bytesLess (mkB x.s).toList (mkB y.s).toList=sLt x.s y.s:=by rw [zaj,zaj,zce]
   have l2:Op.bytesLess (mkB y.s).toList (mkB x.s).toList=sLt y.s x.s:=by rw [zaj,zaj,zce]
   have l3:((mkB y.s).toList==(mkB x.s).toList)=decide (y.s=x.s):=by rw [zaj x.s];exact eqBs _ _
   have l4:((mkB x.s).toList==(mkB y.s).toList)=decide (x.s=y.s):=by rw [zaj y.s];exact eqBs _ _
   have u3:=zaI.cell c3;have e2:=zaI.cell x2;have r2:=zaI.cell y2;have Zn:decide (K<la.length)=true:=yd q2;have hd1:decide ((K:Int)<(la.length:Int))=true:=yd (by omega);have Qt:(0:Int)<=(m:Int):=by omega
   have QI:(m:Int)<(la.length:Int):=by omega
   have Zo:(0:Int)<=(K:Int):=by omega
   have Zp:(K:Int)<(la.length:Int):=by omega
   have ZQ:(K:Int)-2=(m:Int):=by omega
   have ZR:IntKind.i64.wrap ((K:Int)-2)=(m:Int):=by rw [IntWalk.i64_in _ (by omega)];omega
   have Zq:IntKind.i64.wrap (m:Int)=(m:Int):=IntWalk.i64_in _ (by omega)
   by_cases hlt:sLt x.s y.s=true
   ·rw [hlt] at l1
    rw [zfb _ _ hlt] at l2;have Qo:x.s≠y.s:=fun e=>by rw [e,zdA] at hlt;cases hlt
    rw [ye (fun e=>Qo e.symm)] at l3;rw [ye Qo] at l4
    have QD:=yb (show ∀i u z,i<j+1->la[i*2]?=some u->la[i*2+2]?=some z->sLt u.s z.s=true from fun i u z hi hu hz=>by
     by_cases e:i=j
     ·subst e
      have h1:=HK.out;rw [<-h1,hx] at hu;rw [<-h1,Qn,hy] at hz
      cases hu
      cases hz
      exact hlt
     ·exact HG.out i u z (by omega) hu hz)
    clear Qb hx hy HG HA hlt x2 y2 Qo HR;generalize mkB x.s=sX at *;generalize mkB y.s=sY at *;have Zr:=yb Qn;clear Qn;go_wp2;refine zaX (by kernel_rfl) (by kernel_rfl) ?_
    repeat (go_big_quiet_step (fail))
    refine wpQuiet_nil ?_;rintro _ ⟨⟨w4,Qf⟩,rfl⟩;have Qk:=yo Qh Qf;clear u3 e2 r2 c0 c1 c2 c3 Qf l1 l2 l3 l4;go_wp2;exact ⟨⟨j+1,K,K+2,by go_num,by have h1:=HK.out;have h2:=Zr.out;show K=(j+1)*2;omega,rfl,by omega,Qk,QD⟩,by simp [intOf];omega⟩
   ·have QF:sLt x.s y.s=false:=by simpa using hlt
    rw [QF] at l1
    have Qr:ascV (twoV la)=false:=by
     cases hq:ascV (twoV la) with
     | false=>rfl
     | true=>exact absurd (asc_getS hq HE.out (k:=j) (by rw [<-HK.out];exact hx) (by rw [<-HK.out,Qn];exact hy)) hlt
    have hr:=HR.out;rw [yh (by rw [Qr];decide)] at hr;subst hr
    by_cases hgt:sLt y.s x.s=true
    ·rw [hgt] at l2
     have Qo:x.s≠y.s:=fun e=>by rw [e,zdA] at hgt;cases hgt
     rw [ye (fun e=>Qo e.symm)] at l3;rw [ye Qo] at l4;clear Qb hx hy HG HA hlt x2 y2 Qo HR Qr QF hgt HK HE;generalize mkB x.s=sX at *;generalize mkB y.s=sY at *;clear Qn;go_wp2;refine zaX (by kernel_rfl) (by kernel_rfl) ?_
     repeat (go_big_quiet_step (fail))
     refine wpQuiet_nil ?_;rintro _ ⟨⟨w4,Qf⟩,rfl⟩;have Qk:=yo QE Qf;clear u3 e2 r2 c0 c1 c2 c3 Qf l1 l2 l3 l4;go_wp2;go_ret;exact ⟨rfl,Qk.out⟩
    ·have QP:sLt y.s x.s=false:=by simpa using hgt
     rw [QP] at l2
     have QQ:x.s=y.s:=by
      by_cases e:x.s=y.s
      ·exact e
      ·exact absurd (zcM _ _ QF e) (by rw [QP];decide)
     rw [yd QQ.symm] at l3;rw [yd QQ] at l4;clear Qb hx hy HG HA hlt x2 y2 HR Qr QF hgt QP HK HE QQ;generalize mkB x.s=sX at *;generalize mkB y.s=sY at *;clear Qn;go_wp2;refine zaX (by kernel_rfl) (by kernel_rfl) ?_
     repeat (go_big_quiet_step (fail))
     refine wpQuiet_nil ?_;rintro _ ⟨⟨w4,Qf⟩,rfl⟩;have Qk:=yo QE Qf;clear u3 e2 r2 c0 c1 c2 c3 Qf l1 l2 l3 l4;go_wp2;go_ret;exact ⟨rfl,Qk.out⟩
theorem idx_memS (o:List UInt8) (c:UInt8):decide (0<=Lib.indexByte o c)=decide (c∈o):=by
 have hg:=Lib.indexByte_ge o c
 by_cases h:Lib.indexByte o c=-1
 ·rw [h,ye (zdD _ _ h)];rfl
 ·obtain ⟨i,hi⟩:=Int.eq_ofNat_of_zero_le (show 0<=Lib.indexByte o c by omega)
  obtain ⟨a,t,e,-,-⟩:=zdJ _ _ _ hi;rw [hi,yd (by omega),yd (by rw [e];simp)]
theorem vown_k0 {n:Int} {s:List UInt8} {l:List PV} {a1:Option Addr} {cap1:Nat} {w:World} (_m1:(l.length:Int)<=9223372036854775807) :
  Calls Tryz.prog 78 #[.agg #[.int .i64 0,.int .i64 n,.string (mkB s),.slice a1 l.length cap1]] w fun e w'=>e=.returned (.int .i64 (if n=0/\s=[]/\l=[] then 0 else 2))/\Below w.heap.size w w':=by
 obtain ⟨R,hR⟩:∃R,R=(if n=0/\s=[]/\l=[] then 0 else 2:Int):=⟨_,rfl⟩;rw [<-hR];have HR:=yb hR;have HB:=yb (zai w (.cells #[.int .i64 0,.int .i64 n,.string (mkB s),.slice a1 l.length cap1] 25));clear hR;have HP:=yb (fun W=>plain_any 0 n s a1 l.length cap1 W)
 have hq:R=if (n==0&&decide (s=[])&&l.length==0)=true then 0 else 2:=by
  rw [HR.out];cases l<;>simp
 clear HR;obtain ⟨b,hb⟩:∃b,b=(n==0&&decide (s=[])&&l.length==0):=⟨_,rfl⟩;rw [<-hb] at HP hq;have HQ:=yb hq;clear hb hq;generalize l.length=m at *;generalize mkB s=S at *
 cases b
 ·obtain rfl:R=2:=HQ.out
  clear HQ;go_enter Tryz.func78,Tryz.ntmps78
  go_wp2_with (go_at_call 119;refine (HP.out _).mono ?_;rintro e w1 ⟨rfl,Qa⟩)
  go_ret;exact ⟨rfl,HB.out.trans (Qa.mono HB.out.size)⟩
 ·obtain rfl:R=0:=HQ.out
  clear HQ;go_enter Tryz.func78,Tryz.ntmps78
  go_wp2_with (go_at_call 119;refine (HP.out _).mono ?_;rintro e w1 ⟨rfl,Qa⟩)
  go_ret;exact ⟨rfl,HB.out.trans (Qa.mono HB.out.size)⟩
theorem vown_k1 {n:Int} {s:List UInt8} {l:List PV} {a1:Option Addr} {cap1:Nat} {w:World} (_m1:(l.length:Int)<=9223372036854775807) :
  Calls Tryz.prog 78 #[.agg #[.int .i64 1,.int .i64 n,.string (mkB s),.slice a1 l.length cap1]] w fun e w'=>e=.returned (.int .i64 (if (n=0\/n=1)/\s=[]/\l=[] then 0 else 2))/\Below w.heap.size w w':=by
 obtain ⟨R,hR⟩:∃R,R=(if (n=0\/n=1)/\s=[]/\l=[] then 0 else 2:Int):=⟨_,rfl⟩;rw [<-hR];have HR:=yb hR;have HB:=yb (zai w (.cells #[.int .i64 1,.int .i64 n,.string (mkB s),.slice a1 l.length cap1] 25));clear hR
 by_cases hn0:n=0
 ·have en0:(n==0)=true:=by rw [beq_iff_eq];exact hn0
  have en0':(n != 0)=false:=by simp only [bne,en0,Bool.not_true]
  by_cases hs0:s=[]
  ·have es0:(mkB s).toList=[]:=by rw [zaj];exact hs0
   have es0b:((mkB s).toList==[])=true:=by rw [beq_iff_eq];exact es0
   have es0c:((mkB s).toList != [])=false:=by simp only [bne,es0b,Bool.not_true]
   by_cases hm0:l=[]
   ·have em0:(l.length==0)=true:=by rw [hm0];rfl
    have em0':((l.length:Int)==0)=true:=by rw [hm0];rfl
    have hr:=HR.out;obtain rfl:R=0:=by rw [hr];simp [hn0,hs0,hm0]
    clear HR hr hn0 hs0 hm0;generalize l.length=m at *;generalize mkB s=S at *;go_enter Tryz.func78,Tryz.ntmps78
    go_wp2;go_ret;exact ⟨rfl,HB.out⟩
   ·have em0:(l.length==0)=false:=by rw [yf];exact fun e=>hm0 (List.eq_nil_of_length_eq_zero e)
    have em0':((l.length:Int)==0)=false:=by rw [yf];exact fun e=>hm0 (List.eq_nil_of_length_eq_zero (by omega))
    have hr:=HR.out;obtain rfl:R=2:=by rw [hr];simp [hn0,hs0,hm0]
    clear HR hr hn0 hs0 hm0;generalize l.length=m at *;generalize mkB s=S at *;go_enter Tryz.func78,Tryz.ntmps78
    go_wp2;go_ret;exact ⟨rfl,HB.out⟩
  ·have es0b:((mkB s).toList==[])=false:=by rw [yf,zaj];exact hs0
   have es0c:((mkB s).toList != [])=true:=by simp only [bne,es0b,yj]
   have hr:=HR.out;obtain rfl:R=2:=by rw [hr];simp [hn0,hs0]
   clear HR hr hn0 hs0;generalize l.length=m at *;generalize mkB s=S at *;go_enter Tryz.func78,Tryz.ntmps78
   go_wp2;go_ret;exact ⟨rfl,HB.out⟩
 ·have en0:(n==0)=false:=by rw [yf];exact hn0
  have en0':(n != 0)=true:=by simp only [bne,en0,yj]
  by_cases hn1:n=1
  ·have en1:(n==1)=true:=by rw [beq_iff_eq];exact hn1
   by_cases hs0:s=[]
   ·have es0:(mkB s).toList=[]:=by rw [zaj];exact hs0
    have es0b:((mkB s).toList==[])=true:=by rw [beq_iff_eq];exact es0
    have es0c:((mkB s).toList != [])=false:=by simp only [bne,es0b,Bool.not_true]
    by_cases hm0:l=[]
    ·have em0:(l.length==0)=true:=by rw [hm0];rfl
     have em0':((l.length:Int)==0)=true:=by rw [hm0];rfl
     have hr:=HR.out;obtain rfl:R=0:=by rw [hr];simp [hn1,hs0,hm0]
     clear HR hr hn0 hn1 hs0 hm0;generalize l.length=m at *;generalize mkB s=S at *;go_enter Tryz.func78,Tryz.ntmps78
     go_wp2;go_ret;exact ⟨rfl,HB.out⟩
    ·have em0:(l.length==0)=false:=by rw [yf];exact fun e=>hm0 (List.eq_nil_of_length_eq_zero e)
     have em0':((l.length:Int)==0)=false:=by rw [yf];exact fun e=>hm0 (List.eq_nil_of_length_eq_zero (by omega))
     have hr:=HR.out;obtain rfl:R=2:=by rw [hr];simp [hn1,hs0,hm0]
     clear HR hr hn0 hn1 hs0 hm0;generalize l.length=m at *;generalize mkB s=S at *;go_enter Tryz.func78,Tryz.ntmps78
     go_wp2;go_ret;exact ⟨rfl,HB.out⟩
   ·have es0b:((mkB s).toList==[])=false:=by rw [yf,zaj];exact hs0
    have es0c:((mkB s).toList != [])=true:=by simp only [bne,es0b,yj]
    have hr:=HR.out;obtain rfl:R=2:=by rw [hr];simp [hn1,hs0]
    clear HR hr hn0 hn1 hs0;generalize l.length=m at *;generalize mkB s=S at *;go_enter Tryz.func78,Tryz.ntmps78
    go_wp2;go_ret;exact ⟨rfl,HB.out⟩
  ·have en1:(n==1)=false:=by rw [yf];exact hn1
   have hr:=HR.out;obtain rfl:R=2:=by rw [hr];simp [hn0,hn1]
   clear HR hr hn0 hn1;generalize l.length=m at *;generalize mkB s=S at *;go_enter Tryz.func78,Tryz.ntmps78
   go_wp2;go_ret;exact ⟨rfl,HB.out⟩
theorem vown_k4 {n:Int} {s:List UInt8} {l:List PV} {a1:Option Addr} {cap1:Nat} {w:World} (_m1:(l.length:Int)<=9223372036854775807) :
  Calls Tryz.prog 78 #[.agg #[.int .i64 4,.int .i64 n,.string (mkB s),.slice a1 l.length cap1]] w fun e w'=>e=.returned (.int .i64 (if n=0/\l=[] then 0 else 2))/\Below w.heap.size w w':=by
 obtain ⟨R,hR⟩:∃R,R=(if n=0/\l=[] then 0 else 2:Int):=⟨_,rfl⟩;rw [<-hR];have HR:=yb hR;have HB:=yb (zai w (.cells #[.int .i64 4,.int .i64 n,.string (mkB s),.slice a1 l.length cap1] 25));clear hR
 by_cases hn0:n=0
 ·have en0:(n==0)=true:=by rw [beq_iff_eq];exact hn0
  have en0':(n != 0)=false:=by simp only [bne,en0,Bool.not_true]
  by_cases hm0:l=[]
  ·have em0:(l.length==0)=true:=by rw [hm0];rfl
   have em0':((l.length:Int)==0)=true:=by rw [hm0];rfl
   have hr:=HR.out;obtain rfl:R=0:=by rw [hr];simp [hn0,hm0]
   clear HR hr hn0 hm0;generalize l.length=m at *;generalize mkB s=S at *;go_enter Tryz.func78,Tryz.ntmps78
   go_wp2;go_ret;exact ⟨rfl,HB.out⟩
  ·have em0:(l.length==0)=false:=by rw [yf];exact fun e=>hm0 (List.eq_nil_of_length_eq_zero e)
   have em0':((l.length:Int)==0)=false:=by rw [yf];exact fun e=>hm0 (List.eq_nil_of_length_eq_zero (by omega))
   have hr:=HR.out;obtain rfl:R=2:=by rw [hr];simp [hn0,hm0]
   clear HR hr hn0 hm0;generalize l.length=m at *;generalize mkB s=S at *;go_enter Tryz.func78,Tryz.ntmps78
   go_wp2;go_ret;exact ⟨rfl,HB.out⟩
 ·have en0:(n==0)=false:=by rw [yf];exact hn0
  have en0':(n != 0)=true:=by simp only [bne,en0,yj]
  have hr:=HR.out;obtain rfl:R=2:=by rw [hr];simp [hn0]
  clear HR hr hn0;generalize l.length=m at *;generalize mkB s=S at *;go_enter Tryz.func78,Tryz.ntmps78
  go_wp2;go_ret;exact ⟨rfl,HB.out⟩
theorem vown_k6 {n:Int} {s:List UInt8} {l:List PV} {a1:Option Addr} {cap1:Nat} {w:World} (_m1:(l.length:Int)<=9223372036854775807) :
  Calls Tryz.prog 78 #[.agg #[.int .i64 6,.int .i64 n,.string (mkB s),.slice a1 l.length cap1]] w fun e w'=>e=.returned (.int .i64 (if n=0/\s=[] then 0 else 2))/\Below w.heap.size w w':=by
 obtain ⟨R,hR⟩:∃R,R=(if n=0/\s=[] then 0 else 2:Int):=⟨_,rfl⟩;rw [<-hR];have HR:=yb hR;have HB:=yb (zai w (.cells #[.int .i64 6,.int .i64 n,.string (mkB s),.slice a1 l.length cap1] 25));clear hR
 by_cases hn0:n=0
 ·have en0:(n==0)=true:=by rw [beq_iff_eq];exact hn0
  have en0':(n != 0)=false:=by simp only [bne,en0,Bool.not_true]
  by_cases hs0:s=[]
  ·have es0:(mkB s).toList=[]:=by rw [zaj];exact hs0
   have es0b:((mkB s).toList==[])=true:=by rw [beq_iff_eq];exact es0
   have es0c:((mkB s).toList != [])=false:=by simp only [bne,es0b,Bool.not_true]
   have hr:=HR.out;obtain rfl:R=0:=by rw [hr];simp [hn0,hs0]
   clear HR hr hn0 hs0;generalize l.length=m at *;generalize mkB s=S at *;go_enter Tryz.func78,Tryz.ntmps78
   go_wp2;go_ret;exact ⟨rfl,HB.out⟩
  ·have es0b:((mkB s).toList==[])=false:=by rw [yf,zaj];exact hs0
   have es0c:((mkB s).toList != [])=true:=by simp only [bne,es0b,yj]
   have hr:=HR.out;obtain rfl:R=2:=by rw [hr];simp [hn0,hs0]
   clear HR hr hn0 hs0;generalize l.length=m at *;generalize mkB s=S at *;go_enter Tryz.func78,Tryz.ntmps78
   go_wp2;go_ret;exact ⟨rfl,HB.out⟩
 ·have en0:(n==0)=false:=by rw [yf];exact hn0
  have en0':(n != 0)=true:=by simp only [bne,en0,yj]
  have hr:=HR.out;obtain rfl:R=2:=by rw [hr];simp [hn0]
  clear HR hr hn0;generalize l.length=m at *;generalize mkB s=S at *;go_enter Tryz.func78,Tryz.ntmps78
  go_wp2;go_ret;exact ⟨rfl,HB.out⟩
theorem vown_k8 {n:Int} {s:List UInt8} {l:List PV} {a1:Option Addr} {cap1:Nat} {w:World} (_m1:(l.length:Int)<=9223372036854775807) :
  Calls Tryz.prog 78 #[.agg #[.int .i64 8,.int .i64 n,.string (mkB s),.slice a1 l.length cap1]] w fun e w'=>e=.returned (.int .i64 (if 1<=n/\n<=4096/\s=[]/\l=[] then 0 else 2))/\Below w.heap.size w w':=by
 obtain ⟨R,hR⟩:∃R,R=(if 1<=n/\n<=4096/\s=[]/\l=[] then 0 else 2:Int):=⟨_,rfl⟩;rw [<-hR];have HR:=yb hR;have HB:=yb (zai w (.cells #[.int .i64 8,.int .i64 n,.string (mkB s),.slice a1 l.length cap1] 25));clear hR
 by_cases hg1:1<=n
 ·have eg1:decide (1<=n)=true:=yd hg1
  by_cases hle:n<=4096
  ·have ele:decide (n<=4096)=true:=yd hle
   by_cases hs0:s=[]
   ·have es0:(mkB s).toList=[]:=by rw [zaj];exact hs0
    have es0b:((mkB s).toList==[])=true:=by rw [beq_iff_eq];exact es0
    have es0c:((mkB s).toList != [])=false:=by simp only [bne,es0b,Bool.not_true]
    by_cases hm0:l=[]
    ·have em0:(l.length==0)=true:=by rw [hm0];rfl
     have em0':((l.length:Int)==0)=true:=by rw [hm0];rfl
     have hr:=HR.out;obtain rfl:R=0:=by rw [hr];simp [hg1,hle,hs0,hm0]
     clear HR hr hg1 hle hs0 hm0;generalize l.length=m at *;generalize mkB s=S at *;go_enter Tryz.func78,Tryz.ntmps78
     go_wp2;go_ret;exact ⟨rfl,HB.out⟩
    ·have em0:(l.length==0)=false:=by rw [yf];exact fun e=>hm0 (List.eq_nil_of_length_eq_zero e)
     have em0':((l.length:Int)==0)=false:=by rw [yf];exact fun e=>hm0 (List.eq_nil_of_length_eq_zero (by omega))
     have hr:=HR.out;obtain rfl:R=2:=by rw [hr];simp [hg1,hle,hs0,hm0]
     clear HR hr hg1 hle hs0 hm0;generalize l.length=m at *;generalize mkB s=S at *;go_enter Tryz.func78,Tryz.ntmps78
     go_wp2;go_ret;exact ⟨rfl,HB.out⟩
   ·have es0b:((mkB s).toList==[])=false:=by rw [yf,zaj];exact hs0
    have es0c:((mkB s).toList != [])=true:=by simp only [bne,es0b,yj]
    have hr:=HR.out;obtain rfl:R=2:=by rw [hr];simp [hg1,hle,hs0]
    clear HR hr hg1 hle hs0;generalize l.length=m at *;generalize mkB s=S at *;go_enter Tryz.func78,Tryz.ntmps78
    go_wp2;go_ret;exact ⟨rfl,HB.out⟩
  ·have ele:decide (n<=4096)=false:=ye hle
   have hr:=HR.out;obtain rfl:R=2:=by rw [hr];simp [hg1,hle]
   clear HR hr hg1 hle;generalize l.length=m at *;generalize mkB s=S at *;go_enter Tryz.func78,Tryz.ntmps78
   go_wp2;go_ret;exact ⟨rfl,HB.out⟩
 ·have eg1:decide (1<=n)=false:=ye hg1
  have hr:=HR.out;obtain rfl:R=2:=by rw [hr];simp [hg1]
  clear HR hr hg1;generalize l.length=m at *;generalize mkB s=S at *;go_enter Tryz.func78,Tryz.ntmps78
  go_wp2;go_ret;exact ⟨rfl,HB.out⟩
theorem vown_k2 {n:Int} {s:List UInt8} {l:List PV} {a1:Option Addr} {cap1:Nat} {w:World} (_m1:(l.length:Int)<=9223372036854775807) :
  Calls Tryz.prog 78 #[.agg #[.int .i64 2,.int .i64 n,.string (mkB s),.slice a1 l.length cap1]] w fun e w'=>e=.returned (.int .i64 (zaM 2 n (zbA (mkB s) l.length)))/\Below w.heap.size w w':=by
 obtain ⟨R,hR⟩:∃R,R=(zaM 2 n (zbA (mkB s) l.length):Int):=⟨_,rfl⟩;rw [<-hR];have HR:=yb hR;have HB:=yb (zai w (.cells #[.int .i64 2,.int .i64 n,.string (mkB s),.slice a1 l.length cap1] 25));clear hR;have HP:=yb (fun W=>zc4 2 n (mkB s) a1 l.length cap1 W _m1);rw [<-HR.out] at HP;clear HR;generalize l.length=m at *;generalize mkB s=S at *;go_enter Tryz.func78,Tryz.ntmps78
 go_wp2_with (go_at_call 120;refine (HP.out _).mono ?_;rintro e w1 ⟨rfl,Qa⟩)
 go_ret;exact ⟨rfl,HB.out.trans (Qa.mono HB.out.size)⟩
theorem vown_k3 {n:Int} {s:List UInt8} {l:List PV} {a1:Option Addr} {cap1:Nat} {w:World} (_m1:(l.length:Int)<=9223372036854775807) :
  Calls Tryz.prog 78 #[.agg #[.int .i64 3,.int .i64 n,.string (mkB s),.slice a1 l.length cap1]] w fun e w'=>e=.returned (.int .i64 (zaM 3 n (zbA (mkB s) l.length)))/\Below w.heap.size w w':=by
 obtain ⟨R,hR⟩:∃R,R=(zaM 3 n (zbA (mkB s) l.length):Int):=⟨_,rfl⟩;rw [<-hR];have HR:=yb hR;have HB:=yb (zai w (.cells #[.int .i64 3,.int .i64 n,.string (mkB s),.slice a1 l.length cap1] 25));clear hR;have HP:=yb (fun W=>zc4 3 n (mkB s) a1 l.length cap1 W _m1);rw [<-HR.out] at HP;clear HR;generalize l.length=m at *;generalize mkB s=S at *;go_enter Tryz.func78,Tryz.ntmps78
 go_wp2_with (go_at_call 120;refine (HP.out _).mono ?_;rintro e w1 ⟨rfl,Qa⟩)
 go_ret;exact ⟨rfl,HB.out.trans (Qa.mono HB.out.size)⟩
theorem vown_k5 {n:Int} {s:List UInt8} {l:List PV} {a1:Option Addr} {cap1:Nat} {w:World} (_m1:(l.length:Int)<=9223372036854775807) :
  Calls Tryz.prog 78 #[.agg #[.int .i64 5,.int .i64 n,.string (mkB s),.slice a1 l.length cap1]] w fun e w'=>e=.returned (.int .i64 (if 127<s.length\/(0:UInt8)∈s then 17 else if n=0/\l=[] then 0 else 2))/\Below w.heap.size w w':=by
 obtain ⟨R,hR⟩:∃R,R=(if 127<s.length\/(0:UInt8)∈s then 17 else if n=0/\l=[] then 0 else 2:Int):=⟨_,rfl⟩;rw [<-hR];have HR:=yb hR;have HB:=yb (zai w (.cells #[.int .i64 5,.int .i64 n,.string (mkB s),.slice a1 l.length cap1] 25));clear hR;have Q1:(mkB s).size=s.length:=zaR s;have HI:=yb (fun W=>zd7 (mkB s) 0 W);rw [show bl (mkB s)=s from rfl,show (0:Int).toNat.toUInt8=0 from rfl] at HI;have Zs:=idx_memS s 0;generalize Lib.indexByte s 0=ix at *
 by_cases h127:127<s.length
 ·have hd1:decide (127<(mkB s).size)=true:=yd (by omega)
  have Qu:decide ((127:Int)<((mkB s).size:Int))=true:=yd (by omega);obtain rfl:R=17:=by rw [HR.out,yg (.inl h127)]
  clear HR HI Zs h127 Q1;generalize mkB s=S at *;generalize l.length=m at *;go_enter Tryz.func78,Tryz.ntmps78
  go_wp2;go_ret;exact ⟨rfl,HB.out⟩
 have hd1:decide (127<(mkB s).size)=false:=ye (by omega);have Qu:decide ((127:Int)<((mkB s).size:Int))=false:=ye (by omega)
 by_cases hz:(0:UInt8)∈s
 ·rw [yd hz] at Zs
  obtain rfl:R=17:=by rw [HR.out,yg (.inr hz)]
  clear HR h127 Q1 hz;generalize mkB s=S at *;generalize l.length=m at *;go_enter Tryz.func78,Tryz.ntmps78
  go_wp2_with (go_at_call 121;refine (HI.out _).mono ?_;rintro e w1 ⟨rfl,rfl⟩)
  go_ret;exact ⟨rfl,HB.out⟩
 rw [ye hz] at Zs;have hr:=HR.out;rw [yh (by rintro (h|h);exact h127 h;exact hz h)] at hr;clear HR h127 hz Q1;have HR:=yb hr;clear hr
 by_cases hn0:n=0
 ·have en0:(n==0)=true:=by rw [beq_iff_eq];exact hn0
  have en0':(n != 0)=false:=by simp only [bne,en0,Bool.not_true]
  by_cases hm0:l=[]
  ·have em0:(l.length==0)=true:=by rw [hm0];rfl
   have em0':((l.length:Int)==0)=true:=by rw [hm0];rfl
   have hr:=HR.out;obtain rfl:R=0:=by rw [hr];simp [hn0,hm0]
   clear HR hr hn0 hm0;generalize l.length=m at *;generalize mkB s=S at *;go_enter Tryz.func78,Tryz.ntmps78
   go_wp2_with (go_at_call 121;refine (HI.out _).mono ?_;rintro e w1 ⟨rfl,rfl⟩)
   go_ret;exact ⟨rfl,HB.out⟩
  ·have em0:(l.length==0)=false:=by rw [yf];exact fun e=>hm0 (List.eq_nil_of_length_eq_zero e)
   have em0':((l.length:Int)==0)=false:=by rw [yf];exact fun e=>hm0 (List.eq_nil_of_length_eq_zero (by omega))
   have hr:=HR.out;obtain rfl:R=2:=by rw [hr];simp [hn0,hm0]
   clear HR hr hn0 hm0;generalize l.length=m at *;generalize mkB s=S at *;go_enter Tryz.func78,Tryz.ntmps78
   go_wp2_with (go_at_call 121;refine (HI.out _).mono ?_;rintro e w1 ⟨rfl,rfl⟩)
   go_ret;exact ⟨rfl,HB.out⟩
 ·have en0:(n==0)=false:=by rw [yf];exact hn0
  have en0':(n != 0)=true:=by simp only [bne,en0,yj]
  have hr:=HR.out;obtain rfl:R=2:=by rw [hr];simp [hn0]
  clear HR hr hn0;generalize l.length=m at *;generalize mkB s=S at *;go_enter Tryz.func78,Tryz.ntmps78
  go_wp2_with (go_at_call 121;refine (HI.out _).mono ?_;rintro e w1 ⟨rfl,rfl⟩)
  go_ret;exact ⟨rfl,HB.out⟩
theorem vown_k7 {n:Int} {s:List UInt8} {l:List PV} {a1:Option Addr} {cap1:Nat} {w:World} (hv:IsV w anyF (.mk 7 n s l) (.slice a1 l.length cap1)) :
  Calls Tryz.prog 78 #[.agg #[.int .i64 7,.int .i64 n,.string (mkB s),.slice a1 l.length cap1]] w fun e w'=>e=.returned (.int .i64 (if n=0/\s=[] then zdT l else 2))/\Below w.heap.size w w':=by
 obtain ⟨R,hR⟩:∃R,R=(if n=0/\s=[] then zdT l else 2:Int):=⟨_,rfl⟩;rw [<-hR];have HR:=yb hR;have HB:=yb (zai w (.cells #[.int .i64 7,.int .i64 n,.string (mkB s),.slice a1 l.length cap1] 25));have HD:=yb (fun (W:World) (h:Below w.heap.size w W)=>vdict_any (hv.below h));clear hR hv;simp only [pvA,PV.kind,PV.n,PV.s,PV.l] at HD;generalize hdc:zdT l=dc at *;clear hdc
 by_cases hn0:n=0
 ·have en0:(n==0)=true:=by rw [beq_iff_eq];exact hn0
  have en0':(n != 0)=false:=by simp only [bne,en0,Bool.not_true]
  by_cases hs0:s=[]
  ·have es0:(mkB s).toList=[]:=by rw [zaj];exact hs0
   have es0b:((mkB s).toList==[])=true:=by rw [beq_iff_eq];exact es0
   have es0c:((mkB s).toList != [])=false:=by simp only [bne,es0b,Bool.not_true]
   have hr:=HR.out;obtain rfl:R=dc:=by rw [hr];simp [hn0,hs0]
   clear HR hr hn0 hs0;generalize l.length=m at *;generalize mkB s=S at *;go_enter Tryz.func78,Tryz.ntmps78
   go_wp2_with (go_at_call 122;refine (HD.out _ HB.out).mono ?_;rintro e w1 ⟨rfl,Qa⟩)
   go_ret
   first|exact ⟨rfl,HB.out⟩|exact ⟨rfl,HB.out.trans (Qa.mono HB.out.size)⟩
  ·have es0b:((mkB s).toList==[])=false:=by rw [yf,zaj];exact hs0
   have es0c:((mkB s).toList != [])=true:=by simp only [bne,es0b,yj]
   have hr:=HR.out;obtain rfl:R=2:=by rw [hr];simp [hn0,hs0]
   clear HR hr hn0 hs0;generalize l.length=m at *;generalize mkB s=S at *;go_enter Tryz.func78,Tryz.ntmps78
   go_wp2_with (go_at_call 122;refine (HD.out _ HB.out).mono ?_;rintro e w1 ⟨rfl,Qa⟩)
   go_ret
   first|exact ⟨rfl,HB.out⟩|exact ⟨rfl,HB.out.trans (Qa.mono HB.out.size)⟩
 ·have en0:(n==0)=false:=by rw [yf];exact hn0
  have en0':(n != 0)=true:=by simp only [bne,en0,yj]
  have hr:=HR.out;obtain rfl:R=2:=by rw [hr];simp [hn0]
  clear HR hr hn0;generalize l.length=m at *;generalize mkB s=S at *;go_enter Tryz.func78,Tryz.ntmps78
  go_wp2_with (go_at_call 122;refine (HD.out _ HB.out).mono ?_;rintro e w1 ⟨rfl,Qa⟩)
  go_ret
  first|exact ⟨rfl,HB.out⟩|exact ⟨rfl,HB.out.trans (Qa.mono HB.out.size)⟩
theorem vown_kx {k n:Int} {S:ByteArray} {m:Nat} {a1:Option Addr} {cap1:Nat} {w:World} (hk:k≠0/\k≠1/\k≠2/\k≠3/\k≠4/\k≠5/\k≠6/\k≠7/\k≠8) :
  Calls Tryz.prog 78 #[.agg #[.int .i64 k,.int .i64 n,.string S,.slice a1 m cap1]] w fun e w'=>e=.returned (.int .i64 2)/\Below w.heap.size w w':=by
 obtain ⟨h0,h1,h2,h3,h4,h5,h6,h7,h8⟩:=hk;have e0:(k==0)=false:=by rw [yf];exact h0
 have e1:(k==1)=false:=by rw [yf];exact h1
 have e2:(k==2)=false:=by rw [yf];exact h2
 have e3:(k==3)=false:=by rw [yf];exact h3
 have e4:(k==4)=false:=by rw [yf];exact h4
 have e5:(k==5)=false:=by rw [yf];exact h5
 have e6:(k==6)=false:=by rw [yf];exact h6
 have e7:(k==7)=false:=by rw [yf];exact h7
 have e8:(k==8)=false:=by rw [yf];exact h8
 have HB:=yb (zai w (.cells #[.int .i64 k,.int .i64 n,.string S,.slice a1 m cap1] 25));clear h0 h1 h2 h3 h4 h5 h6 h7 h8;go_enter Tryz.func78,Tryz.ntmps78
 go_wp2;go_ret;exact ⟨rfl,HB.out⟩
theorem bare_mkB (s:List UInt8) (l:List PV):zbA (mkB s) l.length=decide (s=[]/\l=[]):=by
 show (decide (s=[])&&decide (l.length=0))=_
 cases s<;>cases l<;>simp
theorem zfy {k n:Int} {s:List UInt8} {l:List PV}:zaM k n (zbA (mkB s) l.length)=if s=[]/\l=[] then zaM k n true else 2:=by
 rw [bare_mkB]
 by_cases h:s=[]/\l=[]
 ·rw [yg h,yd h]
 ·rw [yh h,ye h];unfold zaM;rw [yh (by simp)]
theorem vown_any {v:PV} {sl:Value} {w:World} (hv:IsV w anyF v sl) :
  Calls Tryz.prog 78 #[pvA v sl] w fun e w'=>e=.returned (.int .i64 (ownC v))/\Below w.heap.size w w':=by
 obtain ⟨a1,cap1,e1,g1,g2,-⟩:=hv.len;subst e1;have m1:(v.l.length:Int)<=9223372036854775807:=by unfold maxLen at g2;omega
 obtain ⟨k,n,s,l⟩:=v;simp only [pvA,PV.kind,PV.n,PV.s,PV.l] at m1 g1 hv |-;simp only [ownC]
 by_cases h0:k=0
 ·subst h0;rw [yg rfl];exact vown_k0 m1
 rw [yh h0]
 by_cases h1:k=1
 ·subst h1;rw [yg rfl];exact vown_k1 m1
 rw [yh h1]
 by_cases h2:k=2
 ·subst h2;rw [yg (.inl rfl),<-zfy];exact vown_k2 m1
 by_cases h3:k=3
 ·subst h3;rw [yg (.inr rfl),<-zfy];exact vown_k3 m1
 rw [yh (by omega)]
 by_cases h4:k=4
 ·subst h4;rw [yg rfl];exact vown_k4 m1
 rw [yh h4]
 by_cases h5:k=5
 ·subst h5;rw [yg rfl];exact vown_k5 m1
 rw [yh h5]
 by_cases h6:k=6
 ·subst h6;rw [yg rfl];exact vown_k6 m1
 rw [yh h6]
 by_cases h7:k=7
 ·subst h7
  rw [yg rfl]
  have e:(if n≠0\/s≠[]\/l.length % 2≠0 then 2 else if zcT l=false then 2 else if ascV (twoV l)=true then 0 else 16:Int)=if n=0/\s=[] then zdT l else 2:=by
   unfold zdT
   by_cases hn:n=0
   ·by_cases hs:s=[]
    ·by_cases hl:l.length % 2=0
     ·rw [yh (show ¬(n≠0\/s≠[]\/l.length % 2≠0) from by simp [hn,hs,hl]),yg (show n=0/\s=[] from ⟨hn,hs⟩),yh (show ¬l.length % 2≠0 from by simp [hl])]
     ·rw [yg (.inr (.inr hl)),yg (show n=0/\s=[] from ⟨hn,hs⟩),yg hl]
    ·rw [yg (.inr (.inl hs)),yh (fun h=>hs h.2)]
   ·rw [yg (.inl hn),yh (fun h=>hn h.1)]
  rw [e];exact vown_k7 hv
 rw [yh h7]
 by_cases h8:k=8
 ·subst h8;rw [yg rfl];exact vown_k8 m1
 rw [yh h8];exact vown_kx ⟨h0,h1,by omega,by omega,h4,h5,h6,h7,h8⟩
theorem ext_sg:∀(k:Nat),k<16->(⟨#[48,49,50,51,52,53,54,55,56,57,97,98,99,100,101,102]⟩:ByteArray).extract k (k+1)=mkB [hexG k]:=by
 have:∀d:Fin 16,(⟨#[48,49,50,51,52,53,54,55,56,57,97,98,99,100,101,102]⟩:ByteArray).extract d.1 (d.1+1)=mkB [hexG d.1]:=by decide
 exact fun k h=>this ⟨k,h⟩
theorem zbM (a b:List UInt8):mkB a++mkB b=mkB (a++b):=ByteArray.mk_append_mk a b
theorem rhex13 (c:UInt8) (w:World):Calls Tryz.prog 80 #[.int .u8 c.toNat] w fun e w'=>e=.returned (.string (mkB (hexB c)))/\∃q,w'=w.drewN q:=by
 have hx:mkB (hexB c)=(⟨#[48,49,50,51,52,53,54,55,56,57,97,98,99,100,101,102]⟩:ByteArray).extract (c.toNat / 16) (c.toNat / 16+1)++(⟨#[48,49,50,51,52,53,54,55,56,57,97,98,99,100,101,102]⟩:ByteArray).extract (c.toNat % 16) (c.toNat % 16+1):=by
  have h:=c.toNat_lt;rw [ext_sg _ (by omega),ext_sg _ (by omega),zbM];rfl
 have hc:=c.toNat_lt;generalize mkB (hexB c)=R at *;have HX:=yb hx;clear hx;generalize c.toNat=n at *;have h1:n / 16<16:=by omega
 have h2:n % 16<16:=by omega
 have h3:(n:Int) / 16<16:=by omega
 have h4:(n:Int) % 16<16:=by omega
 have h5:(0:Int)<=(n:Int) / 16:=by omega
 have h6:(0:Int)<=(n:Int) % 16:=by omega
 go_enter Tryz.func80,Tryz.ntmps80
 go_wp2
 go_quiet (fail)
 go_wp2;go_ret;exact ⟨by rw [HX.out];rfl,_,rfl⟩
def zeO (s:List UInt8):Bool:=!(decide (127<s.length)||decide ((0:UInt8)∈s))
theorem rtext11 (s:List UInt8) (w:World) (hl:s.length<=288230376151711744) :
  Calls Tryz.prog 81 #[.string (mkB s)] w fun e w'=>e=.returned (.bool (zeO s))/\w=w':=by
 have Q1:(mkB s).size=s.length:=zaR s;have ZS:((mkB s).size:Int)=s.length:=by rw [Q1]
 obtain ⟨R,hR⟩:∃R,R=zeO s:=⟨_,rfl⟩;rw [<-hR];unfold zeO at hR;have HR:=yb hR;clear hR;go_enter Tryz.func81,Tryz.ntmps81
 go_wp2
 go_loopw [3] (fun vk wr=>∃k:Nat,vk=.int .i64 k/\k<=s.length/\wr=w/\Hid ((0:UInt8)∉s.take k)) (fun vk _=>s.length-(intOf vk).toNat)
 case atStart=>exact ⟨0,rfl,Nat.zero_le _,rfl,yb (by simp)⟩
 case round =>
  obtain ⟨k,rfl,hk,QJ,HG⟩:=hrel;rw [QJ];clear QJ
  by_cases q1:k<s.length
  case neg =>
   have hd1:decide (k<s.length)=false:=ye q1;have Qu:decide ((k:Int)<(s.length:Int))=false:=ye (by omega);have QR:¬(k:Int)<(s.length:Int):=by omega
   have hg:=HG.out;rw [List.take_of_length_le (by omega)] at hg;have hr:=HR.out;rw [ye hg,Bool.or_false] at hr
   by_cases h127:127<s.length
   ·have b1:decide (s.length<=127)=false:=ye (by omega)
    have b2:decide ((s.length:Int)<=127)=false:=ye (by omega);rw [yd h127] at hr;obtain rfl:R=false:=hr;clear HR HG hg;go_wp2;go_ret;exact ⟨rfl,rfl⟩
   ·have b1:decide (s.length<=127)=true:=yd (by omega)
    have b2:decide ((s.length:Int)<=127)=true:=yd (by omega);rw [ye h127] at hr;obtain rfl:R=true:=hr;clear HR HG hg;go_wp2;go_ret;exact ⟨rfl,rfl⟩
  have hd1:decide (k<s.length)=true:=yd q1;have Qu:decide ((k:Int)<(s.length:Int))=true:=yd (by omega);have Q3:(0:Int)<=(k:Int):=by omega
  have Z3:(k:Int)<(s.length:Int):=by omega
  have Q0:k<(mkB s).size:=by omega
  obtain ⟨c,hc⟩:∃c,c=s[k]'q1:=⟨_,rfl⟩;have Q4:s[k]?=some c:=by rw [hc];exact List.getElem?_eq_getElem q1
  obtain ⟨n,hn⟩:∃n,n=c.toNat:=⟨_,rfl⟩;have Z4:((mkB s)[k]'Q0).toNat=n:=by rw [hn,hc];exact zfJ q1 Q0
  by_cases h0:n=0
  ·have b1:(n==0)=true:=by rw [h0];rfl
   have b2:((n:Int)==0)=true:=by rw [h0];rfl
   have ZF:c=0:=UInt8.toNat_inj.1 (by rw [<-hn,h0];rfl);have hr:=HR.out;rw [yd (show (0:UInt8)∈s by rw [<-ZF];exact List.mem_of_getElem? Q4),Bool.or_true] at hr;obtain rfl:R=false:=hr;clear HR HG ZF Q4 hc hn h0;go_wp2;go_ret;exact ⟨rfl,rfl⟩
  ·have b1:(n==0)=false:=by rw [yf];exact h0
   have b2:((n:Int)==0)=false:=by rw [yf];omega
   have QD:=yb (show (0:UInt8)∉s.take (k+1) by
    rw [List.take_add_one,Q4];intro hm;rcases List.mem_append.1 hm with hm|hm
    ·exact HG.out hm
    ·simp at hm
     exact h0 (by rw [hn,<-hm];rfl))
   clear HG Q4 hc hn h0;go_wp2
   go_roundw
   case rel=>exact ⟨k+1,by go_num,by omega,trivial,QD⟩
   case measure=>simp [intOf];omega
theorem rdict_any {v:PV} {sl:Value} {w:World} (hv:IsV w anyF v sl) (hn:v.n=0) (hs:v.s=[]) :
  Calls Tryz.prog 133 #[pvA v sl] w fun e w'=>e=.returned (.int .i64 (zdT v.l))/\Below w.heap.size w w':=by
 obtain ⟨a1,cap1,e1,g1,g2,g3⟩:=hv.len;subst e1;have HA:=yb hv;have m1:(v.l.length:Int)<=9223372036854775807:=by unfold maxLen at g2;omega
 unfold pvA;clear hv g2 g3;obtain ⟨la,Qg⟩:∃la,la=v.l:=⟨_,rfl⟩;have Qj:=yb Qg;rw [<-Qg] at m1 g1 HA |-;clear Qg;obtain ⟨R,hR⟩:∃R,R=zdT la:=⟨_,rfl⟩;rw [<-hR];unfold zdT at hR;have HR:=yb hR;clear hR;rw [hn,hs,show mkB []=⟨#[]⟩ from rfl];clear hn hs;generalize v.kind=k0 at *;go_enter Tryz.func133,Tryz.ntmps133
 obtain ⟨B,hB⟩:∃B,B=w.heap.size:=⟨_,rfl⟩;have Qs:=yb (zac (w:=w) (b:=B) (.cells #[.int .i64 k0,.int .i64 0,.string ⟨#[]⟩,.slice a1 la.length cap1] 25) hB);have HW:=yb (zai w (.cells #[.int .i64 k0,.int .i64 0,.string ⟨#[]⟩,.slice a1 la.length cap1] 25))
 go_upto_region 1 with fail
 rw [<-hB];clear hB;generalize w.alloc _=W1 at *;obtain ⟨⟨c0,c1,c2,c3⟩,-⟩:=zad Qs.out
 by_cases he:la.length % 2=0
 case neg =>
  have QY:((la.length:Int) % 2==1)=true:=by rw [beq_iff_eq];omega
  have QC:((la.length:Int) % 2==0)=false:=by rw [yf];omega
  have QZ:((la.length:Int) % 2 != 0)=true:=by simp only [bne,QC,yj]
  have hr:=HR.out;rw [yg he] at hr;subst hr;clear HR HA he;go_wp2;go_ret;exact ⟨rfl,HW.out⟩
 have QY:((la.length:Int) % 2==1)=false:=by rw [yf];omega
 have QC:((la.length:Int) % 2==0)=true:=by rw [beq_iff_eq];omega
 have QZ:((la.length:Int) % 2 != 0)=false:=by simp only [bne,QC,Bool.not_true]
 have HE:=yb he;have hr:=HR.out;rw [yh (by omega)] at hr;clear HR;have HR:=yb hr;clear hr he;go_wp2;clear QY QC QZ
 go_loopw [3] (fun vk wr=>∃j K:Nat,vk=.int .i64 (K:Int)/\Hid (K=j*2)/\K<=la.length/\wr=W1/\Hid (∀i x,i<j->la[i*2]?=some x->x.kind=5)) (fun vk _=>la.length+2-(intOf vk).toNat)
 case atStart=>exact ⟨0,0,rfl,rfl,by omega,rfl,yb fun i x h=>absurd h (Nat.not_lt_zero _)⟩
 case round =>
  obtain ⟨j,k,rfl,HK,hj,QJ,HG⟩:=hrel;rw [QJ];clear QJ;have QO:k<la.length->k+2<=la.length:=fun h=>by have h1:=HK.out;have h2:=HE.out;omega
  by_cases q1:k<la.length
  case pos =>
   obtain ⟨x,hx⟩:∃x,la[k]?=some x:=⟨_,List.getElem?_eq_getElem q1⟩;obtain ⟨-,-,-,b1,o1,rfl,-,-,Qb⟩:=(HA.out.below HW.out).at (by omega);rw [<-Qj.out] at Qb;obtain ⟨sx,-,x0,-⟩:=Qb k x hx;have Qt:(0:Int)<=(k:Int):=by omega
   have QI:(k:Int)<(la.length:Int):=by omega
   have hd1:decide (k<la.length)=true:=yd q1;have Qu:decide ((k:Int)<(la.length:Int))=true:=yd QI;have Q0:=QO q1;clear QO
   by_cases h5:x.kind=5
   ·rw [h5] at x0
    have QD:=yb (show ∀i y,i<j+1->la[i*2]?=some y->y.kind=5 from fun i y hi hy=>by
     by_cases e:i=j
     ·subst e
      have h1:=HK.out;rw [<-h1,hx] at hy
      cases hy
      exact h5
     ·exact HG.out i y (by omega) hy)
    clear Qb hx h5 HG;go_wp2
    go_roundw
    case rel=>exact ⟨j+1,k+2,by go_num,by have:=HK.out;show k+2=(j+1)*2;omega,Q0,trivial,QD⟩
    case measure=>simp [intOf];omega
   ·have Zm:(x.kind==5)=false:=by rw [yf];exact h5
    have ZO:(x.kind != 5)=true:=by simp only [bne,Zm,yj]
    have Qy:zcT la=false:=by
     cases hq:zcT la with
     | false=>rfl
     | true=>exact absurd (zg8 hq (k:=j) (by rw [<-HK.out];exact hx)) h5
    have hr:=HR.out;rw [yg Qy] at hr;subst hr;generalize x.kind=xk at *;clear Qb hx h5 HG HR HA Qy HK HE;go_wp2;go_ret;exact ⟨rfl,HW.out⟩
  have hd1:decide (k<la.length)=false:=ye q1;have Qu:decide ((k:Int)<(la.length:Int))=false:=ye (by omega);have QR:¬(k:Int)<(la.length:Int):=by omega
  have Qy:zcT la=true:=zhq la fun i x hx=>HG.out i x (by
   have h1:=HK.out;have h2:=(List.getElem?_eq_some_iff.1 hx).1;omega) hx
  have hr:=HR.out;rw [yh (by rw [Qy];decide)] at hr;clear HR;have HR:=yb hr;clear hr HK hj QO HG Qy;go_wp2;clear hd1 Qu QR q1;clear c0 c1 c2 c3
  go_loopw [4] (fun vk wr=>∃j m K:Nat,vk=.int .i64 (K:Int)/\Hid (m=j*2)/\m+2=K/\m<=la.length/\Hid (Below W1.heap.size W1 wr)/\Hid (∀i x y,i<j->la[i*2]?=some x->la[i*2+2]?=some y->sLt x.s y.s=true)) (fun vk _=>la.length+4-(intOf vk).toNat)
  case atStart=>exact ⟨0,0,2,by go_num,rfl,rfl,by omega,Below.refl _ _,yb fun i x y h=>absurd h (Nat.not_lt_zero _)⟩
  case round =>
   obtain ⟨j,m,K,rfl,HK,Qn,Zl,Qh,HG⟩:=hrel;have QE:=yb (HW.out.trans (Qh.out.mono HW.out.size));obtain ⟨⟨c0,c1,c2,c3⟩,-⟩:=zad (zab Qh.out Qs.out)
   by_cases q2:K<la.length
   case neg =>
    have Zn:decide (K<la.length)=false:=ye q2;have hd1:decide ((K:Int)<(la.length:Int))=false:=ye (by omega);have QR:¬(K:Int)<(la.length:Int):=by omega
    have Qr:ascV (twoV la)=true:=asc_ofS la fun i x y hx hy=>HG.out i x y (by
     have h1:=HK.out;have h2:=(List.getElem?_eq_some_iff.1 hy).1;omega) hx hy
    have hr:=HR.out;rw [yg Qr] at hr;subst hr;clear HG HA HR Qr HK HE Qn;go_wp2;go_ret;exact ⟨rfl,QE.out⟩
   obtain ⟨x,hx⟩:∃x,la[m]?=some x:=⟨_,List.getElem?_eq_getElem (by omega)⟩;obtain ⟨y,hy⟩:∃y,la[K]?=some y:=⟨_,List.getElem?_eq_getElem q2⟩;have ZP:K+2<=la.length:=by have h1:=HK.out;have h2:=HE.out;omega
   obtain ⟨-,-,-,b1,o1,rfl,-,-,Qb⟩:=(HA.out.below QE.out).at (by omega);rw [<-Qj.out] at Qb;obtain ⟨sx,-,-,-,x2,-⟩:=Qb m x hx;obtain ⟨sy,-,-,-,y2,-⟩:=Qb K y hy;have l1:Op.bytesLess (mkB x.s).toList (mkB y.s).toList=sLt x.s y.s:=by rw [zaj,zaj,zce]
   have l2:Op.bytesLess (mkB y.s).toList (mkB x.s).toList=sLt y.s x.s:=by rw [zaj,zaj,zce]
   have l3:((mkB y.s).toList==(mkB x.s).toList)=decide (y.s=x.s):=by rw [zaj x.s];exact eqBs _ _
   have l4:((mkB x.s).toList==(mkB y.s).toList)=decide (x.s=y.s):=by rw [zaj y.s];exact eqBs _ _
   have u3:=zaI.cell c3;have e2:=zaI.cell x2;have r2:=zaI.cell y2;have Zn:decide (K<la.length)=true:=yd q2;have hd1:decide ((K:Int)<(la.length:Int))=true:=yd (by omega);have Qt:(0:Int)<=(m:Int):=by omega
   have QI:(m:Int)<(la.length:Int):=by omega
   have Zo:(0:Int)<=(K:Int):=by omega
   have Zp:(K:Int)<(la.length:Int):=by omega
   have ZQ:(K:Int)-2=(m:Int):=by omega
   have ZR:IntKind.i64.wrap ((K:Int)-2)=(m:Int):=by rw [IntWalk.i64_in _ (by omega)];omega
   have Zq:IntKind.i64.wrap (m:Int)=(m:Int):=IntWalk.i64_in _ (by omega)
   by_cases hlt:sLt x.s y.s=true
   ·rw [hlt] at l1
    rw [zfb _ _ hlt] at l2;have Qo:x.s≠y.s:=fun e=>by rw [e,zdA] at hlt;cases hlt
    rw [ye (fun e=>Qo e.symm)] at l3;rw [ye Qo] at l4
    have QD:=yb (show ∀i u z,i<j+1->la[i*2]?=some u->la[i*2+2]?=some z->sLt u.s z.s=true from fun i u z hi hu hz=>by
     by_cases e:i=j
     ·subst e
      have h1:=HK.out;rw [<-h1,hx] at hu;rw [<-h1,Qn,hy] at hz
      cases hu
      cases hz
      exact hlt
     ·exact HG.out i u z (by omega) hu hz)
    clear Qb hx hy HG HA hlt x2 y2 Qo HR;generalize mkB x.s=sX at *;generalize mkB y.s=sY at *;have Zr:=yb Qn;clear Qn;go_wp2;refine zaX (by kernel_rfl) (by kernel_rfl) ?_
    repeat (go_big_quiet_step (fail))
    refine wpQuiet_nil ?_;rintro _ ⟨⟨w4,Qf⟩,rfl⟩;have Qk:=yo Qh Qf;clear u3 e2 r2 c0 c1 c2 c3 Qf l1 l2 l3 l4;go_wp2;exact ⟨⟨j+1,K,K+2,by go_num,by have h1:=HK.out;have h2:=Zr.out;show K=(j+1)*2;omega,rfl,by omega,Qk,QD⟩,by simp [intOf];omega⟩
   ·have QF:sLt x.s y.s=false:=by simpa using hlt
    rw [QF] at l1
    have Qr:ascV (twoV la)=false:=by
     cases hq:ascV (twoV la) with
     | false=>rfl
     | true=>exact absurd (asc_getS hq HE.out (k:=j) (by rw [<-HK.out];exact hx) (by rw [<-HK.out,Qn];exact hy)) hlt
    have hr:=HR.out;rw [yh (by rw [Qr];decide)] at hr;subst hr
    by_cases hgt:sLt y.s x.s=true
    ·rw [hgt] at l2
     have Qo:x.s≠y.s:=fun e=>by rw [e,zdA] at hgt;cases hgt
     rw [ye (fun e=>Qo e.symm)] at l3;rw [ye Qo] at l4;clear Qb hx hy HG HA hlt x2 y2 Qo HR Qr QF hgt HK HE;generalize mkB x.s=sX at *;generalize mkB y.s=sY at *;clear Qn;go_wp2;refine zaX (by kernel_rfl) (by kernel_rfl) ?_
     repeat (go_big_quiet_step (fail))
     refine wpQuiet_nil ?_;rintro _ ⟨⟨w4,Qf⟩,rfl⟩;have Qk:=yo QE Qf;clear u3 e2 r2 c0 c1 c2 c3 Qf l1 l2 l3 l4;go_wp2;go_ret;exact ⟨rfl,Qk.out⟩
    ·have QP:sLt y.s x.s=false:=by simpa using hgt
     rw [QP] at l2
     have QQ:x.s=y.s:=by
      by_cases e:x.s=y.s
      ·exact e
      ·exact absurd (zcM _ _ QF e) (by rw [QP];decide)
     rw [yd QQ.symm] at l3;rw [yd QQ] at l4;clear Qb hx hy HG HA hlt x2 y2 HR Qr QF hgt QP HK HE QQ;generalize mkB x.s=sX at *;generalize mkB y.s=sY at *;clear Qn;go_wp2;refine zaX (by kernel_rfl) (by kernel_rfl) ?_
     repeat (go_big_quiet_step (fail))
     refine wpQuiet_nil ?_;rintro _ ⟨⟨w4,Qf⟩,rfl⟩;have Qk:=yo QE Qf;clear u3 e2 r2 c0 c1 c2 c3 Qf l1 l2 l3 l4;go_wp2;go_ret;exact ⟨rfl,Qk.out⟩
mutual
def fewV:PV->Int->Int
 | .mk _ _ _ l,n=>fewL l (n-1)
def fewL:List PV->Int->Int
 | [],n=>n
 | x::l,n=>if n<0 then n else fewL l (fewV x n)
end
mutual
def nodeV:PV->Nat
 | .mk _ _ _ l=>1+zgH l
def zgH:List PV->Nat
 | []=>0
 | x::l=>nodeV x+zgH l
end
theorem zhT (l:List PV) {n:Int} (h:n<0):fewL l n=n:=by cases l with
 | nil=>rfl
 | cons x l=>simp only [fewL];rw [yg h]
mutual
theorem zga:∀(v:PV) (n:Int),0<=n->-1<=fewV v n/\fewV v n<=n/\(0<=fewV v n->fewV v n=n-nodeV v)
 | .mk k m s l,n,h=>by
  simp only [fewV,nodeV]
  by_cases h1:n-1<0
  ·rw [zhT l h1];omega
  ·have:=fewL_bd l (n-1) (by omega)
   omega
theorem fewL_bd:∀(l:List PV) (n:Int),0<=n->-1<=fewL l n/\fewL l n<=n/\(0<=fewL l n->fewL l n=n-zgH l)
 | [],n,h=>by simp only [fewL,zgH];omega
 | x::l,n,h=>by
  simp only [fewL,zgH];rw [yh (by omega)];have h1:=zga x n h
  by_cases h2:fewV x n<0
  ·rw [zhT l h2];omega
  ·have:=fewL_bd l (fewV x n) (by omega)
   omega
end
theorem fewV_is (v:PV) (n:Int):fewV v n=fewL v.l (n-1):=by obtain ⟨_,_,_,_⟩:=v;rfl
theorem few_any:∀(N:Nat) (v:PV) (sl:Value) (w:World) (n:Int),SizeOf.sizeOf v<=N->0<=n->n<=1000->IsV w anyF v sl ->
  Calls Tryz.prog 19 #[pvA v sl,.int .i64 n] w fun e w'=>e=.returned (.int .i64 (fewV v n))/\Below w.heap.size w w':=by
 intro N
 induction N with
 | zero=>intro v sl w n h;obtain ⟨_,_,_,_⟩:=v;simp at h
 | succ N ih =>
 intro v sl w n hN h0 h1 hv;obtain ⟨a1,cap1,e1,g1,g2,g3⟩:=hv.len;subst e1;have HA:=yb hv;have Qp:=yb ih;have HN:=yb hN;have Qm:=yb (fun (k:Nat) (x:PV) (h:v.l[k]?=some x)=>zb3 h);have m1:(v.l.length:Int)<=9223372036854775807:=by unfold maxLen at g2;omega
 obtain ⟨R,hR⟩:∃R,R=fewV v n:=⟨_,rfl⟩;rw [<-hR];rw [fewV_is] at hR;unfold pvA;clear ih hN hv g2 g3;obtain ⟨la,Qg⟩:∃la,la=v.l:=⟨_,rfl⟩;have Qj:=yb Qg;rw [<-Qg] at hR HA Qm m1 g1 |-;clear Qg;have HR:=yb hR;clear hR;generalize v.kind=k0 at *;generalize v.n=n0 at *;generalize mkB v.s=s0 at *;have Z5:IntKind.i64.wrap (n-1)=n-1:=IntWalk.i64_in _ (by omega);go_enter Tryz.func19,Tryz.ntmps19
 obtain ⟨B,hB⟩:∃B,B=w.heap.size:=⟨_,rfl⟩;have Qs:=yb (zac (w:=w) (b:=B) (.cells #[.int .i64 k0,.int .i64 n0,.string s0,.slice a1 la.length cap1] 25) hB);have HW:=yb (zai w (.cells #[.int .i64 k0,.int .i64 n0,.string s0,.slice a1 la.length cap1] 25))
 go_upto_region 1 with fail
 rw [<-hB];clear hB;generalize w.alloc _=W1 at *;go_wp2
 go_loopw [1,5] (fun vm vk wr=>∃(k:Nat) (m:Int),vk=.int .i64 k/\vm=.int .i64 m/\-1<=m/\m<=1000/\k<=la.length/\Hid (Below W1.heap.size W1 wr)/\Hid (R=fewL (la.drop k) m)) (fun _ vk _=>la.length-(intOf vk).toNat)
 case atStart=>exact ⟨0,n-1,rfl,rfl,by omega,by omega,Nat.zero_le _,Below.refl _ _,HR⟩
 case round =>
  obtain ⟨k,m,rfl,rfl,hm0,ZT,hk,Qe,HV⟩:=hrel;have Qh:=yb (HW.out.trans (Qe.out.mono HW.out.size));obtain ⟨⟨c0,c1,c2,c3⟩,-⟩:=zad (zab Qe.out Qs.out)
  by_cases q1:k<la.length
  case neg =>
   have Qt:k=la.length:=by omega
   subst Qt;have hv:=HV.out;rw [List.drop_length] at hv;obtain rfl:R=m:=hv;have hd1:decide (la.length<la.length)=false:=by simp
   clear HV HA Qp HN Qm HR;go_wp2;go_ret;exact ⟨rfl,Qh.out⟩
  have hd1:decide (k<la.length)=true:=yd q1;have Qu:decide ((k:Int)<(la.length:Int))=true:=yd (by omega)
  by_cases q2:0<=m
  case neg =>
   have ZU:decide (0<=m)=false:=ye q2;have hv:=HV.out;rw [zhT _ (by omega)] at hv;obtain rfl:R=m:=hv;clear HV HA Qp HN Qm HR;go_wp2;go_ret;exact ⟨rfl,Qh.out⟩
  have ZU:decide (0<=m)=true:=yd q2;obtain ⟨x,hx⟩:∃x,la[k]?=some x:=⟨_,List.getElem?_eq_getElem q1⟩;obtain ⟨-,-,-,b1,o1,rfl,-,-,Qb⟩:=(HA.out.below Qh.out).at (by omega);rw [<-Qj.out] at Qb;obtain ⟨sx,Qw,x0,x1,x2,x3⟩:=Qb k x hx;have hlt:SizeOf.sizeOf x<SizeOf.sizeOf v:=Qm.out k x hx;have hN:=HN.out;have ZG:=zga x m q2
  have hv:R=fewL (la.drop (k+1)) (fewV x m):=by
   rw [HV.out,List.drop_eq_getElem_cons q1];have he:la[k]=x:=by rw [List.getElem?_eq_getElem q1] at hx;exact Option.some.inj hx
   rw [he];simp only [fewL];rw [yh (by omega)]
  have Qx:=yb hv;obtain ⟨sa',sc',rfl,-,-,-⟩:=Qw.len;have Qc:=yb (Qp.out x _ wr m (by omega) q2 ZT Qw);simp only [pvA] at Qc;have Qa:-1<=fewV x m:=ZG.1;have ZV:fewV x m<=1000:=by omega
  clear hv Qw hlt hN Qb hx HA Qp HV Qm Qj HN ZG HR;generalize fewV x m=m2 at *;have Qt:(0:Int)<=(k:Int):=by omega
  have QI:(k:Int)<(la.length:Int):=by omega
  generalize x.kind=xk at *;generalize x.n=xn at *;generalize mkB x.s=xs at *;generalize x.l.length=xl at *;go_wp2_with fail
  refine Qc.out.mono ?_;rintro e w5 ⟨rfl,QX⟩;have QN:=yo Qe QX;clear QX x0 x1 x2 x3 Qc c0 c1 c2 c3;go_wp2
  go_roundw
  case rel=>exact ⟨k+1,m2,by go_num,rfl,Qa,ZV,by omega,QN,Qx⟩
  case measure=>simp [intOf];omega
end Go.Proofs.YtcmoehknppjkiaaGreatDoor
namespace Go.Proofs.YtcmoehknppjkiaaGreatDoor
theorem zdQ (k n:Int) (b:Bool):(zaT k n b).1.length<=40:=by
 by_cases h:zaM k n b=0
 ·obtain ⟨-,hc⟩:=zcK h
  unfold zaT;rw [yg h]
  show (zbX n++absL k n.natAbs).length<=40;have h1:(zbX n).length<=1:=by unfold zbX;split<;>simp
  have h2:(absL k n.natAbs).length<=30:=by
   unfold absL
   split
   ·have:=zbs 19 n.natAbs (by omega);omega
   ·have h3:=zbs 19 (n.natAbs / 1000000) (by omega)
    have h4:=(zey (n.natAbs % 1000000) (by omega)).2.2.2;rw [List.length_append,List.length_cons];omega
  rw [List.length_append];omega
 ·unfold zaT
  rw [yh h];simp
mutual
theorem zgo:∀v:PV,zaZ v<=nodeV v
 | .mk k n s l=>by
  have:=zfj l;simp only [zaZ,nodeV]
  split<;>omega
theorem zfj:∀l:List PV,zbH l<=zgH l
 | []=>by simp [zbH,zgH]
 | x::l=>by
  have h1:=zgo x;have h2:=zfj l;simp only [zbH,zgH];omega
end
end Go.Proofs.YtcmoehknppjkiaaGreatDoor
namespace Go.Proofs.YtcmoehknppjkiaaGreatDoor
open Go.RowKit
theorem nameC_is (s:List UInt8) (x:Int):(if 127<s.length\/(0:UInt8)∈s then 17 else x)=if zeO s=false then 17 else x:=by
 unfold zeO
 by_cases h1:127<s.length
 ·rw [yg (.inl h1)];simp [h1]
 ·by_cases h2:(0:UInt8)∈s
  ·rw [yg (.inr h2)];simp [h2]
  ·rw [yh (by rintro (h|h);exact h1 h;exact h2 h)];simp [h1,h2]
theorem zgS (v:PV) (sl:Value) (w:World):Calls Tryz.prog 98 #[pvA v sl] w fun e w'=>e=.returned (.bool (v.kind==6||v.kind==7))/\Below w.heap.size w w':=by
 unfold pvA;generalize v.kind=k at *
 by_cases h:k=6
 ·subst h
  go_enter Tryz.func98,Tryz.ntmps98
  go_wp2;go_ret;exact ⟨rfl,zai w _⟩
 ·have h1:(k==6)=false:=by rw [yf];exact h
  rw [h1,Bool.false_or];clear h;go_enter Tryz.func98,Tryz.ntmps98
  go_wp2;go_ret;exact ⟨rfl,zai w _⟩
theorem rdepth_any:∀(N:Nat) (v:PV) (sl:Value) (w:World),SizeOf.sizeOf v<=N->zaZ v<=1000->IsV w anyF v sl ->
  Calls Tryz.prog 56 #[pvA v sl] w fun e w'=>e=.returned (.int .i64 (zaZ v:Nat))/\Below w.heap.size w w':=by
 intro N
 induction N with
 | zero=>intro v sl w h;obtain ⟨_,_,_,_⟩:=v;simp at h
 | succ N ih =>
 intro v sl w hN hd hv;obtain ⟨a1,cap1,e1,g1,g2,g3⟩:=hv.len;subst e1;have HA:=yb hv;have Qp:=yb ih;have HN:=yb hN;have Qm:=yb (fun (k:Nat) (x:PV) (h:v.l[k]?=some x)=>zb3 h);have HD:=yb hd;have m1:(v.l.length:Int)<=9223372036854775807:=by unfold maxLen at g2;omega
 have HH:=yb (fun W=>zgS v (.slice a1 v.l.length cap1) W);have Qv:zaZ v=if v.kind=6\/v.kind=7 then 1+zbH v.l else 1:=by obtain ⟨_,_,_,_⟩:=v;rfl
 have Zt:=yb (fun (h:v.kind=6\/v.kind=7) (k:Nat) (x:PV) (hx:v.l[k]?=some x)=>show zaZ x+1<=zaZ v by rw [zep v,yg h];have:=zd3 _ _ hx;omega);unfold pvA at HH |-;clear ih hN hd hv
 by_cases hk:v.kind=6\/v.kind=7
 case neg =>
  rw [yh hk] at Qv
  have hb:(v.kind==6||v.kind==7)=false:=by
   simp only [Bool.or_eq_false_iff,yf];omega
  rw [hb] at HH;rw [Qv];clear hk hb Qv HA Qp Zt HD HN Qm;generalize v.kind=k0 at *;generalize v.n=n0 at *;generalize mkB v.s=s0 at *;generalize v.l.length=l0 at *;go_enter Tryz.func56,Tryz.ntmps56
  go_wp2_with (go_at_call 98;refine (HH.out _).mono ?_;rintro e w1 ⟨rfl,Qa⟩)
  go_ret;exact ⟨rfl,(zai w _).trans (Qa.mono (by rw [zaq];omega))⟩
 rw [yg hk] at Qv
 have hb:(v.kind==6||v.kind==7)=true:=by
  rcases hk with h|h<;>rw [h]<;>rfl
 rw [hb] at HH;have Q5:=yb Qv;have ZH:=yb (show zbH v.l<=999 by have:=HD.out;omega);have QG:=yb (fun (k:Nat) (x:PV) (hx:v.l[k]?=some x)=>Zt.out hk k x hx);clear hk hb Qv Zt;obtain ⟨la,Qg⟩:∃la,la=v.l:=⟨_,rfl⟩;have Qj:=yb Qg;rw [<-Qg] at HH Q5 ZH QG HA m1 g1 |-;clear Qg;generalize v.kind=k0 at *;generalize v.n=n0 at *;generalize v.s=s0 at *;go_enter Tryz.func56,Tryz.ntmps56
 obtain ⟨B,hB⟩:∃B,B=w.heap.size:=⟨_,rfl⟩;have Qs:=yb (zac (w:=w) (b:=B) (.cells #[.int .i64 k0,.int .i64 n0,.string (mkB s0),.slice a1 la.length cap1] 25) hB);have HW:=yb (zai w (.cells #[.int .i64 k0,.int .i64 n0,.string (mkB s0),.slice a1 la.length cap1] 25));have Z6:=yb hB;go_wp2_with (go_at_call 98;refine (HH.out _).mono ?_;rintro e w1 ⟨rfl,Qa⟩)
 rw [<-hB];have ZW:=yb (zab Qa Qs.out);have ZX:=yo HW Qa;clear Qa Qs HW hB
 go_loopw [3,4] (fun vn vk wr=>∃(k n:Nat),vk=.int .i64 k/\vn=.int .i64 n/\n<=1000/\k<=la.length/\Hid (Below w.heap.size w wr)/\Hid (Below w1.heap.size w1 wr)/\Hid (n=1+zbH (la.take k))) (fun _ vk _=>la.length-(intOf vk).toNat)
 case atStart=>exact ⟨0,1,rfl,rfl,by omega,Nat.zero_le _,ZX,Below.refl _ _,rfl⟩
 case round =>
  obtain ⟨k,n,rfl,rfl,hn,hk,Qh,Qe,HV⟩:=hrel;obtain ⟨⟨c0,c1,c2,c3⟩,-⟩:=zad (zab Qe.out ZW.out)
  by_cases q1:k<la.length
  case neg =>
   have Qt:k=la.length:=by omega
   subst Qt;have hv:=HV.out;rw [List.take_length] at hv;have QW:=Q5.out.trans hv.symm;have Zh:=yb QW;clear hv QW Q5 HV ZH HA Qp QG;go_wp2;go_ret;exact ⟨by rw [Zh.out];rfl,Qh.out⟩
  obtain ⟨x,hx⟩:∃x,la[k]?=some x:=⟨_,List.getElem?_eq_getElem q1⟩;obtain ⟨-,-,-,b1,o1,rfl,-,-,Qb⟩:=(HA.out.below Qh.out).at (by omega);rw [<-Qj.out] at Qb;obtain ⟨sx,Qw,x0,x1,x2,x3⟩:=Qb k x hx;have hlt:SizeOf.sizeOf x<SizeOf.sizeOf v:=Qm.out k x (by rw [<-Qj.out];exact hx);have hN:=HN.out;have Zi:=QG.out k x hx;have Qz:=Qp.out x sx wr (by omega) (by have:=HD.out;omega) Qw;have hv:max n (zaZ x+1)=1+zbH (la.take (k+1)):=by rw [zfa hx];have:=HV.out;omega
  have Qx:=yb hv;have Zj:zaZ x<=999:=by have:=HD.out;omega
  unfold pvA at Qz;obtain ⟨sa',sc',rfl,-,-,-⟩:=Qw.len;generalize zaZ x=d at *;have Qc:=yb Qz;clear Qz hv Qw hlt hN Qb hx HA Qp HV Qm Qj HN Q5 QG HD Zi;have Qt:(0:Int)<=(k:Int):=by omega
  have QI:(k:Int)<(la.length:Int):=by omega
  go_wp2_with fail
  refine Qc.out.mono ?_;rintro e w4 ⟨rfl,Qf⟩;have Qk:=yo Qh Qf;have QN:=yo Qe Qf;clear Qf x0 x1 x2 x3 c0 c1 c2 c3 Qc
  by_cases hc:n<d+1
  ·have hm:max n (d+1)=d+1:=by omega
   rw [hm] at Qx;have hd1:decide ((n:Int)<(d:Int)+1)=true:=yd (by omega);go_wp2
   go_roundw
   case rel=>exact ⟨k+1,d+1,by go_num,by go_num,by omega,by omega,Qk,QN,Qx⟩
   case measure=>simp [intOf];omega
  ·have hm:max n (d+1)=n:=by omega
   rw [hm] at Qx;have hd1:decide ((n:Int)<(d:Int)+1)=false:=ye (by omega);go_wp2
   go_roundw
   case rel=>exact ⟨k+1,n,by go_num,rfl,by omega,by omega,Qk,QN,Qx⟩
   case measure=>simp [intOf];omega
theorem rdict_bad {n:Int} {s:List UInt8} {a1:Option Addr} {m cap1:Nat} {w:World} (h:n≠0\/s≠[]) :
  Calls Tryz.prog 133 #[.agg #[.int .i64 7,.int .i64 n,.string (mkB s),.slice a1 m cap1]] w fun e w'=>e=.returned (.int .i64 2)/\Below w.heap.size w w':=by
 have HB:=yb (zai w (.cells #[.int .i64 7,.int .i64 n,.string (mkB s),.slice a1 m cap1] 25))
 by_cases hn0:n=0
 ·have en0:(n==0)=true:=by rw [beq_iff_eq];exact hn0
  have en0':(n != 0)=false:=by simp only [bne,en0,Bool.not_true]
  have hs0:s≠[]:=by rcases h with h|h;exact absurd hn0 h;exact h
  have es0b:((mkB s).toList==[])=false:=by rw [yf,zaj];exact hs0
  have es0c:((mkB s).toList != [])=true:=by simp only [bne,es0b,yj]
  clear hn0 h hs0;generalize mkB s=S at *;go_enter Tryz.func133,Tryz.ntmps133
  go_wp2;go_ret;exact ⟨rfl,HB.out⟩
 ·have en0:(n==0)=false:=by rw [yf];exact hn0
  have en0':(n != 0)=true:=by simp only [bne,en0,yj]
  clear hn0 h;generalize mkB s=S at *;go_enter Tryz.func133,Tryz.ntmps133
  go_wp2;go_ret;exact ⟨rfl,HB.out⟩
theorem rdictA {n:Int} {s:List UInt8} {l:List PV} {a1:Option Addr} {cap1:Nat} {w:World} (hv:IsV w anyF (.mk 7 n s l) (.slice a1 l.length cap1)) :
  Calls Tryz.prog 133 #[pvA (.mk 7 n s l) (.slice a1 l.length cap1)] w fun e w'=>e=.returned (.int .i64 (if n=0/\s=[] then zdT l else 2))/\Below w.heap.size w w':=by
 by_cases h:n=0/\s=[]
 ·rw [yg h]
  exact rdict_any hv h.1 h.2
 ·rw [yh h]
  exact rdict_bad (by by_cases hn:n=0;exact .inr fun e=>h ⟨hn,e⟩;exact .inl hn)
end Go.Proofs.YtcmoehknppjkiaaGreatDoor
