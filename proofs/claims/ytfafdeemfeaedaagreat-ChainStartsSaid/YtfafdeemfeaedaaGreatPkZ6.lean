/-
  Our texts LexN to LexS, in one.
-/
import Derived.Test.YtfafdeemfeaedaaGreatPkZ5
import Derived.IntWalk
import Derived.Deep.RegionHeld3
import Derived.Deep.AppendLies
import Derived.PlainAid
set_option maxRecDepth 8000
set_option maxHeartbeats 8000000
namespace Go.Proofs.YtfafdeemfeaedaaGreat
open Go.RowKit
def pk:List Int→List UInt8
 | a::b::t=>UInt8.ofNat (16 * a+b).toNat::pk t
 | _=>[]
theorem zfb:∀(n:Nat) (l m:List Int),l.length=2 * n→pk (l++m)=pk l++pk m
 | 0,l,m,h=>by
   obtain rfl:l=[]:=List.eq_nil_of_length_eq_zero (by omega)
   rfl
 | n+1,l,m,h=>by
   rcases l with _|⟨a,_|⟨b,t⟩⟩
   · simp at h
   · simp at h;omega
   · simp only [List.cons_append,pk]
     rw [zfb n t m (by simp at h;omega)]
structure DgP (ds:List Int) (out:List UInt8) (half:Int):Prop where
 bd:∀d∈ds,0≤d∧d≤15
 form:∃ps:List Int,ps.length=2 * out.length∧pk ps=out∧((half=-1∧ds=ps)∨(0≤half∧ds=ps++[half]))
theorem DgP.nil:DgP [] [] (-1):=⟨fun d h=>(by cases h),[],rfl,rfl,.inl ⟨rfl,rfl⟩⟩
theorem DgP.put {ds:List Int} {out:List UInt8} {half:Int} (h:DgP ds out half) {d:Int} (h0:0≤d) (h1:d≤15):(half<0→DgP (ds++[d]) out d)∧(0≤half→DgP (ds++[d]) (out++[UInt8.ofNat (16 * half+d).toNat]) (-1)):=by
 obtain ⟨hb,ps,hl,hp,hf⟩:=h
 have hb2:∀x∈ds++[d],0≤x∧x≤15:=fun x hx=>by
   rcases List.mem_append.1 hx with h|h
   · exact hb x h
   · simp at h;subst h;exact ⟨h0,h1⟩
 refine ⟨fun hn=>⟨hb2,ps,hl,hp,.inr ⟨h0,?_⟩⟩,fun hn=>⟨hb2,ds++[d],?_,?_,.inl ⟨rfl,rfl⟩⟩⟩
 · rcases hf with ⟨_,rfl⟩|⟨h,_⟩
   · rfl
   · omega
 · rcases hf with ⟨h,_⟩|⟨h,rfl⟩
   · omega
   · simp;omega
 · rcases hf with ⟨h,_⟩|⟨h,rfl⟩
   · omega
   · rw [List.append_assoc,zfb _ _ _ hl,hp];rfl
theorem DgP.odd {ds:List Int} {out:List UInt8} {half:Int} (h:DgP ds out half):((ds.length:Int) % 2=1↔0≤half)∧(half<0→pk ds=out∧ds.length=2 * out.length)∧(0≤half→pk (ds++[0])=out++[UInt8.ofNat (16 * half).toNat]∧(ds++[0]).length=2 * (out++[UInt8.ofNat (16 * half).toNat]).length):=by
 obtain ⟨hb,ps,hl,hp,hf⟩:=h
 rcases hf with ⟨h,rfl⟩|⟨h,rfl⟩
 · exact ⟨by omega,fun _=>⟨hp,hl⟩,fun h=>by omega⟩
 · refine ⟨by simp;omega,fun h=>by omega,fun _=>⟨?_,by simp;omega⟩⟩
   rw [List.append_assoc,zfb _ _ _ hl,hp]
   simp [pk]
theorem pk_get:∀(m:Nat) (ds:List Int),2 * m+1<ds.length→(pk ds)[m]?=some (UInt8.ofNat (16 * ds.getD (2 * m) 0+ds.getD (2 * m+1) 0).toNat)
 | 0,ds,h=>by
   rcases ds with _|⟨a,_|⟨b,t⟩⟩
   · simp at h
   · simp at h
   · simp [pk]
 | m+1,ds,h=>by
   rcases ds with _|⟨a,_|⟨b,t⟩⟩
   · simp at h
   · simp at h
   · simp only [pk,List.getElem?_cons_succ]
     rw [pk_get m t (by simp at h;omega)]
     simp [List.getD,show 2 * (m+1)=2 * m+1+1 from by omega]
theorem take_next {X:List UInt8} {m:Nat} {c:UInt8} (h:X[m]?=some c):X.take (m+1)=X.take m++[c]:=by
 have hm:m<X.length:=(List.getElem?_eq_some_iff.1 h).1
 rw [List.take_succ_eq_append_getElem hm,(List.getElem?_eq_some_iff.1 h).2]
def zcF (bs:List UInt8) (last:Bool) (V:Int×List UInt8×List UInt8) (w:World) (e:Ending) (w':World):Prop :=
 Below w.heap.size w w'∧((V.1=1∧e=.returned (.tuple #[.slice none 0 0,.int .i64 0,.int .i64 (zaX last)]))∨(V.1=11∧e=.returned (.tuple #[.slice none 0 0,.int .i64 0,.int .i64 11])) ∨
   (V.1=0∧∃v,e=.returned (.tuple #[v,.int .i64 ((bs.length-V.2.2.length:Nat):Int),.int .i64 0])∧w'.ownsRow w.heap.size 5 1 v V.2.1.length (V.2.1.map u8C)∧V.2.2.length≤bs.length))
theorem hexR_open {bs:List UInt8} {last:Bool} {V:Int×List UInt8×List UInt8} {w w':World} (hV:V=(1,[],[])) (hb:Below w.heap.size w w'):zcF bs last V w (.returned (.tuple #[.slice none 0 0,.int .i64 0,.int .i64 (zaX last)])) w':=by
 subst hV;exact ⟨hb,.inl ⟨rfl,rfl⟩⟩
theorem hexR_form {bs:List UInt8} {last:Bool} {V:Int×List UInt8×List UInt8} {w w':World} (hV:V=(11,[],[])) (hb:Below w.heap.size w w'):zcF bs last V w (.returned (.tuple #[.slice none 0 0,.int .i64 0,.int .i64 11])) w':=by
 subst hV;exact ⟨hb,.inr (.inl ⟨rfl,rfl⟩)⟩
theorem hexR_some {bs:List UInt8} {last:Bool} {V:Int×List UInt8×List UInt8} {w w':World} {v:Value} {o:List UInt8} {j:Nat} {n:Int} (hV:V=(0,o,bs.drop j)) (hj:j≤bs.length) (hn:n=(j:Int)) (hO:w'.ownsRow w.heap.size 5 1 v o.length (o.map u8C)) (hb:Below w.heap.size w w') :
   zcF bs last V w (.returned (.tuple #[v,.int .i64 n,.int .i64 0])) w':=by
 subst hV;subst hn
 refine ⟨hb,.inr (.inr ⟨rfl,v,?_,hO,by simp⟩)⟩
 simp only
 rw [List.length_drop,show bs.length-(bs.length-j)=j from by omega]
def i64C (x:Int):Value:=.int .i64 x
theorem EInt:zc6 Tryz.prog 72 3 (.int .i64 0) 1 8:=⟨Tryz.underlying72,by kernel_rfl,rfl,by omega⟩
structure DgM (w:World) (v:Value) (ds:List Int) (wr:World):Prop where
 row:wr.ownsRow w.heap.size 3 1 v ds.length (ds.map i64C)
 bel:Below w.heap.size w wr
theorem DgM.put {w wr w5:World} {v v':Value} {ds:List Int} (h:DgM w v ds wr) (d:Int) (O:Obj) (hO5:w5.ownsRow w.heap.size 3 1 v' (ds.length+1) (ds.map i64C++[.int .i64 d])) (hg5:(wr.alloc O).grownBy w5 v.ownBlock):DgM w v' (ds++[d]) w5 :=
 ⟨by have h:=hO5;simpa [i64C] using h,(h.bel.alloc h.bel.size _).grown hg5 (by rw [zap];have:=h.bel.size;omega) (fun q hq=>(h.row.lt q hq).1)⟩
theorem DgM.len {w wr:World} {v:Value} {ds:List Int} (h:DgM w v ds wr):∃a cap,v=.slice a ds.length cap∧Row wr 1 a ds.length cap (ds.map i64C):=by
 obtain ⟨a,cap,hv,hr,-⟩:=Row.of_owns h.row
 exact ⟨a,cap,hv,hr⟩
theorem zdP {w:World} {a:Option Addr} {cap:Nat} {bs:List UInt8} (hr:Row w 1 a bs.length cap (bs.map u8C)) (hn:bs.length≤400000) (k:Nat) (hk:k≤bs.length) (last:Bool) :
   Calls Tryz.prog 123 #[.slice a bs.length cap,.int .i64 k,.bool last] w (zcF bs last (hexV [] (-1) (bs.drop k)) w):=by
 obtain ⟨V,hV⟩:∃V,V=hexV [] (-1) (bs.drop k):=⟨_,rfl⟩
 rw [←hV]
 have HV:=Lib.hid hV
 have HC:=Lib.hid (fun (W:World) (h:Below w.heap.size w W) j (hj:j<bs.length)=>(hr.mono h).at 0 j hj)
 have HK:=Lib.hid hk
 clear hV hr hk
 go_enter Tryz.func123,Tryz.ntmps123
 go_wp2
 go_loopw [1,9] (fun i v wr=>∃(j:Nat) (ds:List Int) (o:List UInt8) (half:Int),j≤bs.length∧i=.int .i64 j∧ds.length≤j∧Hid (DgM w v ds wr)∧Hid (DgP ds o half)∧Hid (V=hexV o half (bs.drop j))) (fun i _ _=>bs.length-(intOf i).toNat)
 case atStart=>exact ⟨k,[],[],-1,HK.out,rfl,by simp,Lib.hid ⟨World.ownsRow_nil _ _ _ _,Below.refl _ _⟩,Lib.hid DgP.nil,HV⟩
 case round =>
   obtain ⟨j,ds,o,half,hj,rfl,hdj,HD,HP,HG⟩:=hrel
   have hsz:=HD.out.bel.size
   by_cases hlt:j<bs.length
   · obtain ⟨b0,off,ha,-,hc⟩:=HC.out wr HD.out.bel j hlt
     unfold u8C at hc
     have hcj:=hc j hlt
     have hji:decide ((j:Int)<bs.length)=true:=decide_eq_true (by omega)
     have hjn:decide (j<bs.length)=true:=decide_eq_true hlt
     have hjl:(j:Int)<bs.length:=by omega
     have hg:=HG.out
     rw [zat hlt,hexV] at hg
     subst ha
     obtain ⟨c,hcc⟩:∃c,bs.getD j 0=c:=⟨_,rfl⟩
     rw [hcc] at hcj hg
     clear hc hcc
     by_cases h62:c=62
     · subst h62
       rw [if_pos rfl] at hg
       obtain ⟨p1,p2,p3⟩:=HP.out.odd
       have HBD:=Lib.hid HP.out.bd
       rw [show ((62:UInt8).toNat:Int)=62 from rfl] at hcj
       by_cases hh:0≤half
       · rw [if_pos hh] at hg
         have ho:((ds.length:Int) % 2==1)=true:=by rw [beq_iff_eq];exact p1.2 hh
         obtain ⟨q1,q2⟩:=p3 hh
         obtain ⟨va,vcap,hv,-⟩:=HD.out.len
         have HBD2:=Lib.hid (show ∀d∈ds++[0],0≤d∧d≤15 from fun d hd=>by
           rcases List.mem_append.1 hd with h|h
           · exact HBD.out d h
           · simp at h;subst h;omega)
         have HQ1:=Lib.hid q1
         have HQ2:=Lib.hid q2
         have HG2:=Lib.hid hg
         subst hv
         clear hg p1 p2 p3 q1 q2 hh
         generalize o++[UInt8.ofNat (16 * half).toNat]=X at *
         go_wp2_with (at_builtin;refine zaH EInt rfl (.tmp 29) (.tmp 30) rfl w.heap.size _ ds.length _ rfl (HD.out.row.alloc _) _ 1 _ _ rfl (zbk _ _ _) (zbz rfl) (by unfold maxLen;omega) (by omega) (by rw [zap];omega) ?_;intro v' w5 hO5 hg5 hnil5;have HD5:=Lib.hid (HD.out.put 0 _ hO5 hg5);clear hO5 hg5 hnil5)
         have hl5:(ds++[0]).length≤400001:=by simp;omega
         have HEB:=HBD2
         generalize ds++[0]=es at *
         obtain ⟨ea,ec,hv5,hrow5⟩:=HD5.out.len
         subst hv5
         have HR5:=Lib.hid hrow5
         clear hrow5 HBD HBD2 HD HP HG
         go_loopw [11,12] (fun v i wq=>∃(m p:Nat),m≤X.length∧i=.int .i64 p∧Hid (p=2 * m)∧Hid (wq.ownsRow w5.heap.size 5 1 v (X.take m).length ((X.take m).map u8C))∧Hid (Below w5.heap.size w5 wq)) (fun _ i _=>es.length-(intOf i).toNat)
         case atStart=>exact ⟨0,0,Nat.zero_le _,by go_num,Lib.hid rfl,Lib.hid (by simpa using World.ownsRow_nil _ _ _ _),Lib.hid (Below.refl _ _)⟩
         case round =>
           obtain ⟨m,p,hm,rfl,HPM,HO,HB⟩:=hrel
           have hq2:=HQ2.out
           have hpm:=HPM.out
           have hsz5:=HB.out.size
           by_cases hmx:m<X.length
           · have hp1:p+1<es.length:=by omega
             obtain ⟨b1,off1,he,hb15,hce0⟩:=HR5.out.at 0 p (by omega)
             have hce:=fun k hk=>cell?_keep HB.out (hce0 k hk)
             clear hce0
             have c1:=hce p (by omega)
             have c2:=hce (p+1) hp1
             unfold i64C at c1 c2
             have hA:=HEB.out (es.getD p 0) (by rw [List.getD_eq_getElem?_getD,List.getElem?_eq_getElem (by omega)];exact List.getElem_mem _)
             have hB:=HEB.out (es.getD (p+1) 0) (by rw [List.getD_eq_getElem?_getD,List.getElem?_eq_getElem (by omega)];exact List.getElem_mem _)
             have HPK:=Lib.hid (take_next (X:=X) (m:=m) (by rw [←HQ1.out,pk_get m es (by omega),←hpm]))
             have hpn:decide (p<es.length)=true:=decide_eq_true (by omega)
             have hpi:(p:Int)<es.length:=by omega
             have hpi1:(p:Int)+1<es.length:=by omega
             have hmo:(X.take m).length≤400000:=by rw [List.length_take];omega
             have HM:=Lib.hid (show es.length-(p+2)<es.length-p by omega)
             have HP2:=Lib.hid (show p+2=2 * (m+1) by omega)
             have HMX:=Lib.hid hmx
             have hpl:p≤400001:=by omega
             subst he
             obtain ⟨hA0,hA1⟩:=hA
             obtain ⟨hB0,hB1⟩:=hB
             generalize es.getD p 0=A at *
             generalize es.getD (p+1) 0=B at *
             have HBY:=Lib.hid (zes (16 * A+B) (by omega) (by omega))
             clear hce hq2 hpm hm hmx
             go_wp2
             have ak:u11.ownBlock≠some b1:=fun e=>by have h1:=(HO.out.lt b1 e).1;omega
             have hb1w:b1<wr.heap.size:=by omega
             have i1:IntKind.i64.wrap ((p:Int)+1)=(p:Int)+1:=IntWalk.i64_in _ (by omega)
             have i2:IntKind.i64.wrap (16 * A)=16 * A:=IntWalk.i64_in _ (by omega)
             have i3:IntKind.i64.wrap (16 * A+B)=16 * A+B:=IntWalk.i64_in _ (by omega)
             have i4:IntKind.u8.wrap (16 * A+B)=16 * A+B:=by rw [IntKind.wrap_u8];omega
             have i5:((p:Int)+1).toNat=p+1:=by omega
             have i6:(0:Int)≤(p:Int)+1:=by omega
             have hBw:w5.heap.size≤wr.heap.size:=hsz5
             go_region_held3 (fun w'=>w'.cell? ⟨b1,off1+p,none⟩=some (.int .i64 A)∧w'.cell? ⟨b1,off1+(p+1),none⟩=some (.int .i64 B))
               (first
                 | go_keep
                 | (go_split_ands
                    refine ⟨?_,?_⟩
                    · (rw [hgrow.cell_far _ (by simp;omega) (Ne.symm ak)];assumption)
                    · (rw [hgrow.cell_far _ (by simp;omega) (Ne.symm ak)];assumption)))
               ((obtain ⟨iB,hiB,hzB,hsB,hbB⟩:=info_parts zcj.info;refine step_append_lies _ (by rfl) _ _ _ (by rfl) w5.heap.size 5 iB _ 1 1 zcj.und hiB hzB hsB hbB rfl (by omega) u11 (X.take m).length _ (by rfl) ((HO.out.alloc _).drew) ⟨wr.heap.size,0,none⟩ 1 1 [.int .u8 (16 * A+B)] (by rfl) (by rfl) (World.news_of_block (cs:=#[.int .u8 (16 * A+B)]) (t:=5) (fr:=(0,0)) (heap_alloc_new wr _)) (by simp [Value.oneCell']) (by omega) (by unfold maxLen;omega) (by omega) (by simp;omega) (wr.heap.size+1) (by simp) ?_;intro g cap7 w7 hO7 hgrow hat hlt))
             have HP7:=Lib.hid (show w7.ownsRow w5.heap.size 5 1 (.slice (some ⟨g,0,none⟩) ((X.take m).length+1) cap7) (X.take m++[UInt8.ofNat (16 * A+B).toNat]).length ((X.take m++[UInt8.ofNat (16 * A+B).toNat]).map u8C)∧Below w5.heap.size w5 w7 from
               zbS (UInt8.ofNat (16 * A+B).toNat) (.cells #[.int .u8 (16 * A+B)] 5) (zae HB.out 1) hBw (zaG HO.out (zae (Below.refl _ _) 1)) (show Value.int .u8 (16 * A+B)=u8C (UInt8.ofNat (16 * A+B).toNat) from congrArg (Value.int .u8) HBY.out) hO7 hgrow)
             clear hgrow hO7 hat hlt ak i1 i2 i3 i4 i5 i6
             go_wp2
             go_roundw
             case rel=>exact ⟨m+1,p+2,HMX.out,by go_num,HP2,Lib.hid (by rw [HPK.out];have h:=HP7.out.1;simpa using h),Lib.hid HP7.out.2⟩
             case measure=>have:=HM.out;simp only [intOf];omega
           · have hpn:decide (p<es.length)=false:=decide_eq_false (by omega)
             have hX:X.take m=X:=List.take_of_length_le (by omega)
             have HO2:=Lib.hid (by have h:=HO.out;rw [hX] at h;exact h)
             have HBB:=Lib.hid (HD5.out.bel.trans (HB.out.mono HD5.out.bel.size))
             have hoo:=za9 HO2.out HD5.out.bel.size
             have HOO:=Lib.hid hoo
             clear hX hoo hq2 hpm hmx
             go_wp2
             go_ret3
             exact hexR_some HG2.out hlt rfl HOO.out HBB.out
       · have hh2:half<0:=by omega
         rw [if_neg hh] at hg
         have ho:((ds.length:Int) % 2==1)=false:=by rw [beq_eq_false_iff_ne];exact fun e=>hh (p1.1 e)
         obtain ⟨q1,q2⟩:=p2 hh2
         obtain ⟨ea,ec,hv5,hrow5⟩:=HD.out.len
         have HQ1:=Lib.hid q1
         have HQ2:=Lib.hid q2
         have HG2:=Lib.hid hg
         have HEB:=HBD
         have HD5:=HD
         have HR5:=Lib.hid hrow5
         have hl5:ds.length≤400001:=by omega
         subst hv5
         clear hg p1 p2 p3 q1 q2 hh hh2 hrow5 HBD HD HP HG
         obtain ⟨X,hX⟩:∃X,X=o:=⟨_,rfl⟩
         subst hX
         obtain ⟨es,hes⟩:∃es,es=ds:=⟨_,rfl⟩
         subst hes
         go_wp2
         obtain ⟨w5,hw5⟩:∃w5:World,w5=wr:=⟨_,rfl⟩
         subst hw5
         go_loopw [11,12] (fun v i wq=>∃(m p:Nat),m≤X.length∧i=.int .i64 p∧Hid (p=2 * m)∧Hid (wq.ownsRow w5.heap.size 5 1 v (X.take m).length ((X.take m).map u8C))∧Hid (Below w5.heap.size w5 wq)) (fun _ i _=>es.length-(intOf i).toNat)
         case atStart=>exact ⟨0,0,Nat.zero_le _,by go_num,Lib.hid rfl,Lib.hid (by simpa using World.ownsRow_nil _ _ _ _),Lib.hid (Below.refl _ _)⟩
         case round =>
           obtain ⟨m,p,hm,rfl,HPM,HO,HB⟩:=hrel
           have hq2:=HQ2.out
           have hpm:=HPM.out
           have hsz5:=HB.out.size
           by_cases hmx:m<X.length
           · have hp1:p+1<es.length:=by omega
             obtain ⟨b1,off1,he,hb15,hce0⟩:=HR5.out.at 0 p (by omega)
             have hce:=fun k hk=>cell?_keep HB.out (hce0 k hk)
             clear hce0
             have c1:=hce p (by omega)
             have c2:=hce (p+1) hp1
             unfold i64C at c1 c2
             have hA:=HEB.out (es.getD p 0) (by rw [List.getD_eq_getElem?_getD,List.getElem?_eq_getElem (by omega)];exact List.getElem_mem _)
             have hB:=HEB.out (es.getD (p+1) 0) (by rw [List.getD_eq_getElem?_getD,List.getElem?_eq_getElem (by omega)];exact List.getElem_mem _)
             have HPK:=Lib.hid (take_next (X:=X) (m:=m) (by rw [←HQ1.out,pk_get m es (by omega),←hpm]))
             have hpn:decide (p<es.length)=true:=decide_eq_true (by omega)
             have hpi:(p:Int)<es.length:=by omega
             have hpi1:(p:Int)+1<es.length:=by omega
             have hmo:(X.take m).length≤400000:=by rw [List.length_take];omega
             have HM:=Lib.hid (show es.length-(p+2)<es.length-p by omega)
             have HP2:=Lib.hid (show p+2=2 * (m+1) by omega)
             have HMX:=Lib.hid hmx
             have hpl:p≤400001:=by omega
             subst he
             obtain ⟨hA0,hA1⟩:=hA
             obtain ⟨hB0,hB1⟩:=hB
             generalize es.getD p 0=A at *
             generalize es.getD (p+1) 0=B at *
             have HBY:=Lib.hid (zes (16 * A+B) (by omega) (by omega))
             clear hce hq2 hpm hm hmx
             go_wp2
             have ak:u11.ownBlock≠some b1:=fun e=>by have h1:=(HO.out.lt b1 e).1;omega
             have hb1w:b1<wr.heap.size:=by omega
             have i1:IntKind.i64.wrap ((p:Int)+1)=(p:Int)+1:=IntWalk.i64_in _ (by omega)
             have i2:IntKind.i64.wrap (16 * A)=16 * A:=IntWalk.i64_in _ (by omega)
             have i3:IntKind.i64.wrap (16 * A+B)=16 * A+B:=IntWalk.i64_in _ (by omega)
             have i4:IntKind.u8.wrap (16 * A+B)=16 * A+B:=by rw [IntKind.wrap_u8];omega
             have i5:((p:Int)+1).toNat=p+1:=by omega
             have i6:(0:Int)≤(p:Int)+1:=by omega
             have hBw:w5.heap.size≤wr.heap.size:=hsz5
             go_region_held3 (fun w'=>w'.cell? ⟨b1,off1+p,none⟩=some (.int .i64 A)∧w'.cell? ⟨b1,off1+(p+1),none⟩=some (.int .i64 B))
               (first
                 | go_keep
                 | (go_split_ands
                    refine ⟨?_,?_⟩
                    · (rw [hgrow.cell_far _ (by simp;omega) (Ne.symm ak)];assumption)
                    · (rw [hgrow.cell_far _ (by simp;omega) (Ne.symm ak)];assumption)))
               ((obtain ⟨iB,hiB,hzB,hsB,hbB⟩:=info_parts zcj.info;refine step_append_lies _ (by rfl) _ _ _ (by rfl) w5.heap.size 5 iB _ 1 1 zcj.und hiB hzB hsB hbB rfl (by omega) u11 (X.take m).length _ (by rfl) ((HO.out.alloc _).drew) ⟨wr.heap.size,0,none⟩ 1 1 [.int .u8 (16 * A+B)] (by rfl) (by rfl) (World.news_of_block (cs:=#[.int .u8 (16 * A+B)]) (t:=5) (fr:=(0,0)) (heap_alloc_new wr _)) (by simp [Value.oneCell']) (by omega) (by unfold maxLen;omega) (by omega) (by simp;omega) (wr.heap.size+1) (by simp) ?_;intro g cap7 w7 hO7 hgrow hat hlt))
             have HP7:=Lib.hid (show w7.ownsRow w5.heap.size 5 1 (.slice (some ⟨g,0,none⟩) ((X.take m).length+1) cap7) (X.take m++[UInt8.ofNat (16 * A+B).toNat]).length ((X.take m++[UInt8.ofNat (16 * A+B).toNat]).map u8C)∧Below w5.heap.size w5 w7 from
               zbS (UInt8.ofNat (16 * A+B).toNat) (.cells #[.int .u8 (16 * A+B)] 5) (zae HB.out 1) hBw (zaG HO.out (zae (Below.refl _ _) 1)) (show Value.int .u8 (16 * A+B)=u8C (UInt8.ofNat (16 * A+B).toNat) from congrArg (Value.int .u8) HBY.out) hO7 hgrow)
             clear hgrow hO7 hat hlt ak i1 i2 i3 i4 i5 i6
             go_wp2
             go_roundw
             case rel=>exact ⟨m+1,p+2,HMX.out,by go_num,HP2,Lib.hid (by rw [HPK.out];have h:=HP7.out.1;simpa using h),Lib.hid HP7.out.2⟩
             case measure=>have:=HM.out;simp only [intOf];omega
           · have hpn:decide (p<es.length)=false:=decide_eq_false (by omega)
             have hX:X.take m=X:=List.take_of_length_le (by omega)
             have HO2:=Lib.hid (by have h:=HO.out;rw [hX] at h;exact h)
             have HBB:=Lib.hid (HD5.out.bel.trans (HB.out.mono HD5.out.bel.size))
             have hoo:=za9 HO2.out HD5.out.bel.size
             have HOO:=Lib.hid hoo
             clear hX hoo hq2 hpm hmx
             go_wp2
             go_ret3
             exact hexR_some HG2.out hlt rfl HOO.out HBB.out
     · have e62:=zar h62 62 rfl
       rw [if_neg h62] at hg
       have HSP:=Lib.hid (fun W=>zd3 c.toNat W)
       rw [←zeJ] at HSP
       have HHX:=Lib.hid (fun W=>zgH c W)
       have hbd:=zgg c
       generalize c.toNat=x at *
       obtain ⟨sp,hsp⟩:∃sp,isSp c=sp:=⟨_,rfl⟩
       rw [hsp] at HSP hg
       clear hsp h62
       generalize hexD c=d at *
       cases sp
       · rw [if_neg (by decide)] at hg
         by_cases hd:d<0
         · rw [if_pos hd] at hg
           have hdd:decide (d<0)=true:=decide_eq_true hd
           have HG2:=Lib.hid hg
           clear hg hd
           go_wp2_with (first
             | (go_at_call 85;refine (HSP.out _).mono ?_;rintro e w' ⟨rfl,rfl⟩)
             | (go_at_call 162;refine (HHX.out _).mono ?_;rintro e w' ⟨rfl,rfl⟩))
           go_ret3
           exact hexR_form HG2.out HD.out.bel
         · rw [if_neg hd] at hg
           have hdd:decide (d<0)=false:=decide_eq_false hd
           obtain ⟨q1,q2⟩:=HP.out.put (show 0≤d by omega) hbd.2
           have HQ:Hid (∃o2 h2,DgP (ds++[d]) o2 h2∧V=hexV o2 h2 (bs.drop (j+1))):=by
             by_cases hh:half<0
             · rw [if_pos hh] at hg;exact Lib.hid ⟨_,_,q1 hh,hg⟩
             · rw [if_neg hh] at hg;exact Lib.hid ⟨_,_,q2 (by omega),hg⟩
           obtain ⟨va,vcap,hv,-⟩:=HD.out.len
           subst hv
           clear hg q1 q2 hd
           go_wp2_with (first
             | (go_at_call 85;refine (HSP.out _).mono ?_;rintro e w' ⟨rfl,rfl⟩)
             | (go_at_call 162;refine (HHX.out _).mono ?_;rintro e w' ⟨rfl,rfl⟩)
             | (at_builtin;refine zaH EInt rfl (.tmp 60) (.tmp 63) rfl w.heap.size _ ds.length _ rfl (HD.out.row.alloc _) _ 1 _ _ rfl (zbk _ _ _) (zbz rfl) (by unfold maxLen;omega) (by omega) (by rw [zap];omega) ?_;intro v' w5 hO5 hg5 hnil5;have HD5:=Lib.hid (HD.out.put d _ hO5 hg5);clear hO5 hg5 hnil5))
           go_roundw
           case rel =>
             obtain ⟨o2,h2,q1,q2⟩:=HQ.out
             exact ⟨j+1,ds++[d],o2,h2,by omega,by go_num,by simp;omega,HD5,Lib.hid q1,Lib.hid q2⟩
           case measure=>simp [intOf];omega
       · rw [if_pos rfl] at hg
         have HG2:=Lib.hid hg
         clear hg
         go_wp2_with (go_at_call 85;refine (HSP.out _).mono ?_;rintro e w' ⟨rfl,rfl⟩)
         go_roundw
         case rel=>exact ⟨j+1,ds,o,half,by omega,by go_num,by omega,HD,HP,HG2⟩
         case measure=>simp [intOf];omega
   · obtain rfl:j=bs.length:=by omega
     have hg:=HG.out
     rw [List.drop_length,hexV] at hg
     have HG2:=Lib.hid hg
     have hji:decide ((bs.length:Int)<bs.length)=false:=decide_eq_false (by omega)
     clear hg
     go_wp2_with (go_at_call 163;refine (zgy _ _).mono ?_;rintro e w' ⟨rfl,rfl⟩)
     go_ret3
     exact hexR_open HG2.out HD.out.bel
theorem zdl {w:World} {a:Option Addr} {cap:Nat} {bs:List UInt8} (hr:Row w 1 a bs.length cap (bs.map u8C)) (hn:bs.length≤400000) (k:Nat) (hk:k≤bs.length) :
   Calls Tryz.prog 122 #[.slice a bs.length cap,.int .i64 k] w fun e w'=>e=.returned (.int .i64 ((k+runN (bs.drop k):Nat):Int))∧w=w':=by
 obtain ⟨R,hR⟩:∃R,R=k+runN (bs.drop k):=⟨_,rfl⟩
 rw [←hR]
 have HR:=Lib.hid hR
 have HC:=Lib.hid (fun j (hj:j<bs.length)=>hr.at 0 j hj)
 have HK:=Lib.hid hk
 clear hR hr hk
 go_enter Tryz.func122,Tryz.ntmps122
 go_wp2
 go_loop [1] (fun i=>∃j:Nat,j≤bs.length∧i=.int .i64 j∧Hid (R=j+runN (bs.drop j))) (fun i=>bs.length-(intOf i).toNat)
 case atStart=>exact ⟨k,HK.out,rfl,HR⟩
 case round =>
   obtain ⟨j,hj,rfl,HJ⟩:=hrel
   by_cases hlt:j<bs.length
   · obtain ⟨b,off,ha,-,hc⟩:=HC.out j hlt
     unfold u8C at hc
     have hcj:=hc j hlt
     have hg:=HJ.out
     rw [zat hlt] at hg
     have hji:decide ((j:Int)<bs.length)=true:=decide_eq_true (by omega)
     have hjn:decide (j<bs.length)=true:=decide_eq_true hlt
     have hjl:(j:Int)<bs.length:=by omega
     have HM:=Lib.hid (show bs.length-(j+1)<bs.length-j by omega)
     have HJL:=Lib.hid (show j+1≤bs.length from hlt)
     subst ha
     generalize bs.getD j 0=c at *
     have HSP:=Lib.hid (fun W=>zd3 c.toNat W)
     have HDL:=Lib.hid (fun W=>zaM c.toNat W)
     rw [←zeJ] at HSP
     rw [←zbH] at HDL
     have hreg:isRg c=(!isSp c&&!isDl c):=rfl
     generalize c.toNat=x at *
     generalize isSp c=sp at *
     generalize isDl c=dl at *
     clear hc HC
     cases sp
     · cases dl
       · have HG:=Lib.hid (show R=(j+1)+runN (bs.drop (j+1)) by rw [hg,zev _ hreg];omega)
         clear hg hreg hlt
         go_wp2_with (first
           | (go_at_call 85;refine (HSP.out _).mono ?_;rintro e w' ⟨rfl,rfl⟩)
           | (go_at_call 126;refine (HDL.out _).mono ?_;rintro e w' ⟨rfl,rfl⟩))
         go_round
         case rel=>exact ⟨j+1,HJL.out,by go_num,HG⟩
         case measure=>have:=HM.out;simp only [intOf];omega
       · have HG:=Lib.hid (show R=j by rw [hg,runN_no _ hreg];omega)
         clear hg hreg hlt
         go_wp2_with (first
           | (go_at_call 85;refine (HSP.out _).mono ?_;rintro e w' ⟨rfl,rfl⟩)
           | (go_at_call 126;refine (HDL.out _).mono ?_;rintro e w' ⟨rfl,rfl⟩))
         go_ret
         exact ⟨by rw [HG.out];rfl,rfl⟩
     · have HG:=Lib.hid (show R=j by rw [hg,runN_no _ hreg];omega)
       clear hg hreg hlt
       go_wp2_with (first
         | (go_at_call 85;refine (HSP.out _).mono ?_;rintro e w' ⟨rfl,rfl⟩)
         | (go_at_call 126;refine (HDL.out _).mono ?_;rintro e w' ⟨rfl,rfl⟩))
       go_ret
       exact ⟨by rw [HG.out];rfl,rfl⟩
   · obtain rfl:j=bs.length:=by omega
     have hg:=HJ.out
     rw [List.drop_length] at hg
     have HG:=Lib.hid (show R=bs.length from hg)
     clear hg
     go_wp2
     go_ret
     exact ⟨by rw [HG.out];rfl,rfl⟩
theorem zfc {w:World} {a:Option Addr} {cap:Nat} {bs:List UInt8} (hr:Row w 1 a bs.length cap (bs.map u8C)) (hn:bs.length≤400000) :
   Calls Tryz.prog 125 #[.slice a bs.length cap] w (zc4 w (zc8 bs)):=by
 obtain ⟨V,hV⟩:∃V,V=zc8 bs:=⟨_,rfl⟩
 rw [←hV]
 rw [nameV_fin] at hV
 have HV:=Lib.hid hV
 obtain ⟨r,hrr⟩:∃r,r=w.heap.size:=⟨_,rfl⟩
 have HBX:=Lib.hid (show (w.alloc (.cells #[.int .i64 0,.int .i64 0,.string ⟨#[]⟩,.slice none 0 0] 27)).heap[r]?=some (.cells #[.int .i64 0,.int .i64 0,.string ⟨#[]⟩,.slice none 0 0] 27 (0,0)) from zac _ hrr)
 have HB0:=Lib.hid (zak w (.cells #[.int .i64 0,.int .i64 0,.string ⟨#[]⟩,.slice none 0 0] 27))
 have HRR:=Lib.hid hrr
 have HC:=Lib.hid (fun (W:World) (h:Below w.heap.size w W) j (hj:j<bs.length)=>(hr.mono h).at 0 j hj)
 have HCB:=Lib.hid (fun j (hj:j<bs.length)=>hr.at 0 j hj)
 clear hV hrr hr
 go_enter Tryz.func125,Tryz.ntmps125
 go_wp2
 rw [←HRR.out]
 generalize w.alloc (.cells #[.int .i64 0,.int .i64 0,.string ⟨#[]⟩,.slice none 0 0] 27)=W0 at *
 have hr0:=(Array.getElem?_eq_some_iff.1 HBX.out).1
 go_loopw [4,5] (fun v i wr=>∃(k:Nat) (o:List UInt8),k≤bs.length∧i=.int .i64 k∧o.length≤k∧Hid (wr.ownsRow W0.heap.size 5 1 v o.length (o.map u8C))∧Hid (Below W0.heap.size W0 wr)∧Hid (V=finN (zbU o (bs.drop k)))) (fun _ i _=>bs.length-(intOf i).toNat)
 case atStart=>exact ⟨0,[],by omega,by go_num,by simp,Lib.hid (World.ownsRow_nil _ _ _ _),Lib.hid (Below.refl _ _),HV⟩
 case round =>
   obtain ⟨k,o,hk,rfl,hok,HO,HB,HG⟩:=hrel
   have HBR:=Lib.hid (zab HB.out HBX.out)
   have HBW:=Lib.hid (HB0.out.trans (HB.out.mono HB0.out.size))
   have hsz:=HB.out.size
   by_cases hlt:k<bs.length
   · have hg:=HG.out
     rw [zat hlt] at hg
     obtain ⟨b,off,ha,-,hc⟩:=HC.out wr HBW.out k hlt
     have hbW:b<w.heap.size:=by
       obtain ⟨b',off',ha',hb',-⟩:=HCB.out k hlt
       rw [ha] at ha';cases ha';exact hb'
     unfold u8C at hc
     have hcj:=hc k hlt
     have hki:decide ((k:Int)<bs.length)=true:=decide_eq_true (by omega)
     have hkn:decide (k<bs.length)=true:=decide_eq_true hlt
     have hkl:(k:Int)<bs.length:=by omega
     subst ha
     obtain ⟨c,hcc⟩:∃c,bs.getD k 0=c:=⟨_,rfl⟩
     rw [hcc] at hcj hg
     clear hcc
     by_cases h35:c=35
     · subst h35
       rw [show ((35:UInt8).toNat:Int)=35 from rfl] at hcj
       by_cases h2:bs.length≤k+2
       · have HNONE:=Lib.hid (show V=none by rw [hg,zec _ _ (by rw [List.length_drop];omega)];rfl)
         have h2d:decide ((bs.length:Int)≤(k:Int)+2)=true:=decide_eq_true (by omega)
         clear hg hc
         obtain ⟨⟨k0,k1,k2,k3⟩,f0,f1,f2,f3⟩:=zam HBR.out
         go_wp2
         refine bodyPost_ret (zaa rfl _ _ r 27 _ (0,0) _ rfl (set4 HBR.out _ _ _ _) Tryz.underlying27 rfl zaj _ rfl) rfl ?_
         exact zbt HNONE.out (zad HBW.out (by have:=HRR.out;omega) _ _ _ _)
       · have h2d:decide ((bs.length:Int)≤(k:Int)+2)=false:=decide_eq_false (by omega)
         have h1':k+1<bs.length:=by omega
         have h2':k+1+1<bs.length:=by omega
         rw [zat h1',zat h2',zfs] at hg
         have c1:=hc (k+1) h1'
         have c2:=hc (k+2) h2'
         have l1:(k:Int)+1<bs.length:=by omega
         have l2:(k:Int)+2<bs.length:=by omega
         have hA:=zgg (bs.getD (k+1) 0)
         have hB:=zgg (bs.getD (k+1+1) 0)
         have HHA:=Lib.hid (fun W=>zgH (bs.getD (k+1) 0) W)
         have HHB:=Lib.hid (fun W=>zgH (bs.getD (k+1+1) 0) W)
         rw [show k+2=k+1+1 from rfl] at c2
         generalize hexD (bs.getD (k+1) 0)=A at *
         generalize hexD (bs.getD (k+1+1) 0)=B at *
         generalize (bs.getD (k+1) 0).toNat=x at *
         generalize (bs.getD (k+1+1) 0).toNat=y at *
         rw [show k+1+1=k+2 from rfl] at c2
         clear hc
         by_cases hAn:A<0
         · have HNONE:=Lib.hid (show V=none by rw [hg,if_pos (.inl hAn)];rfl)
           have hAd:decide (A<0)=true:=decide_eq_true hAn
           clear hg
           obtain ⟨⟨k0,k1,k2,k3⟩,f0,f1,f2,f3⟩:=zam HBR.out
           go_wp2_with fail
           refine (HHA.out _).mono ?_
           rintro e w9 ⟨rfl,rfl⟩
           go_wp2
           refine bodyPost_ret (zaa rfl _ _ r 27 _ (0,0) _ rfl (set4 HBR.out _ _ _ _) Tryz.underlying27 rfl zaj _ rfl) rfl ?_
           exact zbt HNONE.out (zad HBW.out (by have:=HRR.out;omega) _ _ _ _)
         · have hAd:decide (A<0)=false:=decide_eq_false hAn
           by_cases hBn:B<0
           · have HNONE:=Lib.hid (show V=none by rw [hg,if_pos (.inr hBn)];rfl)
             have hBd:decide (B<0)=true:=decide_eq_true hBn
             clear hg hAn
             obtain ⟨⟨k0,k1,k2,k3⟩,f0,f1,f2,f3⟩:=zam HBR.out
             go_wp2_with fail
             refine (HHA.out _).mono ?_
             rintro e w9 ⟨rfl,rfl⟩
             go_wp2_with fail
             refine (HHB.out _).mono ?_
             rintro e w9 ⟨rfl,rfl⟩
             go_wp2
             refine bodyPost_ret (zaa rfl _ _ r 27 _ (0,0) _ rfl (set4 HBR.out _ _ _ _) Tryz.underlying27 rfl zaj _ rfl) rfl ?_
             exact zbt HNONE.out (zad HBW.out (by have:=HRR.out;omega) _ _ _ _)
           · have hBd:decide (B<0)=false:=decide_eq_false hBn
             rw [if_neg (by rintro (h|h)<;>contradiction)] at hg
             have HG2:=Lib.hid hg
             have HBY:=Lib.hid (zes (16 * A+B) (by omega) (by omega))
             have hA0:0≤A:=by omega
             have hB0:0≤B:=by omega
             obtain ⟨hA1,hA2⟩:=hA
             obtain ⟨hB1,hB2⟩:=hB
             have ak:u4.ownBlock≠some b:=fun e=>by have h1:=(HO.out.lt b e).1;have:=HB0.out.size;omega
             have hb1w:b<wr.heap.size:=by have:=HBW.out.size;omega
             have HKK:=Lib.hid (show k+3≤bs.length∧bs.length-(k+3)<bs.length-k by omega)
             have i1:IntKind.i64.wrap ((k:Int)+1)=(k:Int)+1:=IntWalk.i64_in _ (by omega)
             have i2:IntKind.i64.wrap ((k:Int)+2)=(k:Int)+2:=IntWalk.i64_in _ (by omega)
             have i3:IntKind.i64.wrap (16 * A)=16 * A:=IntWalk.i64_in _ (by omega)
             have i4:IntKind.i64.wrap (16 * A+B)=16 * A+B:=IntWalk.i64_in _ (by omega)
             have i5:IntKind.u8.wrap (16 * A+B)=16 * A+B:=by rw [IntKind.wrap_u8];omega
             have i6:((k:Int)+1).toNat=k+1:=by omega
             have i7:((k:Int)+2).toNat=k+2:=by omega
             have i8:(0:Int)≤(k:Int)+1:=by omega
             have i9:(0:Int)≤(k:Int)+2:=by omega
             clear hg hAn hBn
             go_wp2_with fail
             refine (HHA.out _).mono ?_
             rintro e w9 ⟨rfl,rfl⟩
             go_wp2_with fail
             refine (HHB.out _).mono ?_
             rintro e w9 ⟨rfl,rfl⟩
             go_wp2
             go_region_held3 (fun w'=>w'.cell? ⟨b,off+(k+1),none⟩=some (.int .u8 x)∧w'.cell? ⟨b,off+(k+2),none⟩=some (.int .u8 y))
               (first
                 | go_keep
                 | (go_split_ands
                    refine ⟨?_,?_⟩
                    · (rw [hgrow.cell_far _ (by simp;omega) (Ne.symm ak)];assumption)
                    · (rw [hgrow.cell_far _ (by simp;omega) (Ne.symm ak)];assumption)))
               (first
                 | (go_at_call 162;with_reducible refine (HHA.out _).mono ?_;rintro e w9 ⟨rfl,rfl⟩)
                 | (go_at_call 162;with_reducible refine (HHB.out _).mono ?_;rintro e w9 ⟨rfl,rfl⟩)
                 | (obtain ⟨iB,hiB,hzB,hsB,hbB⟩:=info_parts zcj.info;refine step_append_lies _ (by rfl) _ _ _ (by rfl) W0.heap.size 5 iB _ 1 1 zcj.und hiB hzB hsB hbB rfl (by omega) u4 o.length _ (by rfl) ((HO.out.alloc _).drew) ⟨wr.heap.size,0,none⟩ 1 1 [.int .u8 (16 * A+B)] (by rfl) (by rfl) (World.news_of_block (cs:=#[.int .u8 (16 * A+B)]) (t:=5) (fr:=(0,0)) (heap_alloc_new wr _)) (by simp [Value.oneCell']) (by omega) (by unfold maxLen;omega) (by omega) (by simp;omega) (wr.heap.size+1) (by simp) ?_;intro g cap7 w7 hO7 hgrow hat hlt))
             have HP7:=Lib.hid (show w7.ownsRow W0.heap.size 5 1 (.slice (some ⟨g,0,none⟩) (o.length+1) cap7) (o++[UInt8.ofNat (16 * A+B).toNat]).length ((o++[UInt8.ofNat (16 * A+B).toNat]).map u8C)∧Below W0.heap.size W0 w7 from
               zbS (UInt8.ofNat (16 * A+B).toNat) (.cells #[.int .u8 (16 * A+B)] 5) (zae HB.out 1) hsz (zaG HO.out (zae (Below.refl _ _) 1)) (show Value.int .u8 (16 * A+B)=u8C (UInt8.ofNat (16 * A+B).toNat) from congrArg (Value.int .u8) HBY.out) hO7 hgrow)
             clear hgrow hO7 hat hlt ak i1 i2 i3 i4 i5 i6 i7 i8 i9
             go_wp2
             go_roundw
             case rel=>exact ⟨k+3,o++[UInt8.ofNat (16 * A+B).toNat],HKK.out.1,by go_num,by simp;omega,Lib.hid HP7.out.1,Lib.hid HP7.out.2,Lib.hid HG2.out⟩
             case measure=>have:=HKK.out.2;simp only [intOf];omega
     · rw [zeQ _ _ _ h35] at hg
       have HG2:=Lib.hid hg
       have e35:=zar h35 35 rfl
       have e36:((c.toNat:Int) != 35)=true:=by simp only [bne,e35,Bool.not_false]
       clear hg h35 hc
       obtain ⟨x,hx⟩:∃x,c.toNat=x:=⟨_,rfl⟩
       rw [hx] at hcj e35 e36
       have HX:=Lib.hid (show Value.int .u8 (x:Int)=u8C c by rw [←hx];rfl)
       clear hx
       go_wp2_with (at_builtin;refine zaH zcj rfl (.tmp 18) (.tmp 23) rfl W0.heap.size _ o.length _ rfl (HO.out.alloc _) _ 1 _ _ rfl (zbk _ _ _) (zbz rfl) (by unfold maxLen;omega) (by omega) (by rw [zap];omega) ?_;intro v' w5 hO5 hg5 hnil5;have HP5:=Lib.hid (zbS c _ HB.out hsz HO.out HX.out hO5 hg5);clear hO5 hg5 hnil5)
       go_roundw
       case rel=>exact ⟨k+1,o++[c],by omega,by go_num,by simp;omega,Lib.hid HP5.out.1,Lib.hid HP5.out.2,HG2⟩
       case measure=>simp [intOf];omega
   · obtain rfl:k=bs.length:=by omega
     have hg:=HG.out
     rw [List.drop_length] at hg
     have hg2:V=if 127<o.length∨(0:UInt8)∈o then none else some o:=hg
     have HG2:=Lib.hid hg2
     have HCV:=Lib.hid (zdA HO.out)
     obtain ⟨a1,cap1,hv1,hrow,-⟩:=Row.of_owns HO.out
     have HROW:=Lib.hid hrow
     have hol:o.length≤400000:=by omega
     have hki:decide ((bs.length:Int)<bs.length)=false:=decide_eq_false (by omega)
     subst hv1
     clear hg hg2 hrow
     go_wp2
     go_loop [6] (fun i=>∃m:Nat,m≤o.length∧i=.int .i64 m∧Hid (∀j,j<m→o.getD j 0≠0)) (fun i=>o.length-(intOf i).toNat)
     case atStart=>exact ⟨0,by omega,by go_num,Lib.hid (fun j hj=>by omega)⟩
     case round =>
       obtain ⟨m,hm,rfl,HZ⟩:=hrel
       by_cases hmo:m<o.length
       · obtain ⟨b1,off1,he,-,hce⟩:=HROW.out.at 0 m hmo
         have cm:=hce m hmo
         unfold u8C at cm
         subst he
         have hmn:decide (m<o.length)=true:=decide_eq_true hmo
         have hmi:(m:Int)<o.length:=by omega
         clear hce
         by_cases hz:o.getD m 0=0
         · have hmem:(0:UInt8)∈o:=by
             rw [←hz,List.getD_eq_getElem?_getD,List.getElem?_eq_getElem hmo];exact List.getElem_mem _
           have HNONE:=Lib.hid (show V=none by rw [HG2.out,if_pos (.inr hmem)])
           clear hmem
           rw [hz,show ((0:UInt8).toNat:Int)=0 from rfl] at cm
           clear hz
           obtain ⟨⟨k0,k1,k2,k3⟩,f0,f1,f2,f3⟩:=zam HBR.out
           go_wp2
           refine bodyPost_ret (zaa rfl _ _ r 27 _ (0,0) _ rfl (set4 HBR.out _ _ _ _) Tryz.underlying27 rfl zaj _ rfl) rfl ?_
           exact zbt HNONE.out (zad HBW.out (by have:=HRR.out;omega) _ _ _ _)
         · have e0:=zar hz 0 rfl
           have HZ2:=Lib.hid (show ∀j,j<m+1→o.getD j 0≠0 from fun j hj=>by
             by_cases e:j=m
             · subst e;exact hz
             · exact HZ.out j (by omega))
           generalize (o.getD m 0).toNat=x at *
           clear hz
           go_wp2
           go_round
           case rel=>exact ⟨m+1,hmo,by go_num,HZ2⟩
           case measure=>simp [intOf];omega
       · obtain rfl:m=o.length:=by omega
         have hn0:¬(0:UInt8)∈o:=fun hm=>by
           obtain ⟨j,hj,hje⟩:=List.getElem_of_mem hm
           refine HZ.out j hj ?_
           rw [List.getD_eq_getElem?_getD,List.getElem?_eq_getElem hj];exact hje
         by_cases h127:127<o.length
         · have HNONE:=Lib.hid (show V=none by rw [HG2.out,if_pos (.inl h127)])
           have h127d:decide ((127:Int)<o.length)=true:=decide_eq_true (by omega)
           have h127e:decide (127<o.length)=true:=decide_eq_true h127
           clear hn0
           obtain ⟨⟨k0,k1,k2,k3⟩,f0,f1,f2,f3⟩:=zam HBR.out
           go_wp2
           refine bodyPost_ret (zaa rfl _ _ r 27 _ (0,0) _ rfl (set4 HBR.out _ _ _ _) Tryz.underlying27 rfl zaj _ rfl) rfl ?_
           exact zbt HNONE.out (zad HBW.out (by have:=HRR.out;omega) _ _ _ _)
         · have HS:=Lib.hid (show V=some o by rw [HG2.out,if_neg (by rintro (h|h)<;>contradiction)])
           have h127d:decide ((127:Int)<o.length)=false:=decide_eq_false (by omega)
           have h127e:decide (127<o.length)=false:=decide_eq_false h127
           clear hn0 h127
           have hcv:=HCV.out
           obtain ⟨⟨k0,k1,k2,k3⟩,f0,f1,f2,f3⟩:=zam HBR.out
           go_wp2
           refine bodyPost_ret (zaa rfl _ _ r 27 _ (0,0) _ rfl (set4 HBR.out _ _ _ _) Tryz.underlying27 rfl zaj _ rfl) rfl ?_
           exact name_some HS.out (zad HBW.out (by have:=HRR.out;omega) _ _ _ _)
theorem zao:(Tryz.prog.info? 111).map (·.size)=some 8:=by kernel_rfl
structure PA (p:List UInt8) (N:Int) (ov:Bool):Prop where
 dg:p.all isDg=true
 ov_:ov=decide (2147483647<valD p)
 n:ov=false→N=(valD p:Nat)
def PB (p:List UInt8) (i:Nat) (N P:Int) (ov:Bool):Prop:=∃w r,p=w++46::r∧w.length=i∧PA w N ov∧r.all isDg=true∧P=(mil r:Nat)
theorem PA.nil:PA [] 0 false:=⟨rfl,rfl,fun _=>rfl⟩
theorem PA.over {p:List UInt8} {N:Int} (h:PA p N true) {c:UInt8} (hc:isDg c=true):PA (p++[c]) N true :=
 ⟨zdn _ _ h.dg hc,by have:=h.ov_;rw [eq_comm,decide_eq_true_iff] at this;rw [eq_comm,decide_eq_true_iff,zck];omega,fun h=>by cases h⟩
theorem PA.more {p:List UInt8} {N:Int} (h:PA p N false) {c:UInt8} (hc:isDg c=true) (M:Int) (hM:M=10 * N+(dgV c:Nat)) (o:Bool) (ho:o=decide (2147483647<M)):PA (p++[c]) M o:=by
 have h1:=h.n rfl
 have hv:M=(valD (p++[c]):Nat):=by rw [zck,hM,h1];omega
 refine ⟨zdn _ _ h.dg hc,?_,fun _=>hv⟩
 rw [ho,Bool.eq_iff_iff,decide_eq_true_iff,decide_eq_true_iff];omega
theorem PA.point {p:List UInt8} {N:Int} {ov:Bool} (h:PA p N ov):PB (p++[46]) p.length N 0 ov:=⟨p,[],rfl,rfl,h,rfl,rfl⟩
theorem mil_by (r:List UInt8) (c:UInt8) (b:Nat) (hb:b=100000 / 10 ^ (min (r.length+1) 7-1)):mil (r++[c])=mil r+b * dgV c:=by
 by_cases h:r.length<6
 · rw [mil_snoc_lt r c h,hb,Nat.min_eq_left (by omega)]
   congr 2
   have:r.length=0∨r.length=1∨r.length=2∨r.length=3∨r.length=4∨r.length=5:=by omega
   rcases this with h|h|h|h|h|h<;>rw [h]
 · rw [mil_snoc_ge r c (by omega),hb,Nat.min_eq_right (by omega)]
   simp
theorem PB.more {p:List UInt8} {i:Nat} {N P:Int} {ov:Bool} (h:PB p i N P ov) {c:UInt8} (hc:isDg c=true) (b:Nat) (hb:b=100000 / 10 ^ (min (p.length-i) 7-1)) (Q:Int) (hQ:Q=P+(b:Int) * ((c.toNat:Int)-48)):PB (p++[c]) i N Q ov:=by
 obtain ⟨w,r,e,hl,hA,hr,hP⟩:=h
 have hlen:=congrArg List.length e
 simp only [List.length_append,List.length_cons] at hlen
 refine ⟨w,r++[c],by rw [e];simp,hl,hA,zdn _ _ hr hc,?_⟩
 rw [mil_by r c b (by rw [hb];congr 3;omega),hQ,hP,←zc1 hc]
 push_cast
 rfl
theorem PB.bad {p:List UInt8} {i:Nat} {N P:Int} {ov:Bool} (h:PB p i N P ov) (sg:Int) (c:UInt8) (t:List UInt8) (hc:isDg c=false):za0 sg (p++c::t)=(0,0,11):=by
 obtain ⟨w,r,e,hl,hA,hr,hP⟩:=h
 rw [e]
 have:w++46::r++c::t=w++46::(r++c::t):=by simp
 rw [this]
 exact parseB_bad2 sg w r t c hA.dg hc
theorem PB.bd {p:List UInt8} {i:Nat} {N P:Int} {ov:Bool} (h:PB p i N P ov):0≤P∧P≤999999:=by
 obtain ⟨w,r,e,hl,hA,hr,rfl⟩:=h
 have:=zfM r hr
 omega
theorem PA.fin {p:List UInt8} {N:Int} {ov:Bool} (h:PA p N ov) (sg:Int):za0 sg p=if p.length=0 then (0,0,11) else if ov=true then (0,0,5) else (2,sg * N,0):=by
 rw [parseB_int sg p h.dg]
 by_cases h0:p.length=0
 · rw [if_pos h0,if_pos h0]
 · rw [if_neg h0,if_neg h0]
   have h1:=h.ov_
   cases ov
   · rw [eq_comm,decide_eq_false_iff_not] at h1
     rw [if_neg h1,if_neg (by decide),h.n rfl]
   · rw [eq_comm,decide_eq_true_iff] at h1
     rw [if_pos h1,if_pos rfl]
theorem PB.fin {p:List UInt8} {i:Nat} {N P:Int} {ov:Bool} (h:PB p i N P ov) (sg:Int):za0 sg p=if p.length=1 then (0,0,11) else if ov=true∨(N=2147483647∧0<P) then (0,0,5) else (3,sg * (1000000 * N+P),0):=by
 obtain ⟨w,r,e,hl,hA,hr,rfl⟩:=h
 have hlen:=congrArg List.length e
 simp only [List.length_append,List.length_cons] at hlen
 rw [e,parseB_real sg w r hA.dg hr,←e]
 by_cases h0:p.length=1
 · rw [if_pos h0,if_pos (by omega)]
 · rw [if_neg h0,if_neg (by omega)]
   have h1:=hA.ov_
   cases ov
   · rw [eq_comm,decide_eq_false_iff_not] at h1
     have h2:=hA.n rfl
     by_cases h3:N=2147483647∧0<((mil r:Nat):Int)
     · rw [if_pos (.inr (by omega)),if_pos (.inr h3)]
     · rw [if_neg (by rintro (h|h);exact h1 h;exact h3 (by omega)),if_neg (by rintro (h|h);cases h;exact h3 h),h2]
       rw [Int.natCast_add,Int.natCast_mul,Int.mul_comm 1000000];rfl
   · rw [eq_comm,decide_eq_true_iff] at h1
     rw [if_pos (.inl h1),if_pos (.inl rfl)]
def St (b:List UInt8) (a K:Nat) (N P D T:Int) (ov:Bool):Prop :=
 (T=-1∧P=0∧D=(K:Int)-(a:Int)∧PA (b.take (K-a)) N ov)∨(∃i:Nat,T=(a:Int)+(i:Int)∧i<K-a∧D=(K:Int)-(a:Int)-1∧PB (b.take (K-a)) i N P ov)
theorem at_take (s:ByteArray) (a k:Nat) (h:k<s.size) (ha:a≤k):((bl s).drop a).take (k+1-a)=((bl s).drop a).take (k-a)++[s[k]]:=by
 rw [show k+1-a=(k-a)+1 from by omega,List.take_succ_eq_append_getElem (by rw [List.length_drop,zaA];omega),List.getElem_drop]
 congr 2
 rw [←bl_get s k h]
 congr 1
 omega
theorem zgx (s:ByteArray) (a k:Nat) (h:k<s.size) (ha:a≤k):(bl s).drop a=((bl s).drop a).take (k-a)++s[k]::(bl s).drop (k+1):=by
 have h1:=List.take_append_drop (k-a) ((bl s).drop a)
 rw [List.drop_drop,show a+(k-a)=k from by omega,zdS s k h] at h1
 exact h1.symm
set_option maxHeartbeats 16000000 in
theorem rparse_none (s:ByteArray) (w:World) (hs:s.size≤400000) (h0:0<s.size) (hn43:PlainAid.bt s 0≠43) (hn45:PlainAid.bt s 0≠45) :
   Calls Tryz.prog 127 #[.string s] w (zbl (zaK (bl s)) w):=by
 have hbx:(w.alloc (.cells #[.int .i64 0,.int .i64 0,.string ⟨#[]⟩,.slice none 0 0] 27)).heap[w.heap.size]?=some (.cells #[.int .i64 0,.int .i64 0,.string ⟨#[]⟩,.slice none 0 0] 27 (0,0)):=zac _ rfl
 have hB0:=zak w (.cells #[.int .i64 0,.int .i64 0,.string ⟨#[]⟩,.slice none 0 0] 27)
 have HBX:=Lib.hid hbx
 have HB0:=Lib.hid hB0
 obtain ⟨V,hV⟩:∃V,V=zaK (bl s):=⟨_,rfl⟩
 rw [←hV]
 have HV:=Lib.hid hV
 clear hV hbx hB0
 · have hgb:=PlainAid.get_bt s
   have hx:(s[0].toNat:Int)=PlainAid.bt s 0:=hgb 0 h0
   have h43:(PlainAid.bt s 0==43)=false:=by rw [beq_eq_false_iff_ne];exact hn43
   have h45:(PlainAid.bt s 0==45)=false:=by rw [beq_eq_false_iff_ne];exact hn45
   have HS:=Lib.hid (show V=za0 1 ((bl s).drop 0) by
     have hb:=zdS s 0 h0
     have a1:s[0]≠45:=fun e=>hn45 (by rw [←hx,e];rfl)
     have a2:s[0]≠43:=fun e=>hn43 (by rw [←hx,e];rfl)
     rw [List.drop_zero] at hb
     rw [HV.out,zaK,List.drop_zero]
     unfold zcC zcG
     rw [hb,List.head?_cons,if_neg (by simpa using a1),if_neg (by simp;exact ⟨a1,a2⟩)])
   clear hx hn43 hn45
   go_enter Tryz.func127,Tryz.ntmps127
   go_wp2
   generalize w.alloc (.cells #[.int .i64 0,.int .i64 0,.string ⟨#[]⟩,.slice none 0 0] 27)=W at *
   go_loop [5,6,7,8,9,10] (fun n p d t o i=>∃(K:Nat) (N P D T:Int) (ov:Bool),0≤K∧K≤s.size∧n=.int .i64 N∧p=.int .i64 P∧d=.int .i64 D∧t=.int .i64 T∧o=.bool ov∧i=.int .i64 K∧0≤N∧N≤21474836479∧(ov=false→N≤2147483647)∧0≤P∧P≤999999∧0≤D∧D≤K∧Hid (St ((bl s).drop 0) 0 K N P D T ov))
     (fun _ _ _ _ _ i=>s.size-(intOf i).toNat)
   case atStart=>exact ⟨0,0,0,0,-1,false,Nat.le_refl _,by omega,rfl,rfl,rfl,rfl,rfl,rfl,by omega,by omega,fun _=>by omega,by omega,by omega,by omega,by omega,Lib.hid (.inl ⟨rfl,rfl,by omega,PA.nil⟩)⟩
   case round =>
     obtain ⟨K,N,P,D,T,ov,hK0,hK1,rfl,rfl,rfl,rfl,rfl,rfl,hN0,hN1,hNo,hP0,hP1,hD0,hD1,HST⟩:=hrel
     by_cases hlt:K<s.size
     · have hgb:=PlainAid.get_bt s
       have hx:(s[K].toNat:Int)=PlainAid.bt s K:=hgb K hlt
       have HTK:=Lib.hid (at_take s 0 K hlt hK0)
       have HSP:=Lib.hid (zgx s 0 K hlt hK0)
       have hx0:=PlainAid.bt_nonneg s K
       have hx1:=PlainAid.bt_le s K
       have HX:=Lib.hid hx
       clear hx
       rcases HST.out with ⟨rfl,rfl,hD,hA⟩|⟨i,rfl,hi,hD,hB⟩
       · have HA:=Lib.hid hA
         have HD:=Lib.hid hD
         clear hA hD HST
         by_cases h46:PlainAid.bt s K=46
         · have HB:=Lib.hid (show PB (((bl s).drop 0).take (K+1-0)) (K-0) N 0 ov by
             rw [HTK.out,show s[K]=46 from UInt8.toNat_inj.1 (by have:=HX.out;rw [h46] at this;exact Int.ofNat_inj.1 this)]
             have:=HA.out.point
             rwa [show (((bl s).drop 0).take (K-0)).length=K-0 from by rw [List.length_take,List.length_drop,zaA];omega] at this)
           have h46d:(PlainAid.bt s K==46)=true:=by rw [beq_iff_eq];exact h46
           clear h46
           go_wp2
           go_round
           case rel=>exact ⟨K+1,N,0,D,K,ov,by omega,by omega,rfl,rfl,rfl,rfl,rfl,by go_num,hN0,hN1,hNo,by omega,by omega,hD0,by omega,Lib.hid (.inr ⟨K-0,by omega,by omega,by have:=HD.out;omega,HB.out⟩)⟩
           case measure=>simp [intOf];omega
         · have h46d:(PlainAid.bt s K==46)=false:=by rw [beq_eq_false_iff_ne];exact h46
           have HNE:=Lib.hid (show s[K]≠46 from fun e=>h46 (by rw [←HX.out,e];rfl))
           clear h46
           by_cases h48:48≤PlainAid.bt s K
           · by_cases h57:PlainAid.bt s K≤57
             · have HDG:=Lib.hid (show isDg s[K]=true by rw [zbc];have:=HX.out;omega)
               have HDV:=Lib.hid (show ((dgV s[K]:Nat):Int)=PlainAid.bt s K-48 by rw [zc1 HDG.out,HX.out])
               have h48d:decide (48≤PlainAid.bt s K)=true:=by simpa using h48
               have h57d:decide (PlainAid.bt s K≤57)=true:=by simpa using h57
               cases ov
               · have hN2:=hNo rfl
                 by_cases hM:2147483647<10 * N+PlainAid.bt s K-48
                 · have HA2:=Lib.hid (show PA (((bl s).drop 0).take (K+1-0)) (10 * N+PlainAid.bt s K-48) true by
                     rw [HTK.out];exact HA.out.more HDG.out _ (by have:=HDV.out;omega) _ (by rw [eq_comm,decide_eq_true_iff];exact hM))
                   go_wp2
                   go_round
                   case rel=>exact ⟨K+1,10 * N+PlainAid.bt s K-48,0,D+1,-1,true,by omega,by omega,rfl,rfl,rfl,rfl,rfl,by go_num,by omega,by omega,(fun h=>by cases h),by omega,by omega,by omega,by omega,Lib.hid (.inl ⟨rfl,rfl,by have:=HD.out;omega,HA2.out⟩)⟩
                   case measure=>simp [intOf];omega
                 · have HA2:=Lib.hid (show PA (((bl s).drop 0).take (K+1-0)) (10 * N+PlainAid.bt s K-48) false by
                     rw [HTK.out];exact HA.out.more HDG.out _ (by have:=HDV.out;omega) _ (by rw [eq_comm,decide_eq_false_iff_not];exact hM))
                   have hMd:decide (2147483647<10 * N+PlainAid.bt s K-48)=false:=by simpa using hM
                   have hM2:10 * N+PlainAid.bt s K-48≤2147483647:=by omega
                   clear hM
                   go_wp2
                   go_round
                   case rel=>exact ⟨K+1,10 * N+PlainAid.bt s K-48,0,D+1,-1,false,by omega,by omega,rfl,rfl,rfl,rfl,rfl,by go_num,by omega,by omega,(fun _=>hM2),by omega,by omega,by omega,by omega,Lib.hid (.inl ⟨rfl,rfl,by have:=HD.out;omega,HA2.out⟩)⟩
                   case measure=>simp [intOf];omega
               · have HA2:=Lib.hid (show PA (((bl s).drop 0).take (K+1-0)) N true by rw [HTK.out];exact HA.out.over HDG.out)
                 go_wp2
                 go_round
                 case rel=>exact ⟨K+1,N,0,D+1,-1,true,by omega,by omega,rfl,rfl,rfl,rfl,rfl,by go_num,hN0,hN1,hNo,by omega,by omega,by omega,by omega,Lib.hid (.inl ⟨rfl,rfl,by have:=HD.out;omega,HA2.out⟩)⟩
                 case measure=>simp [intOf];omega
             · have HL:=Lib.hid (show V=(0,0,11) by
                 rw [HS.out,HSP.out];exact zbB _ _ _ _ HA.out.dg HNE.out (by rw [zbE];have:=HX.out;omega))
               have h48d:decide (48≤PlainAid.bt s K)=true:=by simpa using h48
               have h57d:decide (PlainAid.bt s K≤57)=false:=by simpa using h57
               obtain ⟨⟨k0,k1,k2,k3⟩,f0,f1,f2,f3⟩:=zam HBX.out
               go_wp2
               refine bodyPost_ret (zaa rfl _ _ w.heap.size 27 _ (0,0) _ rfl (set4 HBX.out _ _ _ _) Tryz.underlying27 rfl zaj _ rfl) rfl ⟨?_,zad HB0.out (Nat.le_refl _) _ _ _ _⟩
               rw [HL.out]
               rfl
           · have HL:=Lib.hid (show V=(0,0,11) by
               rw [HS.out,HSP.out];exact zbB _ _ _ _ HA.out.dg HNE.out (by rw [zbE];have:=HX.out;omega))
             have h48d:decide (48≤PlainAid.bt s K)=false:=by simpa using h48
             obtain ⟨⟨k0,k1,k2,k3⟩,f0,f1,f2,f3⟩:=zam HBX.out
             go_wp2
             refine bodyPost_ret (zaa rfl _ _ w.heap.size 27 _ (0,0) _ rfl (set4 HBX.out _ _ _ _) Tryz.underlying27 rfl zaj _ rfl) rfl ⟨?_,zad HB0.out (Nat.le_refl _) _ _ _ _⟩
             rw [HL.out]
             rfl
       · have HB:=Lib.hid hB
         have HD:=Lib.hid hD
         clear hB hD HST
         have hpt:decide ((0:Int)+(i:Int)<0)=false:=decide_eq_false (by omega)
         have hpt2:decide ((i:Int)<0)=false:=decide_eq_false (by omega)
         have hpt3:0≤(0:Int)+(i:Int):=by omega
         by_cases h48:48≤PlainAid.bt s K
         · have h48d:decide (48≤PlainAid.bt s K)=true:=by simpa using h48
           have h46d:(PlainAid.bt s K==46)=false:=by rw [beq_eq_false_iff_ne];omega
           by_cases h57:PlainAid.bt s K≤57
           · have h57d:decide (PlainAid.bt s K≤57)=true:=by simpa using h57
             have HDG:=Lib.hid (show isDg s[K]=true by rw [zbc];have:=HX.out;omega)
             go_wp2
             go_loop [11,12] (fun b j=>∃(J:Nat) (B:Int),1≤J∧J≤7∧J≤K-0-i∧b=.int .i64 B∧j=.int .i64 J∧0≤B∧B≤100000∧Hid (B=(100000 / 10 ^ (J-1):Nat))) (fun _ j=>7-(intOf j).toNat)
             case atStart=>exact ⟨1,100000,by omega,by omega,by omega,rfl,rfl,by omega,by omega,Lib.hid rfl⟩
             case round =>
               obtain ⟨J,B,hJ1,hJ7,hJL,rfl,rfl,hB0,hB1,HBJ⟩:=hrel
               by_cases hJK:(J:Int)<(K:Int)-((i:Int))
               · have hJKd:decide ((J:Int)<(K:Int)-((i:Int)))=true:=by simpa using hJK
                 by_cases hJ7b:J<7
                 · have hJ7d:decide ((J:Int)<7)=true:=by simp;omega
                   have HBN:=Lib.hid (show B / 10=((100000 / 10 ^ (J+1-1):Nat):Int) by
                     rw [HBJ.out,show J+1-1=(J-1)+1 from by omega,Nat.pow_succ,←Nat.div_div_eq_div_mul];omega)
                   go_wp2
                   go_round
                   case rel=>exact ⟨J+1,B / 10,by omega,by omega,by omega,rfl,by go_num,by omega,by omega,HBN⟩
                   case measure=>simp [intOf];omega
                 · have hJ7d:decide ((J:Int)<7)=false:=decide_eq_false (by omega)
                   have hz0:0≤B * (PlainAid.bt s K-48):=Int.mul_nonneg hB0 (by omega)
                   have hz1:B * (PlainAid.bt s K-48)≤100000 * 9:=Int.mul_le_mul hB1 (by omega) (by omega) (by omega)
                   have HQ:=Lib.hid (show PB (((bl s).drop 0).take (K+1-0)) i N (P+B * (PlainAid.bt s K-48)) ov by
                     rw [HTK.out]
                     refine HB.out.more HDG.out (100000 / 10 ^ (J-1)) ?_ _ (by rw [HBJ.out,HX.out])
                     rw [List.length_take,List.length_drop,zaA]
                     congr 3
                     omega)
                   have hq:=HQ.out.bd
                   have hq0:=hq.1
                   have hq1:=hq.2
                   clear hq
                   have hwr:IntKind.i64.wrap (B * (PlainAid.bt s K-48))=B * (PlainAid.bt s K-48):=IntWalk.i64_in _ (by omega)
                   clear hz1
                   go_wp2
                   go_round
                   case rel=>exact ⟨K+1,N,P+B * (PlainAid.bt s K-48),D+1,_,ov,by omega,by omega,rfl,rfl,rfl,by go_num,rfl,by go_num,hN0,hN1,hNo,hq0,hq1,by omega,by omega,Lib.hid (.inr ⟨i,rfl,by omega,by have:=HD.out;omega,HQ.out⟩)⟩
                   case measure=>simp [intOf];omega
               · have hJKd:decide ((J:Int)<(K:Int)-((i:Int)))=false:=by simpa using hJK
                 have hz0:0≤B * (PlainAid.bt s K-48):=Int.mul_nonneg hB0 (by omega)
                 have hz1:B * (PlainAid.bt s K-48)≤100000 * 9:=Int.mul_le_mul hB1 (by omega) (by omega) (by omega)
                 have HQ:=Lib.hid (show PB (((bl s).drop 0).take (K+1-0)) i N (P+B * (PlainAid.bt s K-48)) ov by
                   rw [HTK.out]
                   refine HB.out.more HDG.out (100000 / 10 ^ (J-1)) ?_ _ (by rw [HBJ.out,HX.out])
                   rw [List.length_take,List.length_drop,zaA]
                   congr 3
                   omega)
                 have hq:=HQ.out.bd
                 have hq0:=hq.1
                 have hq1:=hq.2
                 clear hq
                 have hwr:IntKind.i64.wrap (B * (PlainAid.bt s K-48))=B * (PlainAid.bt s K-48):=IntWalk.i64_in _ (by omega)
                 clear hz1
                 go_wp2
                 go_round
                 case rel=>exact ⟨K+1,N,P+B * (PlainAid.bt s K-48),D+1,_,ov,by omega,by omega,rfl,rfl,rfl,by go_num,rfl,by go_num,hN0,hN1,hNo,hq0,hq1,by omega,by omega,Lib.hid (.inr ⟨i,rfl,by omega,by have:=HD.out;omega,HQ.out⟩)⟩
                 case measure=>simp [intOf];omega
           · have HL:=Lib.hid (show V=(0,0,11) by
               rw [HS.out,HSP.out];exact HB.out.bad _ _ _ (by rw [zbE];have:=HX.out;omega))
             have h57d:decide (PlainAid.bt s K≤57)=false:=by simpa using h57
             obtain ⟨⟨k0,k1,k2,k3⟩,f0,f1,f2,f3⟩:=zam HBX.out
             go_wp2
             refine bodyPost_ret (zaa rfl _ _ w.heap.size 27 _ (0,0) _ rfl (set4 HBX.out _ _ _ _) Tryz.underlying27 rfl zaj _ rfl) rfl ⟨?_,zad HB0.out (Nat.le_refl _) _ _ _ _⟩
             rw [HL.out]
             rfl
         · have HL:=Lib.hid (show V=(0,0,11) by
             rw [HS.out,HSP.out];exact HB.out.bad _ _ _ (by rw [zbE];have:=HX.out;omega))
           have h48d:decide (48≤PlainAid.bt s K)=false:=by simpa using h48
           obtain ⟨⟨k0,k1,k2,k3⟩,f0,f1,f2,f3⟩:=zam HBX.out
           by_cases h46:PlainAid.bt s K=46
           · have h46d:(PlainAid.bt s K==46)=true:=by rw [beq_iff_eq];exact h46
             clear h46
             go_wp2
             refine bodyPost_ret (zaa rfl _ _ w.heap.size 27 _ (0,0) _ rfl (set4 HBX.out _ _ _ _) Tryz.underlying27 rfl zaj _ rfl) rfl ⟨?_,zad HB0.out (Nat.le_refl _) _ _ _ _⟩
             rw [HL.out]
             rfl
           · have h46d:(PlainAid.bt s K==46)=false:=by rw [beq_eq_false_iff_ne];exact h46
             clear h46
             go_wp2
             refine bodyPost_ret (zaa rfl _ _ w.heap.size 27 _ (0,0) _ rfl (set4 HBX.out _ _ _ _) Tryz.underlying27 rfl zaj _ rfl) rfl ⟨?_,zad HB0.out (Nat.le_refl _) _ _ _ _⟩
             rw [HL.out]
             rfl
     · obtain rfl:K=s.size:=by omega
       have HTK:=Lib.hid (show ((bl s).drop 0).take (s.size-0)=(bl s).drop 0 by rw [List.take_of_length_le (by rw [List.length_drop,zaA];omega)])
       have HLEN:=Lib.hid (show ((bl s).drop 0).length=s.size-0 by rw [List.length_drop,zaA])
       have hwlt:=(Array.getElem?_eq_some_iff.1 HBX.out).1
       obtain ⟨⟨k0,k1,k2,k3⟩,f0,f1,f2,f3⟩:=zam HBX.out
       rcases HST.out with ⟨rfl,rfl,hD,hA⟩|⟨i,rfl,hi,hD,hB⟩
       · rw [HTK.out] at hA
         have HL:=Lib.hid (show V=if s.size-0=0 then (0,0,11) else if ov=true then (0,0,5) else (2,1 * N,0) by rw [HS.out,hA.fin,HLEN.out])
         clear hA HST
         by_cases hz:s.size-0=0
         · rw [if_pos hz] at HL
           have hDz:(D==0)=true:=by rw [beq_iff_eq];omega
           clear hD hz
           go_wp2
           refine bodyPost_ret (zaa rfl _ _ w.heap.size 27 _ (0,0) _ rfl (set4 HBX.out _ _ _ _) Tryz.underlying27 rfl zaj _ rfl) rfl ⟨?_,zad HB0.out (Nat.le_refl _) _ _ _ _⟩
           rw [HL.out]
           rfl
         · rw [if_neg hz] at HL
           have hDz:(D==0)=false:=by rw [beq_eq_false_iff_ne];omega
           clear hD hz
           cases ov
           · rw [if_neg (by decide)] at HL
             have hNo2:=hNo rfl
             go_wp2
             refine bodyPost_ret (zaa rfl _ _ w.heap.size 27 _ (0,0) _ rfl (zal _ (set4 HBX.out _ _ _ _)) Tryz.underlying27 rfl zaj _ rfl) rfl ⟨?_,(zad HB0.out (Nat.le_refl _) _ _ _ _).alloc (by simpa using Nat.le_of_lt hwlt) _⟩
             rw [HL.out]
             simp [valC,za6]
           · rw [if_pos rfl] at HL
             go_wp2
             refine bodyPost_ret (zaa rfl _ _ w.heap.size 27 _ (0,0) _ rfl (set4 HBX.out _ _ _ _) Tryz.underlying27 rfl zaj _ rfl) rfl ⟨?_,zad HB0.out (Nat.le_refl _) _ _ _ _⟩
             rw [HL.out]
             rfl
       · rw [HTK.out] at hB
         have HL:=Lib.hid (show V=if s.size-0=1 then (0,0,11) else if ov=true∨(N=2147483647∧0<P) then (0,0,5) else (3,1 * (1000000 * N+P),0) by rw [HS.out,hB.fin,HLEN.out])
         clear hB HST
         have hpt:decide (0≤(0:Int)+(i:Int))=true:=decide_eq_true (by omega)
         have hpt2:decide (0≤(i:Int))=true:=decide_eq_true (by omega)
         have hpt3:0≤(0:Int)+(i:Int):=by omega
         by_cases hz:s.size-0=1
         · rw [if_pos hz] at HL
           have hDz:(D==0)=true:=by rw [beq_iff_eq];omega
           clear hD hz hi
           go_wp2
           refine bodyPost_ret (zaa rfl _ _ w.heap.size 27 _ (0,0) _ rfl (set4 HBX.out _ _ _ _) Tryz.underlying27 rfl zaj _ rfl) rfl ⟨?_,zad HB0.out (Nat.le_refl _) _ _ _ _⟩
           rw [HL.out]
           rfl
         · rw [if_neg hz] at HL
           have hDz:(D==0)=false:=by rw [beq_eq_false_iff_ne];omega
           clear hD hz hi
           cases ov
           · have hNo2:=hNo rfl
             by_cases hNm:N=2147483647
             · have hNmd:(N==2147483647)=true:=by rw [beq_iff_eq];exact hNm
               by_cases hPp:0<P
               · have hPd:decide (0<P)=true:=by simpa using hPp
                 rw [if_pos (.inr ⟨hNm,hPp⟩)] at HL
                 clear hNm
                 go_wp2
                 refine bodyPost_ret (zaa rfl _ _ w.heap.size 27 _ (0,0) _ rfl (set4 HBX.out _ _ _ _) Tryz.underlying27 rfl zaj _ rfl) rfl ⟨?_,zad HB0.out (Nat.le_refl _) _ _ _ _⟩
                 rw [HL.out]
                 rfl
               · have hPd:decide (0<P)=false:=by simpa using hPp
                 rw [if_neg (by rintro (h|h);cases h;exact hPp h.2)] at HL
                 clear hNm
                 go_wp2
                 refine bodyPost_ret (zaa rfl _ _ w.heap.size 27 _ (0,0) _ rfl (zal _ (set4 HBX.out _ _ _ _)) Tryz.underlying27 rfl zaj _ rfl) rfl ⟨?_,(zad HB0.out (Nat.le_refl _) _ _ _ _).alloc (by simpa using Nat.le_of_lt hwlt) _⟩
                 rw [HL.out]
                 simp [valC,za6]
             · have hNmd:(N==2147483647)=false:=by rw [beq_eq_false_iff_ne];exact hNm
               rw [if_neg (by rintro (h|h);cases h;exact hNm h.1)] at HL
               clear hNm
               go_wp2
               refine bodyPost_ret (zaa rfl _ _ w.heap.size 27 _ (0,0) _ rfl (zal _ (set4 HBX.out _ _ _ _)) Tryz.underlying27 rfl zaj _ rfl) rfl ⟨?_,(zad HB0.out (Nat.le_refl _) _ _ _ _).alloc (by simpa using Nat.le_of_lt hwlt) _⟩
               rw [HL.out]
               simp [valC,za6]
           · rw [if_pos (.inl rfl)] at HL
             go_wp2
             refine bodyPost_ret (zaa rfl _ _ w.heap.size 27 _ (0,0) _ rfl (set4 HBX.out _ _ _ _) Tryz.underlying27 rfl zaj _ rfl) rfl ⟨?_,zad HB0.out (Nat.le_refl _) _ _ _ _⟩
             rw [HL.out]
             rfl
set_option maxHeartbeats 16000000 in
theorem rparse_plus (s:ByteArray) (w:World) (hs:s.size≤400000) (h0:0<s.size) (hc:PlainAid.bt s 0=43) :
   Calls Tryz.prog 127 #[.string s] w (zbl (zaK (bl s)) w):=by
 have hbx:(w.alloc (.cells #[.int .i64 0,.int .i64 0,.string ⟨#[]⟩,.slice none 0 0] 27)).heap[w.heap.size]?=some (.cells #[.int .i64 0,.int .i64 0,.string ⟨#[]⟩,.slice none 0 0] 27 (0,0)):=zac _ rfl
 have hB0:=zak w (.cells #[.int .i64 0,.int .i64 0,.string ⟨#[]⟩,.slice none 0 0] 27)
 have HBX:=Lib.hid hbx
 have HB0:=Lib.hid hB0
 obtain ⟨V,hV⟩:∃V,V=zaK (bl s):=⟨_,rfl⟩
 rw [←hV]
 have HV:=Lib.hid hV
 clear hV hbx hB0
 · have hgb:=PlainAid.get_bt s
   have hx:(s[0].toNat:Int)=PlainAid.bt s 0:=hgb 0 h0
   have HS:=Lib.hid (show V=za0 1 ((bl s).drop 1) by
     have hb:=zdS s 0 h0
     have a1:s[0]=43:=UInt8.toNat_inj.1 (Int.ofNat_inj.1 (hx.trans hc))
     rw [List.drop_zero] at hb
     rw [HV.out,zaK]
     unfold zcC zcG
     rw [hb,a1];rfl)
   clear hx
   go_enter Tryz.func127,Tryz.ntmps127
   go_wp2
   generalize w.alloc (.cells #[.int .i64 0,.int .i64 0,.string ⟨#[]⟩,.slice none 0 0] 27)=W at *
   go_loop [5,6,7,8,9,10] (fun n p d t o i=>∃(K:Nat) (N P D T:Int) (ov:Bool),1≤K∧K≤s.size∧n=.int .i64 N∧p=.int .i64 P∧d=.int .i64 D∧t=.int .i64 T∧o=.bool ov∧i=.int .i64 K∧0≤N∧N≤21474836479∧(ov=false→N≤2147483647)∧0≤P∧P≤999999∧0≤D∧D≤K∧Hid (St ((bl s).drop 1) 1 K N P D T ov))
     (fun _ _ _ _ _ i=>s.size-(intOf i).toNat)
   case atStart=>exact ⟨1,0,0,0,-1,false,Nat.le_refl _,by omega,rfl,rfl,rfl,rfl,rfl,rfl,by omega,by omega,fun _=>by omega,by omega,by omega,by omega,by omega,Lib.hid (.inl ⟨rfl,rfl,by omega,PA.nil⟩)⟩
   case round =>
     obtain ⟨K,N,P,D,T,ov,hK0,hK1,rfl,rfl,rfl,rfl,rfl,rfl,hN0,hN1,hNo,hP0,hP1,hD0,hD1,HST⟩:=hrel
     by_cases hlt:K<s.size
     · have hgb:=PlainAid.get_bt s
       have hx:(s[K].toNat:Int)=PlainAid.bt s K:=hgb K hlt
       have HTK:=Lib.hid (at_take s 1 K hlt hK0)
       have HSP:=Lib.hid (zgx s 1 K hlt hK0)
       have hx0:=PlainAid.bt_nonneg s K
       have hx1:=PlainAid.bt_le s K
       have HX:=Lib.hid hx
       clear hx
       rcases HST.out with ⟨rfl,rfl,hD,hA⟩|⟨i,rfl,hi,hD,hB⟩
       · have HA:=Lib.hid hA
         have HD:=Lib.hid hD
         clear hA hD HST
         by_cases h46:PlainAid.bt s K=46
         · have HB:=Lib.hid (show PB (((bl s).drop 1).take (K+1-1)) (K-1) N 0 ov by
             rw [HTK.out,show s[K]=46 from UInt8.toNat_inj.1 (by have:=HX.out;rw [h46] at this;exact Int.ofNat_inj.1 this)]
             have:=HA.out.point
             rwa [show (((bl s).drop 1).take (K-1)).length=K-1 from by rw [List.length_take,List.length_drop,zaA];omega] at this)
           have h46d:(PlainAid.bt s K==46)=true:=by rw [beq_iff_eq];exact h46
           clear h46
           go_wp2
           go_round
           case rel=>exact ⟨K+1,N,0,D,K,ov,by omega,by omega,rfl,rfl,rfl,rfl,rfl,by go_num,hN0,hN1,hNo,by omega,by omega,hD0,by omega,Lib.hid (.inr ⟨K-1,by omega,by omega,by have:=HD.out;omega,HB.out⟩)⟩
           case measure=>simp [intOf];omega
         · have h46d:(PlainAid.bt s K==46)=false:=by rw [beq_eq_false_iff_ne];exact h46
           have HNE:=Lib.hid (show s[K]≠46 from fun e=>h46 (by rw [←HX.out,e];rfl))
           clear h46
           by_cases h48:48≤PlainAid.bt s K
           · by_cases h57:PlainAid.bt s K≤57
             · have HDG:=Lib.hid (show isDg s[K]=true by rw [zbc];have:=HX.out;omega)
               have HDV:=Lib.hid (show ((dgV s[K]:Nat):Int)=PlainAid.bt s K-48 by rw [zc1 HDG.out,HX.out])
               have h48d:decide (48≤PlainAid.bt s K)=true:=by simpa using h48
               have h57d:decide (PlainAid.bt s K≤57)=true:=by simpa using h57
               cases ov
               · have hN2:=hNo rfl
                 by_cases hM:2147483647<10 * N+PlainAid.bt s K-48
                 · have HA2:=Lib.hid (show PA (((bl s).drop 1).take (K+1-1)) (10 * N+PlainAid.bt s K-48) true by
                     rw [HTK.out];exact HA.out.more HDG.out _ (by have:=HDV.out;omega) _ (by rw [eq_comm,decide_eq_true_iff];exact hM))
                   go_wp2
                   go_round
                   case rel=>exact ⟨K+1,10 * N+PlainAid.bt s K-48,0,D+1,-1,true,by omega,by omega,rfl,rfl,rfl,rfl,rfl,by go_num,by omega,by omega,(fun h=>by cases h),by omega,by omega,by omega,by omega,Lib.hid (.inl ⟨rfl,rfl,by have:=HD.out;omega,HA2.out⟩)⟩
                   case measure=>simp [intOf];omega
                 · have HA2:=Lib.hid (show PA (((bl s).drop 1).take (K+1-1)) (10 * N+PlainAid.bt s K-48) false by
                     rw [HTK.out];exact HA.out.more HDG.out _ (by have:=HDV.out;omega) _ (by rw [eq_comm,decide_eq_false_iff_not];exact hM))
                   have hMd:decide (2147483647<10 * N+PlainAid.bt s K-48)=false:=by simpa using hM
                   have hM2:10 * N+PlainAid.bt s K-48≤2147483647:=by omega
                   clear hM
                   go_wp2
                   go_round
                   case rel=>exact ⟨K+1,10 * N+PlainAid.bt s K-48,0,D+1,-1,false,by omega,by omega,rfl,rfl,rfl,rfl,rfl,by go_num,by omega,by omega,(fun _=>hM2),by omega,by omega,by omega,by omega,Lib.hid (.inl ⟨rfl,rfl,by have:=HD.out;omega,HA2.out⟩)⟩
                   case measure=>simp [intOf];omega
               · have HA2:=Lib.hid (show PA (((bl s).drop 1).take (K+1-1)) N true by rw [HTK.out];exact HA.out.over HDG.out)
                 go_wp2
                 go_round
                 case rel=>exact ⟨K+1,N,0,D+1,-1,true,by omega,by omega,rfl,rfl,rfl,rfl,rfl,by go_num,hN0,hN1,hNo,by omega,by omega,by omega,by omega,Lib.hid (.inl ⟨rfl,rfl,by have:=HD.out;omega,HA2.out⟩)⟩
                 case measure=>simp [intOf];omega
             · have HL:=Lib.hid (show V=(0,0,11) by
                 rw [HS.out,HSP.out];exact zbB _ _ _ _ HA.out.dg HNE.out (by rw [zbE];have:=HX.out;omega))
               have h48d:decide (48≤PlainAid.bt s K)=true:=by simpa using h48
               have h57d:decide (PlainAid.bt s K≤57)=false:=by simpa using h57
               obtain ⟨⟨k0,k1,k2,k3⟩,f0,f1,f2,f3⟩:=zam HBX.out
               go_wp2
               refine bodyPost_ret (zaa rfl _ _ w.heap.size 27 _ (0,0) _ rfl (set4 HBX.out _ _ _ _) Tryz.underlying27 rfl zaj _ rfl) rfl ⟨?_,zad HB0.out (Nat.le_refl _) _ _ _ _⟩
               rw [HL.out]
               rfl
           · have HL:=Lib.hid (show V=(0,0,11) by
               rw [HS.out,HSP.out];exact zbB _ _ _ _ HA.out.dg HNE.out (by rw [zbE];have:=HX.out;omega))
             have h48d:decide (48≤PlainAid.bt s K)=false:=by simpa using h48
             obtain ⟨⟨k0,k1,k2,k3⟩,f0,f1,f2,f3⟩:=zam HBX.out
             go_wp2
             refine bodyPost_ret (zaa rfl _ _ w.heap.size 27 _ (0,0) _ rfl (set4 HBX.out _ _ _ _) Tryz.underlying27 rfl zaj _ rfl) rfl ⟨?_,zad HB0.out (Nat.le_refl _) _ _ _ _⟩
             rw [HL.out]
             rfl
       · have HB:=Lib.hid hB
         have HD:=Lib.hid hD
         clear hB hD HST
         have hpt:decide ((1:Int)+(i:Int)<0)=false:=decide_eq_false (by omega)
         have hpt2:decide ((i:Int)<0)=false:=decide_eq_false (by omega)
         have hpt3:0≤(1:Int)+(i:Int):=by omega
         by_cases h48:48≤PlainAid.bt s K
         · have h48d:decide (48≤PlainAid.bt s K)=true:=by simpa using h48
           have h46d:(PlainAid.bt s K==46)=false:=by rw [beq_eq_false_iff_ne];omega
           by_cases h57:PlainAid.bt s K≤57
           · have h57d:decide (PlainAid.bt s K≤57)=true:=by simpa using h57
             have HDG:=Lib.hid (show isDg s[K]=true by rw [zbc];have:=HX.out;omega)
             go_wp2
             go_loop [11,12] (fun b j=>∃(J:Nat) (B:Int),1≤J∧J≤7∧J≤K-1-i∧b=.int .i64 B∧j=.int .i64 J∧0≤B∧B≤100000∧Hid (B=(100000 / 10 ^ (J-1):Nat))) (fun _ j=>7-(intOf j).toNat)
             case atStart=>exact ⟨1,100000,by omega,by omega,by omega,rfl,rfl,by omega,by omega,Lib.hid rfl⟩
             case round =>
               obtain ⟨J,B,hJ1,hJ7,hJL,rfl,rfl,hB0,hB1,HBJ⟩:=hrel
               by_cases hJK:(J:Int)<(K:Int)-(1+(i:Int))
               · have hJKd:decide ((J:Int)<(K:Int)-(1+(i:Int)))=true:=by simpa using hJK
                 by_cases hJ7b:J<7
                 · have hJ7d:decide ((J:Int)<7)=true:=by simp;omega
                   have HBN:=Lib.hid (show B / 10=((100000 / 10 ^ (J+1-1):Nat):Int) by
                     rw [HBJ.out,show J+1-1=(J-1)+1 from by omega,Nat.pow_succ,←Nat.div_div_eq_div_mul];omega)
                   go_wp2
                   go_round
                   case rel=>exact ⟨J+1,B / 10,by omega,by omega,by omega,rfl,by go_num,by omega,by omega,HBN⟩
                   case measure=>simp [intOf];omega
                 · have hJ7d:decide ((J:Int)<7)=false:=decide_eq_false (by omega)
                   have hz0:0≤B * (PlainAid.bt s K-48):=Int.mul_nonneg hB0 (by omega)
                   have hz1:B * (PlainAid.bt s K-48)≤100000 * 9:=Int.mul_le_mul hB1 (by omega) (by omega) (by omega)
                   have HQ:=Lib.hid (show PB (((bl s).drop 1).take (K+1-1)) i N (P+B * (PlainAid.bt s K-48)) ov by
                     rw [HTK.out]
                     refine HB.out.more HDG.out (100000 / 10 ^ (J-1)) ?_ _ (by rw [HBJ.out,HX.out])
                     rw [List.length_take,List.length_drop,zaA]
                     congr 3
                     omega)
                   have hq:=HQ.out.bd
                   have hq0:=hq.1
                   have hq1:=hq.2
                   clear hq
                   have hwr:IntKind.i64.wrap (B * (PlainAid.bt s K-48))=B * (PlainAid.bt s K-48):=IntWalk.i64_in _ (by omega)
                   clear hz1
                   go_wp2
                   go_round
                   case rel=>exact ⟨K+1,N,P+B * (PlainAid.bt s K-48),D+1,_,ov,by omega,by omega,rfl,rfl,rfl,rfl,rfl,by go_num,hN0,hN1,hNo,hq0,hq1,by omega,by omega,Lib.hid (.inr ⟨i,rfl,by omega,by have:=HD.out;omega,HQ.out⟩)⟩
                   case measure=>simp [intOf];omega
               · have hJKd:decide ((J:Int)<(K:Int)-(1+(i:Int)))=false:=by simpa using hJK
                 have hz0:0≤B * (PlainAid.bt s K-48):=Int.mul_nonneg hB0 (by omega)
                 have hz1:B * (PlainAid.bt s K-48)≤100000 * 9:=Int.mul_le_mul hB1 (by omega) (by omega) (by omega)
                 have HQ:=Lib.hid (show PB (((bl s).drop 1).take (K+1-1)) i N (P+B * (PlainAid.bt s K-48)) ov by
                   rw [HTK.out]
                   refine HB.out.more HDG.out (100000 / 10 ^ (J-1)) ?_ _ (by rw [HBJ.out,HX.out])
                   rw [List.length_take,List.length_drop,zaA]
                   congr 3
                   omega)
                 have hq:=HQ.out.bd
                 have hq0:=hq.1
                 have hq1:=hq.2
                 clear hq
                 have hwr:IntKind.i64.wrap (B * (PlainAid.bt s K-48))=B * (PlainAid.bt s K-48):=IntWalk.i64_in _ (by omega)
                 clear hz1
                 go_wp2
                 go_round
                 case rel=>exact ⟨K+1,N,P+B * (PlainAid.bt s K-48),D+1,_,ov,by omega,by omega,rfl,rfl,rfl,rfl,rfl,by go_num,hN0,hN1,hNo,hq0,hq1,by omega,by omega,Lib.hid (.inr ⟨i,rfl,by omega,by have:=HD.out;omega,HQ.out⟩)⟩
                 case measure=>simp [intOf];omega
           · have HL:=Lib.hid (show V=(0,0,11) by
               rw [HS.out,HSP.out];exact HB.out.bad _ _ _ (by rw [zbE];have:=HX.out;omega))
             have h57d:decide (PlainAid.bt s K≤57)=false:=by simpa using h57
             obtain ⟨⟨k0,k1,k2,k3⟩,f0,f1,f2,f3⟩:=zam HBX.out
             go_wp2
             refine bodyPost_ret (zaa rfl _ _ w.heap.size 27 _ (0,0) _ rfl (set4 HBX.out _ _ _ _) Tryz.underlying27 rfl zaj _ rfl) rfl ⟨?_,zad HB0.out (Nat.le_refl _) _ _ _ _⟩
             rw [HL.out]
             rfl
         · have HL:=Lib.hid (show V=(0,0,11) by
             rw [HS.out,HSP.out];exact HB.out.bad _ _ _ (by rw [zbE];have:=HX.out;omega))
           have h48d:decide (48≤PlainAid.bt s K)=false:=by simpa using h48
           obtain ⟨⟨k0,k1,k2,k3⟩,f0,f1,f2,f3⟩:=zam HBX.out
           by_cases h46:PlainAid.bt s K=46
           · have h46d:(PlainAid.bt s K==46)=true:=by rw [beq_iff_eq];exact h46
             clear h46
             go_wp2
             refine bodyPost_ret (zaa rfl _ _ w.heap.size 27 _ (0,0) _ rfl (set4 HBX.out _ _ _ _) Tryz.underlying27 rfl zaj _ rfl) rfl ⟨?_,zad HB0.out (Nat.le_refl _) _ _ _ _⟩
             rw [HL.out]
             rfl
           · have h46d:(PlainAid.bt s K==46)=false:=by rw [beq_eq_false_iff_ne];exact h46
             clear h46
             go_wp2
             refine bodyPost_ret (zaa rfl _ _ w.heap.size 27 _ (0,0) _ rfl (set4 HBX.out _ _ _ _) Tryz.underlying27 rfl zaj _ rfl) rfl ⟨?_,zad HB0.out (Nat.le_refl _) _ _ _ _⟩
             rw [HL.out]
             rfl
     · obtain rfl:K=s.size:=by omega
       have HTK:=Lib.hid (show ((bl s).drop 1).take (s.size-1)=(bl s).drop 1 by rw [List.take_of_length_le (by rw [List.length_drop,zaA];omega)])
       have HLEN:=Lib.hid (show ((bl s).drop 1).length=s.size-1 by rw [List.length_drop,zaA])
       have hwlt:=(Array.getElem?_eq_some_iff.1 HBX.out).1
       obtain ⟨⟨k0,k1,k2,k3⟩,f0,f1,f2,f3⟩:=zam HBX.out
       rcases HST.out with ⟨rfl,rfl,hD,hA⟩|⟨i,rfl,hi,hD,hB⟩
       · rw [HTK.out] at hA
         have HL:=Lib.hid (show V=if s.size-1=0 then (0,0,11) else if ov=true then (0,0,5) else (2,1 * N,0) by rw [HS.out,hA.fin,HLEN.out])
         clear hA HST
         by_cases hz:s.size-1=0
         · rw [if_pos hz] at HL
           have hDz:(D==0)=true:=by rw [beq_iff_eq];omega
           clear hD hz
           go_wp2
           refine bodyPost_ret (zaa rfl _ _ w.heap.size 27 _ (0,0) _ rfl (set4 HBX.out _ _ _ _) Tryz.underlying27 rfl zaj _ rfl) rfl ⟨?_,zad HB0.out (Nat.le_refl _) _ _ _ _⟩
           rw [HL.out]
           rfl
         · rw [if_neg hz] at HL
           have hDz:(D==0)=false:=by rw [beq_eq_false_iff_ne];omega
           clear hD hz
           cases ov
           · rw [if_neg (by decide)] at HL
             have hNo2:=hNo rfl
             go_wp2
             refine bodyPost_ret (zaa rfl _ _ w.heap.size 27 _ (0,0) _ rfl (zal _ (set4 HBX.out _ _ _ _)) Tryz.underlying27 rfl zaj _ rfl) rfl ⟨?_,(zad HB0.out (Nat.le_refl _) _ _ _ _).alloc (by simpa using Nat.le_of_lt hwlt) _⟩
             rw [HL.out]
             simp [valC,za6]
           · rw [if_pos rfl] at HL
             go_wp2
             refine bodyPost_ret (zaa rfl _ _ w.heap.size 27 _ (0,0) _ rfl (set4 HBX.out _ _ _ _) Tryz.underlying27 rfl zaj _ rfl) rfl ⟨?_,zad HB0.out (Nat.le_refl _) _ _ _ _⟩
             rw [HL.out]
             rfl
       · rw [HTK.out] at hB
         have HL:=Lib.hid (show V=if s.size-1=1 then (0,0,11) else if ov=true∨(N=2147483647∧0<P) then (0,0,5) else (3,1 * (1000000 * N+P),0) by rw [HS.out,hB.fin,HLEN.out])
         clear hB HST
         have hpt:decide (0≤(1:Int)+(i:Int))=true:=decide_eq_true (by omega)
         have hpt2:decide (0≤(i:Int))=true:=decide_eq_true (by omega)
         have hpt3:0≤(1:Int)+(i:Int):=by omega
         by_cases hz:s.size-1=1
         · rw [if_pos hz] at HL
           have hDz:(D==0)=true:=by rw [beq_iff_eq];omega
           clear hD hz hi
           go_wp2
           refine bodyPost_ret (zaa rfl _ _ w.heap.size 27 _ (0,0) _ rfl (set4 HBX.out _ _ _ _) Tryz.underlying27 rfl zaj _ rfl) rfl ⟨?_,zad HB0.out (Nat.le_refl _) _ _ _ _⟩
           rw [HL.out]
           rfl
         · rw [if_neg hz] at HL
           have hDz:(D==0)=false:=by rw [beq_eq_false_iff_ne];omega
           clear hD hz hi
           cases ov
           · have hNo2:=hNo rfl
             by_cases hNm:N=2147483647
             · have hNmd:(N==2147483647)=true:=by rw [beq_iff_eq];exact hNm
               by_cases hPp:0<P
               · have hPd:decide (0<P)=true:=by simpa using hPp
                 rw [if_pos (.inr ⟨hNm,hPp⟩)] at HL
                 clear hNm
                 go_wp2
                 refine bodyPost_ret (zaa rfl _ _ w.heap.size 27 _ (0,0) _ rfl (set4 HBX.out _ _ _ _) Tryz.underlying27 rfl zaj _ rfl) rfl ⟨?_,zad HB0.out (Nat.le_refl _) _ _ _ _⟩
                 rw [HL.out]
                 rfl
               · have hPd:decide (0<P)=false:=by simpa using hPp
                 rw [if_neg (by rintro (h|h);cases h;exact hPp h.2)] at HL
                 clear hNm
                 go_wp2
                 refine bodyPost_ret (zaa rfl _ _ w.heap.size 27 _ (0,0) _ rfl (zal _ (set4 HBX.out _ _ _ _)) Tryz.underlying27 rfl zaj _ rfl) rfl ⟨?_,(zad HB0.out (Nat.le_refl _) _ _ _ _).alloc (by simpa using Nat.le_of_lt hwlt) _⟩
                 rw [HL.out]
                 simp [valC,za6]
             · have hNmd:(N==2147483647)=false:=by rw [beq_eq_false_iff_ne];exact hNm
               rw [if_neg (by rintro (h|h);cases h;exact hNm h.1)] at HL
               clear hNm
               go_wp2
               refine bodyPost_ret (zaa rfl _ _ w.heap.size 27 _ (0,0) _ rfl (zal _ (set4 HBX.out _ _ _ _)) Tryz.underlying27 rfl zaj _ rfl) rfl ⟨?_,(zad HB0.out (Nat.le_refl _) _ _ _ _).alloc (by simpa using Nat.le_of_lt hwlt) _⟩
               rw [HL.out]
               simp [valC,za6]
           · rw [if_pos (.inl rfl)] at HL
             go_wp2
             refine bodyPost_ret (zaa rfl _ _ w.heap.size 27 _ (0,0) _ rfl (set4 HBX.out _ _ _ _) Tryz.underlying27 rfl zaj _ rfl) rfl ⟨?_,zad HB0.out (Nat.le_refl _) _ _ _ _⟩
             rw [HL.out]
             rfl
set_option maxHeartbeats 16000000 in
theorem rparse_minus (s:ByteArray) (w:World) (hs:s.size≤400000) (h0:0<s.size) (hc:PlainAid.bt s 0=45) :
   Calls Tryz.prog 127 #[.string s] w (zbl (zaK (bl s)) w):=by
 have hbx:(w.alloc (.cells #[.int .i64 0,.int .i64 0,.string ⟨#[]⟩,.slice none 0 0] 27)).heap[w.heap.size]?=some (.cells #[.int .i64 0,.int .i64 0,.string ⟨#[]⟩,.slice none 0 0] 27 (0,0)):=zac _ rfl
 have hB0:=zak w (.cells #[.int .i64 0,.int .i64 0,.string ⟨#[]⟩,.slice none 0 0] 27)
 have HBX:=Lib.hid hbx
 have HB0:=Lib.hid hB0
 obtain ⟨V,hV⟩:∃V,V=zaK (bl s):=⟨_,rfl⟩
 rw [←hV]
 have HV:=Lib.hid hV
 clear hV hbx hB0
 · have hgb:=PlainAid.get_bt s
   have hx:(s[0].toNat:Int)=PlainAid.bt s 0:=hgb 0 h0
   have HS:=Lib.hid (show V=za0 (-1) ((bl s).drop 1) by
     have hb:=zdS s 0 h0
     have a1:s[0]=45:=UInt8.toNat_inj.1 (Int.ofNat_inj.1 (hx.trans hc))
     rw [List.drop_zero] at hb
     rw [HV.out,zaK]
     unfold zcC zcG
     rw [hb,a1];rfl)
   clear hx
   go_enter Tryz.func127,Tryz.ntmps127
   go_wp2
   generalize w.alloc (.cells #[.int .i64 0,.int .i64 0,.string ⟨#[]⟩,.slice none 0 0] 27)=W at *
   go_loop [5,6,7,8,9,10] (fun n p d t o i=>∃(K:Nat) (N P D T:Int) (ov:Bool),1≤K∧K≤s.size∧n=.int .i64 N∧p=.int .i64 P∧d=.int .i64 D∧t=.int .i64 T∧o=.bool ov∧i=.int .i64 K∧0≤N∧N≤21474836479∧(ov=false→N≤2147483647)∧0≤P∧P≤999999∧0≤D∧D≤K∧Hid (St ((bl s).drop 1) 1 K N P D T ov))
     (fun _ _ _ _ _ i=>s.size-(intOf i).toNat)
   case atStart=>exact ⟨1,0,0,0,-1,false,Nat.le_refl _,by omega,rfl,rfl,rfl,rfl,rfl,rfl,by omega,by omega,fun _=>by omega,by omega,by omega,by omega,by omega,Lib.hid (.inl ⟨rfl,rfl,by omega,PA.nil⟩)⟩
   case round =>
     obtain ⟨K,N,P,D,T,ov,hK0,hK1,rfl,rfl,rfl,rfl,rfl,rfl,hN0,hN1,hNo,hP0,hP1,hD0,hD1,HST⟩:=hrel
     by_cases hlt:K<s.size
     · have hgb:=PlainAid.get_bt s
       have hx:(s[K].toNat:Int)=PlainAid.bt s K:=hgb K hlt
       have HTK:=Lib.hid (at_take s 1 K hlt hK0)
       have HSP:=Lib.hid (zgx s 1 K hlt hK0)
       have hx0:=PlainAid.bt_nonneg s K
       have hx1:=PlainAid.bt_le s K
       have HX:=Lib.hid hx
       clear hx
       rcases HST.out with ⟨rfl,rfl,hD,hA⟩|⟨i,rfl,hi,hD,hB⟩
       · have HA:=Lib.hid hA
         have HD:=Lib.hid hD
         clear hA hD HST
         by_cases h46:PlainAid.bt s K=46
         · have HB:=Lib.hid (show PB (((bl s).drop 1).take (K+1-1)) (K-1) N 0 ov by
             rw [HTK.out,show s[K]=46 from UInt8.toNat_inj.1 (by have:=HX.out;rw [h46] at this;exact Int.ofNat_inj.1 this)]
             have:=HA.out.point
             rwa [show (((bl s).drop 1).take (K-1)).length=K-1 from by rw [List.length_take,List.length_drop,zaA];omega] at this)
           have h46d:(PlainAid.bt s K==46)=true:=by rw [beq_iff_eq];exact h46
           clear h46
           go_wp2
           go_round
           case rel=>exact ⟨K+1,N,0,D,K,ov,by omega,by omega,rfl,rfl,rfl,rfl,rfl,by go_num,hN0,hN1,hNo,by omega,by omega,hD0,by omega,Lib.hid (.inr ⟨K-1,by omega,by omega,by have:=HD.out;omega,HB.out⟩)⟩
           case measure=>simp [intOf];omega
         · have h46d:(PlainAid.bt s K==46)=false:=by rw [beq_eq_false_iff_ne];exact h46
           have HNE:=Lib.hid (show s[K]≠46 from fun e=>h46 (by rw [←HX.out,e];rfl))
           clear h46
           by_cases h48:48≤PlainAid.bt s K
           · by_cases h57:PlainAid.bt s K≤57
             · have HDG:=Lib.hid (show isDg s[K]=true by rw [zbc];have:=HX.out;omega)
               have HDV:=Lib.hid (show ((dgV s[K]:Nat):Int)=PlainAid.bt s K-48 by rw [zc1 HDG.out,HX.out])
               have h48d:decide (48≤PlainAid.bt s K)=true:=by simpa using h48
               have h57d:decide (PlainAid.bt s K≤57)=true:=by simpa using h57
               cases ov
               · have hN2:=hNo rfl
                 by_cases hM:2147483647<10 * N+PlainAid.bt s K-48
                 · have HA2:=Lib.hid (show PA (((bl s).drop 1).take (K+1-1)) (10 * N+PlainAid.bt s K-48) true by
                     rw [HTK.out];exact HA.out.more HDG.out _ (by have:=HDV.out;omega) _ (by rw [eq_comm,decide_eq_true_iff];exact hM))
                   go_wp2
                   go_round
                   case rel=>exact ⟨K+1,10 * N+PlainAid.bt s K-48,0,D+1,-1,true,by omega,by omega,rfl,rfl,rfl,rfl,rfl,by go_num,by omega,by omega,(fun h=>by cases h),by omega,by omega,by omega,by omega,Lib.hid (.inl ⟨rfl,rfl,by have:=HD.out;omega,HA2.out⟩)⟩
                   case measure=>simp [intOf];omega
                 · have HA2:=Lib.hid (show PA (((bl s).drop 1).take (K+1-1)) (10 * N+PlainAid.bt s K-48) false by
                     rw [HTK.out];exact HA.out.more HDG.out _ (by have:=HDV.out;omega) _ (by rw [eq_comm,decide_eq_false_iff_not];exact hM))
                   have hMd:decide (2147483647<10 * N+PlainAid.bt s K-48)=false:=by simpa using hM
                   have hM2:10 * N+PlainAid.bt s K-48≤2147483647:=by omega
                   clear hM
                   go_wp2
                   go_round
                   case rel=>exact ⟨K+1,10 * N+PlainAid.bt s K-48,0,D+1,-1,false,by omega,by omega,rfl,rfl,rfl,rfl,rfl,by go_num,by omega,by omega,(fun _=>hM2),by omega,by omega,by omega,by omega,Lib.hid (.inl ⟨rfl,rfl,by have:=HD.out;omega,HA2.out⟩)⟩
                   case measure=>simp [intOf];omega
               · have HA2:=Lib.hid (show PA (((bl s).drop 1).take (K+1-1)) N true by rw [HTK.out];exact HA.out.over HDG.out)
                 go_wp2
                 go_round
                 case rel=>exact ⟨K+1,N,0,D+1,-1,true,by omega,by omega,rfl,rfl,rfl,rfl,rfl,by go_num,hN0,hN1,hNo,by omega,by omega,by omega,by omega,Lib.hid (.inl ⟨rfl,rfl,by have:=HD.out;omega,HA2.out⟩)⟩
                 case measure=>simp [intOf];omega
             · have HL:=Lib.hid (show V=(0,0,11) by
                 rw [HS.out,HSP.out];exact zbB _ _ _ _ HA.out.dg HNE.out (by rw [zbE];have:=HX.out;omega))
               have h48d:decide (48≤PlainAid.bt s K)=true:=by simpa using h48
               have h57d:decide (PlainAid.bt s K≤57)=false:=by simpa using h57
               obtain ⟨⟨k0,k1,k2,k3⟩,f0,f1,f2,f3⟩:=zam HBX.out
               go_wp2
               refine bodyPost_ret (zaa rfl _ _ w.heap.size 27 _ (0,0) _ rfl (set4 HBX.out _ _ _ _) Tryz.underlying27 rfl zaj _ rfl) rfl ⟨?_,zad HB0.out (Nat.le_refl _) _ _ _ _⟩
               rw [HL.out]
               rfl
           · have HL:=Lib.hid (show V=(0,0,11) by
               rw [HS.out,HSP.out];exact zbB _ _ _ _ HA.out.dg HNE.out (by rw [zbE];have:=HX.out;omega))
             have h48d:decide (48≤PlainAid.bt s K)=false:=by simpa using h48
             obtain ⟨⟨k0,k1,k2,k3⟩,f0,f1,f2,f3⟩:=zam HBX.out
             go_wp2
             refine bodyPost_ret (zaa rfl _ _ w.heap.size 27 _ (0,0) _ rfl (set4 HBX.out _ _ _ _) Tryz.underlying27 rfl zaj _ rfl) rfl ⟨?_,zad HB0.out (Nat.le_refl _) _ _ _ _⟩
             rw [HL.out]
             rfl
       · have HB:=Lib.hid hB
         have HD:=Lib.hid hD
         clear hB hD HST
         have hpt:decide ((1:Int)+(i:Int)<0)=false:=decide_eq_false (by omega)
         have hpt2:decide ((i:Int)<0)=false:=decide_eq_false (by omega)
         have hpt3:0≤(1:Int)+(i:Int):=by omega
         by_cases h48:48≤PlainAid.bt s K
         · have h48d:decide (48≤PlainAid.bt s K)=true:=by simpa using h48
           have h46d:(PlainAid.bt s K==46)=false:=by rw [beq_eq_false_iff_ne];omega
           by_cases h57:PlainAid.bt s K≤57
           · have h57d:decide (PlainAid.bt s K≤57)=true:=by simpa using h57
             have HDG:=Lib.hid (show isDg s[K]=true by rw [zbc];have:=HX.out;omega)
             go_wp2
             go_loop [11,12] (fun b j=>∃(J:Nat) (B:Int),1≤J∧J≤7∧J≤K-1-i∧b=.int .i64 B∧j=.int .i64 J∧0≤B∧B≤100000∧Hid (B=(100000 / 10 ^ (J-1):Nat))) (fun _ j=>7-(intOf j).toNat)
             case atStart=>exact ⟨1,100000,by omega,by omega,by omega,rfl,rfl,by omega,by omega,Lib.hid rfl⟩
             case round =>
               obtain ⟨J,B,hJ1,hJ7,hJL,rfl,rfl,hB0,hB1,HBJ⟩:=hrel
               by_cases hJK:(J:Int)<(K:Int)-(1+(i:Int))
               · have hJKd:decide ((J:Int)<(K:Int)-(1+(i:Int)))=true:=by simpa using hJK
                 by_cases hJ7b:J<7
                 · have hJ7d:decide ((J:Int)<7)=true:=by simp;omega
                   have HBN:=Lib.hid (show B / 10=((100000 / 10 ^ (J+1-1):Nat):Int) by
                     rw [HBJ.out,show J+1-1=(J-1)+1 from by omega,Nat.pow_succ,←Nat.div_div_eq_div_mul];omega)
                   go_wp2
                   go_round
                   case rel=>exact ⟨J+1,B / 10,by omega,by omega,by omega,rfl,by go_num,by omega,by omega,HBN⟩
                   case measure=>simp [intOf];omega
                 · have hJ7d:decide ((J:Int)<7)=false:=decide_eq_false (by omega)
                   have hz0:0≤B * (PlainAid.bt s K-48):=Int.mul_nonneg hB0 (by omega)
                   have hz1:B * (PlainAid.bt s K-48)≤100000 * 9:=Int.mul_le_mul hB1 (by omega) (by omega) (by omega)
                   have HQ:=Lib.hid (show PB (((bl s).drop 1).take (K+1-1)) i N (P+B * (PlainAid.bt s K-48)) ov by
                     rw [HTK.out]
                     refine HB.out.more HDG.out (100000 / 10 ^ (J-1)) ?_ _ (by rw [HBJ.out,HX.out])
                     rw [List.length_take,List.length_drop,zaA]
                     congr 3
                     omega)
                   have hq:=HQ.out.bd
                   have hq0:=hq.1
                   have hq1:=hq.2
                   clear hq
                   have hwr:IntKind.i64.wrap (B * (PlainAid.bt s K-48))=B * (PlainAid.bt s K-48):=IntWalk.i64_in _ (by omega)
                   clear hz1
                   go_wp2
                   go_round
                   case rel=>exact ⟨K+1,N,P+B * (PlainAid.bt s K-48),D+1,_,ov,by omega,by omega,rfl,rfl,rfl,rfl,rfl,by go_num,hN0,hN1,hNo,hq0,hq1,by omega,by omega,Lib.hid (.inr ⟨i,rfl,by omega,by have:=HD.out;omega,HQ.out⟩)⟩
                   case measure=>simp [intOf];omega
               · have hJKd:decide ((J:Int)<(K:Int)-(1+(i:Int)))=false:=by simpa using hJK
                 have hz0:0≤B * (PlainAid.bt s K-48):=Int.mul_nonneg hB0 (by omega)
                 have hz1:B * (PlainAid.bt s K-48)≤100000 * 9:=Int.mul_le_mul hB1 (by omega) (by omega) (by omega)
                 have HQ:=Lib.hid (show PB (((bl s).drop 1).take (K+1-1)) i N (P+B * (PlainAid.bt s K-48)) ov by
                   rw [HTK.out]
                   refine HB.out.more HDG.out (100000 / 10 ^ (J-1)) ?_ _ (by rw [HBJ.out,HX.out])
                   rw [List.length_take,List.length_drop,zaA]
                   congr 3
                   omega)
                 have hq:=HQ.out.bd
                 have hq0:=hq.1
                 have hq1:=hq.2
                 clear hq
                 have hwr:IntKind.i64.wrap (B * (PlainAid.bt s K-48))=B * (PlainAid.bt s K-48):=IntWalk.i64_in _ (by omega)
                 clear hz1
                 go_wp2
                 go_round
                 case rel=>exact ⟨K+1,N,P+B * (PlainAid.bt s K-48),D+1,_,ov,by omega,by omega,rfl,rfl,rfl,rfl,rfl,by go_num,hN0,hN1,hNo,hq0,hq1,by omega,by omega,Lib.hid (.inr ⟨i,rfl,by omega,by have:=HD.out;omega,HQ.out⟩)⟩
                 case measure=>simp [intOf];omega
           · have HL:=Lib.hid (show V=(0,0,11) by
               rw [HS.out,HSP.out];exact HB.out.bad _ _ _ (by rw [zbE];have:=HX.out;omega))
             have h57d:decide (PlainAid.bt s K≤57)=false:=by simpa using h57
             obtain ⟨⟨k0,k1,k2,k3⟩,f0,f1,f2,f3⟩:=zam HBX.out
             go_wp2
             refine bodyPost_ret (zaa rfl _ _ w.heap.size 27 _ (0,0) _ rfl (set4 HBX.out _ _ _ _) Tryz.underlying27 rfl zaj _ rfl) rfl ⟨?_,zad HB0.out (Nat.le_refl _) _ _ _ _⟩
             rw [HL.out]
             rfl
         · have HL:=Lib.hid (show V=(0,0,11) by
             rw [HS.out,HSP.out];exact HB.out.bad _ _ _ (by rw [zbE];have:=HX.out;omega))
           have h48d:decide (48≤PlainAid.bt s K)=false:=by simpa using h48
           obtain ⟨⟨k0,k1,k2,k3⟩,f0,f1,f2,f3⟩:=zam HBX.out
           by_cases h46:PlainAid.bt s K=46
           · have h46d:(PlainAid.bt s K==46)=true:=by rw [beq_iff_eq];exact h46
             clear h46
             go_wp2
             refine bodyPost_ret (zaa rfl _ _ w.heap.size 27 _ (0,0) _ rfl (set4 HBX.out _ _ _ _) Tryz.underlying27 rfl zaj _ rfl) rfl ⟨?_,zad HB0.out (Nat.le_refl _) _ _ _ _⟩
             rw [HL.out]
             rfl
           · have h46d:(PlainAid.bt s K==46)=false:=by rw [beq_eq_false_iff_ne];exact h46
             clear h46
             go_wp2
             refine bodyPost_ret (zaa rfl _ _ w.heap.size 27 _ (0,0) _ rfl (set4 HBX.out _ _ _ _) Tryz.underlying27 rfl zaj _ rfl) rfl ⟨?_,zad HB0.out (Nat.le_refl _) _ _ _ _⟩
             rw [HL.out]
             rfl
     · obtain rfl:K=s.size:=by omega
       have HTK:=Lib.hid (show ((bl s).drop 1).take (s.size-1)=(bl s).drop 1 by rw [List.take_of_length_le (by rw [List.length_drop,zaA];omega)])
       have HLEN:=Lib.hid (show ((bl s).drop 1).length=s.size-1 by rw [List.length_drop,zaA])
       have hwlt:=(Array.getElem?_eq_some_iff.1 HBX.out).1
       obtain ⟨⟨k0,k1,k2,k3⟩,f0,f1,f2,f3⟩:=zam HBX.out
       rcases HST.out with ⟨rfl,rfl,hD,hA⟩|⟨i,rfl,hi,hD,hB⟩
       · rw [HTK.out] at hA
         have HL:=Lib.hid (show V=if s.size-1=0 then (0,0,11) else if ov=true then (0,0,5) else (2,(-1) * N,0) by rw [HS.out,hA.fin,HLEN.out])
         clear hA HST
         by_cases hz:s.size-1=0
         · rw [if_pos hz] at HL
           have hDz:(D==0)=true:=by rw [beq_iff_eq];omega
           clear hD hz
           go_wp2
           refine bodyPost_ret (zaa rfl _ _ w.heap.size 27 _ (0,0) _ rfl (set4 HBX.out _ _ _ _) Tryz.underlying27 rfl zaj _ rfl) rfl ⟨?_,zad HB0.out (Nat.le_refl _) _ _ _ _⟩
           rw [HL.out]
           rfl
         · rw [if_neg hz] at HL
           have hDz:(D==0)=false:=by rw [beq_eq_false_iff_ne];omega
           clear hD hz
           cases ov
           · rw [if_neg (by decide)] at HL
             have hNo2:=hNo rfl
             go_wp2
             refine bodyPost_ret (zaa rfl _ _ w.heap.size 27 _ (0,0) _ rfl (zal _ (set4 HBX.out _ _ _ _)) Tryz.underlying27 rfl zaj _ rfl) rfl ⟨?_,(zad HB0.out (Nat.le_refl _) _ _ _ _).alloc (by simpa using Nat.le_of_lt hwlt) _⟩
             rw [HL.out]
             simp [valC,za6]
           · rw [if_pos rfl] at HL
             go_wp2
             refine bodyPost_ret (zaa rfl _ _ w.heap.size 27 _ (0,0) _ rfl (set4 HBX.out _ _ _ _) Tryz.underlying27 rfl zaj _ rfl) rfl ⟨?_,zad HB0.out (Nat.le_refl _) _ _ _ _⟩
             rw [HL.out]
             rfl
       · rw [HTK.out] at hB
         have HL:=Lib.hid (show V=if s.size-1=1 then (0,0,11) else if ov=true∨(N=2147483647∧0<P) then (0,0,5) else (3,(-1) * (1000000 * N+P),0) by rw [HS.out,hB.fin,HLEN.out])
         clear hB HST
         have hpt:decide (0≤(1:Int)+(i:Int))=true:=decide_eq_true (by omega)
         have hpt2:decide (0≤(i:Int))=true:=decide_eq_true (by omega)
         have hpt3:0≤(1:Int)+(i:Int):=by omega
         by_cases hz:s.size-1=1
         · rw [if_pos hz] at HL
           have hDz:(D==0)=true:=by rw [beq_iff_eq];omega
           clear hD hz hi
           go_wp2
           refine bodyPost_ret (zaa rfl _ _ w.heap.size 27 _ (0,0) _ rfl (set4 HBX.out _ _ _ _) Tryz.underlying27 rfl zaj _ rfl) rfl ⟨?_,zad HB0.out (Nat.le_refl _) _ _ _ _⟩
           rw [HL.out]
           rfl
         · rw [if_neg hz] at HL
           have hDz:(D==0)=false:=by rw [beq_eq_false_iff_ne];omega
           clear hD hz hi
           cases ov
           · have hNo2:=hNo rfl
             by_cases hNm:N=2147483647
             · have hNmd:(N==2147483647)=true:=by rw [beq_iff_eq];exact hNm
               by_cases hPp:0<P
               · have hPd:decide (0<P)=true:=by simpa using hPp
                 rw [if_pos (.inr ⟨hNm,hPp⟩)] at HL
                 clear hNm
                 go_wp2
                 refine bodyPost_ret (zaa rfl _ _ w.heap.size 27 _ (0,0) _ rfl (set4 HBX.out _ _ _ _) Tryz.underlying27 rfl zaj _ rfl) rfl ⟨?_,zad HB0.out (Nat.le_refl _) _ _ _ _⟩
                 rw [HL.out]
                 rfl
               · have hPd:decide (0<P)=false:=by simpa using hPp
                 rw [if_neg (by rintro (h|h);cases h;exact hPp h.2)] at HL
                 clear hNm
                 go_wp2
                 refine bodyPost_ret (zaa rfl _ _ w.heap.size 27 _ (0,0) _ rfl (zal _ (set4 HBX.out _ _ _ _)) Tryz.underlying27 rfl zaj _ rfl) rfl ⟨?_,(zad HB0.out (Nat.le_refl _) _ _ _ _).alloc (by simpa using Nat.le_of_lt hwlt) _⟩
                 rw [HL.out]
                 simp [valC,za6]
             · have hNmd:(N==2147483647)=false:=by rw [beq_eq_false_iff_ne];exact hNm
               rw [if_neg (by rintro (h|h);cases h;exact hNm h.1)] at HL
               clear hNm
               go_wp2
               refine bodyPost_ret (zaa rfl _ _ w.heap.size 27 _ (0,0) _ rfl (zal _ (set4 HBX.out _ _ _ _)) Tryz.underlying27 rfl zaj _ rfl) rfl ⟨?_,(zad HB0.out (Nat.le_refl _) _ _ _ _).alloc (by simpa using Nat.le_of_lt hwlt) _⟩
               rw [HL.out]
               simp [valC,za6]
           · rw [if_pos (.inl rfl)] at HL
             go_wp2
             refine bodyPost_ret (zaa rfl _ _ w.heap.size 27 _ (0,0) _ rfl (set4 HBX.out _ _ _ _) Tryz.underlying27 rfl zaj _ rfl) rfl ⟨?_,zad HB0.out (Nat.le_refl _) _ _ _ _⟩
             rw [HL.out]
             rfl
theorem rparse_empty (s:ByteArray) (w:World) (h0:s.size=0) :
   Calls Tryz.prog 127 #[.string s] w (zbl (zaK (bl s)) w):=by
 have hbx:(w.alloc (.cells #[.int .i64 0,.int .i64 0,.string ⟨#[]⟩,.slice none 0 0] 27)).heap[w.heap.size]?=some (.cells #[.int .i64 0,.int .i64 0,.string ⟨#[]⟩,.slice none 0 0] 27 (0,0)):=zac _ rfl
 have hB0:=zak w (.cells #[.int .i64 0,.int .i64 0,.string ⟨#[]⟩,.slice none 0 0] 27)
 have HBX:=Lib.hid hbx
 have HB0:=Lib.hid hB0
 obtain ⟨V,hV⟩:∃V,V=zaK (bl s):=⟨_,rfl⟩
 rw [←hV]
 have HV:=Lib.hid hV
 clear hV hbx hB0
 have HL:=Lib.hid (show V=(0,0,11) by rw [HV.out,show bl s=[] from List.eq_nil_of_length_eq_zero (by rw [zaA];exact h0)];rfl)
 have hz:¬0<s.size:=by omega
 have hzd:decide (0<s.size)=false:=decide_eq_false hz
 have hzi:decide ((0:Int)<s.size)=false:=decide_eq_false (by omega)
 clear h0
 go_enter Tryz.func127,Tryz.ntmps127
 go_wp2
 generalize w.alloc (.cells #[.int .i64 0,.int .i64 0,.string ⟨#[]⟩,.slice none 0 0] 27)=W at *
 go_loop [7,10] (fun d i=>d=.int .i64 0∧i=.int .i64 0) (fun _ _=>0)
 case atStart=>exact ⟨rfl,rfl⟩
 case round =>
   obtain ⟨rfl,rfl⟩:=hrel
   obtain ⟨⟨k0,k1,k2,k3⟩,f0,f1,f2,f3⟩:=zam HBX.out
   go_wp2
   refine bodyPost_ret (zaa rfl _ _ w.heap.size 27 _ (0,0) _ rfl (set4 HBX.out _ _ _ _) Tryz.underlying27 rfl zaj _ rfl) rfl ⟨?_,zad HB0.out (Nat.le_refl _) _ _ _ _⟩
   rw [HL.out]
   rfl
theorem zbu (s:ByteArray) (w:World) (hs:s.size≤400000) :
   Calls Tryz.prog 127 #[.string s] w (zbl (zaK (bl s)) w):=by
 by_cases h0:0<s.size
 · by_cases h1:PlainAid.bt s 0=43
   · exact rparse_plus s w hs h0 h1
   · by_cases h2:PlainAid.bt s 0=45
     · exact rparse_minus s w hs h0 h2
     · exact rparse_none s w hs h0 h1 h2
 · exact rparse_empty s w (by omega)
structure Rx (w:World) (r n:Nat) (f:Nat) (W:World):Prop where
 blk:W.heap[r]?=some (.cells #[.int .i64 0,.int .i64 0,.int .i64 0,.int .i64 0,.int .i64 0,.string ⟨#[]⟩,.slice none 0 0,.string ⟨#[]⟩] 111 (0,0))
 no:W.heap[n]?=some (.cells #[.int .i64 0,.int .i64 f,.int .i64 f,.int .i64 0,.int .i64 0,.string ⟨#[]⟩,.slice none 0 0,.string ⟨#[]⟩] 111 (0,0))
 bel:Below w.heap.size w W
 wr:w.heap.size≤r
theorem Rx.on {w W W':World} {r n f:Nat} (h:Rx w r n f W) (hb:Below W.heap.size W W'):Rx w r n f W':=⟨zab hb h.blk,zab hb h.no,h.bel.trans (hb.mono h.bel.size),h.wr⟩
theorem Rx.alloc {w W:World} {r n f:Nat} (h:Rx w r n f W) (o:Obj):Rx w r n f (W.alloc o):=h.on (zak W o)
theorem zaq {w W:World} {r:Nat} {V:Tk×Int×Int×Int} {x:Tk} {f t er:Int} (hb:Below w.heap.size w W) (hr:w.heap.size≤r) (hV:V=(x,f,t,er)) (y0 y1 y2 y3 y4 y5 y6 y7:Value) :
   zaz w V (.returned (.tuple #[.agg (tokN x f t),.int .i64 er]))
     ((((((((W.setCell ⟨r,0,none⟩ y0).setCell ⟨r,1,none⟩ y1).setCell ⟨r,2,none⟩ y2).setCell ⟨r,3,none⟩ y3).setCell ⟨r,4,none⟩ y4).setCell ⟨r,5,none⟩ y5).setCell ⟨r,6,none⟩ y6).setCell ⟨r,7,none⟩ y7):=by
 subst hV;exact ⟨rfl,zbg hb hr _ _ _ _ _ _ _ _⟩
theorem zga {bs:List UInt8} {f:Nat} (last:Bool) (h:f<bs.length):zbf bs f last=if (tokV last (bs.getD f 0) (bs.drop (f+1))).1=0 then ((tokV last (bs.getD f 0) (bs.drop (f+1))).2.1,(f:Int),(bs.length:Int)-((tokV last (bs.getD f 0) (bs.drop (f+1))).2.2.length:Int),0) else ({ kind:=0 },(f:Int),(f:Int),(tokV last (bs.getD f 0) (bs.drop (f+1))).1):=zcR last (zat h)
theorem zaY {bs:List UInt8} {f j:Nat} {last:Bool} (h:f<bs.length) {c:UInt8} (hc:bs.getD f 0=c) {x:Tk} (ht:tokV last c (bs.drop (f+1))=(0,x,bs.drop j)) (hj:j≤bs.length):zbf bs f last=(x,(f:Int),(j:Int),0):=by
 rw [zga last h,hc,ht,if_pos rfl]
 simp only [List.length_drop]
 congr 3;omega
theorem zeY {bs:List UInt8} {f:Nat} {last:Bool} (h:f<bs.length) {c:UInt8} (hc:bs.getD f 0=c) {x:Tk} {r:List UInt8} (ht:tokV last c (bs.drop (f+1))=(0,x,r)) (hj:r.length≤bs.length):zbf bs f last=(x,(f:Int),((bs.length-r.length:Nat):Int),0):=by
 rw [zga last h,hc,ht,if_pos rfl]
 simp only
 congr 3;omega
theorem zaU {bs:List UInt8} {f:Nat} {last:Bool} (h:f<bs.length) {c:UInt8} (hc:bs.getD f 0=c) {e:Int} (ht:(tokV last c (bs.drop (f+1))).1=e) (he:e≠0):zbf bs f last=({ kind:=0 },(f:Int),(f:Int),e):=by
 rw [zga last h,hc,if_neg (by rw [ht];exact he),ht]
theorem tokV_62 (last:Bool) (t:List UInt8):tokV last 62 t=match t with
     | []=>(if last then 11 else 6,{ kind:=0 },[])
     | d::u=>if d=62 then (0,{ kind:=5 },u) else (11,{ kind:=0 },[]):=by
 unfold tokV
 rw [if_neg (by decide),if_neg (by decide),if_neg (by decide),if_neg (by decide),if_pos rfl]
 cases t<;>rfl
theorem tokV_60 (last:Bool) (t:List UInt8) (h:∀u,t≠60::u):tokV last 60 t=hexK last (hexV [] (-1) t):=by
 have:=tokV_open ⟨none,0,t,last⟩ 0
 rw [List.drop_zero] at this
 rw [this]
 cases t with
 | nil=>rfl
 | cons d u =>
   rw [opV_in (X:=⟨none,0,d::u,last⟩) (k:=0) (by simp),if_neg (by simp;intro e;subst e;exact h u rfl)]
   rfl
theorem skip_here {bs:List UInt8} {k:Int} {f:Nat} (h0:0≤k) (h1:k≤bs.length) (hf:zaC bs k=f) (hl:f<bs.length):bs.getD f 0≠37∧isSp (bs.getD f 0)=false:=by
 have hi:=zfB h0 h1
 rw [hf] at hi
 have h2:f+zbb false (bs.drop f)=f:=by
   have:zaC bs (f:Int)=f+zbb false (bs.drop f):=by
     unfold zaC;rw [if_neg (by omega),if_neg (by omega),Int.toNat_natCast]
   rw [←this];exact hi
 rw [zat hl] at h2
 refine ⟨fun e=>?_,?_⟩
 · rw [zbb,if_pos e] at h2;omega
 · by_cases e:bs.getD f 0=37
   · rw [zbb,if_pos e] at h2;omega
   · cases hs:isSp (bs.getD f 0) with
     | false=>rfl
     | true=>rw [zbb,if_neg e,if_pos hs] at h2;omega
theorem zcF.some_end {bs:List UInt8} {last:Bool} {V:Int×List UInt8×List UInt8} {w w':World} {e:Ending} (h:zcF bs last V w e w'):∃v n er,e=.returned (.tuple #[v,.int .i64 n,.int .i64 er])∧Below w.heap.size w w':=by
 obtain ⟨hb,⟨-,h⟩|⟨-,h⟩|⟨-,v,h,-,-⟩⟩:=h
 · exact ⟨_,_,_,h,hb⟩
 · exact ⟨_,_,_,h,hb⟩
 · exact ⟨_,_,_,h,hb⟩
theorem zax {w:World} {a:Option Addr} {cap:Nat} {bs:List UInt8} (hr:Row w 1 a bs.length cap (bs.map u8C)) (hn:bs.length≤400000) {k:Int} (hk0:0≤k) (hk1:k≤bs.length) {f:Nat} (hf:zaC bs k=f) (hfl:f<bs.length) :
   ∃(b off R r:Nat) (x:Nat),a=some ⟨b,off,none⟩∧b<w.heap.size∧(bs.getD f 0).toNat=x∧R=f+runN (bs.drop f)∧R≤bs.length∧r=w.heap.size∧bs.length≤cap∧(cap:Int)≤9223372036854775807∧decide (k<0)=false ∧
     decide ((bs.length:Int)<k)=false∧((f:Int)==(bs.length:Int))=false∧decide (f=bs.length)=false∧(f:Int)<bs.length∧f≤399999∧runN (bs.drop f)≤bs.length-f ∧
     (∀W:World,Below w.heap.size w W→Calls Tryz.prog 121 #[.slice a bs.length cap,.int .i64 k] W fun e w'=>e=.returned (.int .i64 (f:Nat))∧W=w') ∧
     (∀W:World,Below w.heap.size w W→Calls Tryz.prog 122 #[.slice a bs.length cap,.int .i64 f] W fun e w'=>e=.returned (.int .i64 (R:Nat))∧W=w') ∧
     (∀j,j<bs.length→w.cell? ⟨b,off+j,none⟩=some (.int .u8 (bs.getD j 0).toNat))∧w.cell? ⟨b,off+f,none⟩=some (.int .u8 x) ∧
     (w.alloc (.cells #[.int .i64 0,.int .i64 0,.int .i64 0,.int .i64 0,.int .i64 0,.string ⟨#[]⟩,.slice none 0 0,.string ⟨#[]⟩] 111)).heap[r]?=some (.cells #[.int .i64 0,.int .i64 0,.int .i64 0,.int .i64 0,.int .i64 0,.string ⟨#[]⟩,.slice none 0 0,.string ⟨#[]⟩] 111 (0,0))∧Below w.heap.size w (w.alloc (.cells #[.int .i64 0,.int .i64 0,.int .i64 0,.int .i64 0,.int .i64 0,.string ⟨#[]⟩,.slice none 0 0,.string ⟨#[]⟩] 111)):=by
 obtain ⟨b,off,ha,hbW,hc⟩:=hr.at 0 f hfl
 have hrl:=zbd (bs.drop f)
 rw [List.length_drop] at hrl
 refine ⟨b,off,_,_,_,ha,hbW,rfl,rfl,by omega,rfl,hr.2.1,hr.i64c,decide_eq_false (by omega),decide_eq_false (by omega),by rw [beq_eq_false_iff_ne];omega,decide_eq_false (by omega),by omega,by omega,hrl,fun W h=>?_,
   fun W h=>zdl (hr.mono h) hn f (by omega),hc,hc f hfl,zac _ rfl,zak w _⟩
 have:=rskip_any (hr.mono h) hn k
 rw [hf] at this
 exact this
theorem zas {w:World} {b off f r x:Nat} (hbW:b<w.heap.size) (hrr:r=w.heap.size) {W1:World} (hB:Below w.heap.size w W1) (hc:w.cell? ⟨b,off+f,none⟩=some (.int .u8 x)) (hZ:W1.heap[r]?=some (.cells #[.int .i64 0,.int .i64 0,.int .i64 0,.int .i64 0,.int .i64 0,.string ⟨#[]⟩,.slice none 0 0,.string ⟨#[]⟩] 111 (0,0))) :
   W1.cell? ⟨b,off+f,none⟩=some (.int .u8 x)∧(W1.alloc (.cells #[.int .i64 0,.int .i64 f,.int .i64 f,.int .i64 0,.int .i64 0,.string ⟨#[]⟩,.slice none 0 0,.string ⟨#[]⟩] 111)).cell? ⟨b,off+f,none⟩=some (.int .u8 x)∧¬b=W1.heap.size∧b<W1.heap.size∧Rx w r W1.heap.size f (W1.alloc (.cells #[.int .i64 0,.int .i64 f,.int .i64 f,.int .i64 0,.int .i64 0,.string ⟨#[]⟩,.slice none 0 0,.string ⟨#[]⟩] 111)) :=
 ⟨cell?_keep hB hc,cell?_keep (hB.alloc hB.size _) hc,by have:=hB.size;omega,by have:=hB.size;omega,zal _ hZ,zac _ rfl,hB.alloc hB.size _,by rw [hrr];exact Nat.le_refl _⟩
end Go.Proofs.YtfafdeemfeaedaaGreat
