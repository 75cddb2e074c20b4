/-
  Our texts Vc3 to ArgsC, in one.
-/
import Derived.Test.YtcmoehknppjkiaaGreatDoorPkB14
import Derived.Lib.SlBytesConst
import Derived.ProofKit
import Derived.OpenShut
import Derived.Deep.Slices
import Derived.SizedLaws
import Derived.ChangeSlices
set_option maxRecDepth 8000
set_option maxHeartbeats 8000000
namespace Go.Proofs.YtcmoehknppjkiaaGreatDoor
open Go.RowKit
theorem cmpF_nil (a a':Option Addr) (c c':Nat) (f:Value) (w:World):Calls Tryz.prog 86 #[.slice a 0 c,.slice a' 0 c',f] w fun e w'=>e=.returned (.int .i64 0)/\w=w':=by
 go_enter Tryz.func86,Tryz.ntmps86
 go_wp2
 go_loop [13] (fun v=>v=.int .i64 0) (fun _=>0)
 case atStart=>rfl
 case round =>
  subst hrel;go_wp2;go_ret;exact ⟨rfl,rfl⟩
theorem vcmp_leaf (k n:Int) (s:ByteArray) (a a':Option Addr) (c c':Nat) (w:World):Calls Tryz.prog 51 #[.agg #[.int .i64 k,.int .i64 n,.string s,.slice a 0 c],.agg #[.int .i64 k,.int .i64 n,.string s,.slice a' 0 c']] w fun e w'=>e=.returned (.int .i64 0)/\Below w.heap.size w w':=by
 have HI:=yb (fun x W=>icmp_eq x W);have HS:=yb (fun W=>scmp_any s s W);simp only [zc5] at HS;have HF:=yb (fun f W=>cmpF_nil a a' c c' f W);have HO:=yb (fun (W:World) (b:Nat) (h0:W.cell? ⟨b,0,none⟩=some (.int .i64 0)) (h1:W.cell? ⟨b,1,none⟩=some (.int .i64 0)) (h2:W.cell? ⟨b,2,none⟩=some (.int .i64 0))=>or_zero h0 h1 h2);obtain ⟨B,hB⟩:∃B,B=w.heap.size:=⟨_,rfl⟩;have Qa:=yb (za6 w (.cells #[.int .i64 k,.int .i64 n,.string s,.slice a 0 c] 25) (.cells #[.int .i64 k,.int .i64 n,.string s,.slice a' 0 c'] 25));have Qj:=yb (zal (w:=w.alloc (.cells #[.int .i64 k,.int .i64 n,.string s,.slice a 0 c] 25)) (.cells #[.int .i64 k,.int .i64 n,.string s,.slice a' 0 c'] 25) (zac (w:=w) (b:=B) (.cells #[.int .i64 k,.int .i64 n,.string s,.slice a 0 c] 25) hB));have Qk:=yb (zac (w:=w.alloc (.cells #[.int .i64 k,.int .i64 n,.string s,.slice a 0 c] 25)) (b:=B+1) (.cells #[.int .i64 k,.int .i64 n,.string s,.slice a' 0 c'] 25) (by rw [zaq,hB]));go_enter Tryz.func51,Tryz.ntmps51
 go_upto_region 1 with fail
 try rw [<-hB]
 generalize World.alloc _ _=W1 at *;clear hB;generalize B+1=B2 at *
 go_cut [5] from 6 (fun v wx=>v=.int .i64 0/\Hid (Below W1.heap.size W1 wx))
 case first =>
  obtain ⟨⟨p0,p1,p2,p3⟩,-⟩:=zad Qj.out;obtain ⟨⟨q0,q1,q2,q3⟩,-⟩:=zad Qk.out;have Yg:=yb (zcL (zac (w:=W1) (b:=W1.heap.size) (.cells #[.int .i64 0,.int .i64 0,.int .i64 0] 3) rfl));have d0:=cell?_keep (Below.refl _ W1).drew p0;have d1:=cell?_keep (Below.refl _ W1).drew p1;have d2:=cell?_keep (Below.refl _ W1).drew p2;have e0:=cell?_keep (Below.refl _ W1).drew q0;have e1:=cell?_keep (Below.refl _ W1).drew q1;have e2:=cell?_keep (Below.refl _ W1).drew q2
  go_region_held3 (fun w'=>w'.cell? ⟨B,0,none⟩=some (.int .i64 k)/\w'.cell? ⟨B,1,none⟩=some (.int .i64 n)/\w'.cell? ⟨B,2,none⟩=some (.string s)/\w'.cell? ⟨B2,0,none⟩=some (.int .i64 k)/\w'.cell? ⟨B2,1,none⟩=some (.int .i64 n)/\w'.cell? ⟨B2,2,none⟩=some (.string s)) (go_keep)
   ((first
    |(go_at_call 84;refine (HI.out _ _).mono ?_;rintro e w' ⟨rfl,rfl⟩)
    |(go_at_call 85;refine (HS.out _).mono ?_;rintro e w' ⟨rfl,rfl⟩)
    |(go_at_call 83;refine (HO.out _ _ (cell?_keep (Below.refl _ _).drew Yg.out.1.1) (cell?_keep (Below.refl _ _).drew Yg.out.1.2.1) (cell?_keep (Below.refl _ _).drew Yg.out.1.2.2)).mono ?_;rintro e w' ⟨rfl,rfl⟩)))
  all_goals (try go_wp2_with fail)
  all_goals go_meet
  all_goals exact ⟨rfl,yb (zai W1 _).drew⟩
 case rest =>
 obtain ⟨rfl,Qb⟩:=hcut;have QU:=yb (zab Qb.out Qj.out);have ZM:=yb (zab Qb.out Qk.out);obtain ⟨⟨p0,p1,p2,p3⟩,-⟩:=zad QU.out;obtain ⟨⟨q0,q1,q2,q3⟩,-⟩:=zad ZM.out;go_wp2_with (go_at_call 86;refine (HF.out _ _).mono ?_;rintro e w' ⟨rfl,rfl⟩)
 go_ret;exact ⟨rfl,Qa.out.trans (Qb.out.mono Qa.out.size)⟩
theorem vsame_leaf (k n:Int) (s:ByteArray) (a a':Option Addr) (c c':Nat) (w:World):Calls Tryz.prog 22 #[.agg #[.int .i64 k,.int .i64 n,.string s,.slice a 0 c],.agg #[.int .i64 k,.int .i64 n,.string s,.slice a' 0 c']] w fun e w'=>e=.returned (.bool true)/\Below w.heap.size w w':=by
 have HC:=yb (fun W=>vcmp_leaf k n s a a' c c' W);obtain ⟨B,hB⟩:∃B,B=w.heap.size:=⟨_,rfl⟩;have Qa:=yb (za6 w (.cells #[.int .i64 k,.int .i64 n,.string s,.slice a 0 c] 25) (.cells #[.int .i64 k,.int .i64 n,.string s,.slice a' 0 c'] 25));have Qj:=yb (zal (w:=w.alloc (.cells #[.int .i64 k,.int .i64 n,.string s,.slice a 0 c] 25)) (.cells #[.int .i64 k,.int .i64 n,.string s,.slice a' 0 c'] 25) (zac (w:=w) (b:=B) (.cells #[.int .i64 k,.int .i64 n,.string s,.slice a 0 c] 25) hB));have Qk:=yb (zac (w:=w.alloc (.cells #[.int .i64 k,.int .i64 n,.string s,.slice a 0 c] 25)) (b:=B+1) (.cells #[.int .i64 k,.int .i64 n,.string s,.slice a' 0 c'] 25) (by rw [zaq,hB]));go_enter Tryz.func22,Tryz.ntmps22
 go_upto_region 1 with fail
 try rw [<-hB]
 generalize World.alloc _ _=W1 at *;clear hB;generalize B+1=B2 at *;obtain ⟨⟨p0,p1,p2,p3⟩,-⟩:=zad Qj.out;obtain ⟨⟨q0,q1,q2,q3⟩,-⟩:=zad Qk.out;go_wp2_with fail
 refine (HC.out _).mono ?_;rintro e w2 ⟨rfl,Ql⟩;have Qb:=yo Qa Ql;clear Ql;go_wp2_with fail
 go_ret;exact ⟨rfl,Qb.out⟩
theorem dict_nil (w:World):Calls Tryz.prog 23 #[.slice none 0 0] w fun e w'=>e=.returned (.agg #[.int .i64 7,.int .i64 0,.string ⟨#[]⟩,.slice none 0 0])/\Below w.heap.size w w':=by
 obtain ⟨B,hB⟩:∃B,B=w.heap.size:=⟨_,rfl⟩;have Qa:=yb (za6 w (.cells #[.int .i64 0,.int .i64 0,.string ⟨#[]⟩,.slice none 0 0] 25) (.cells #[.int .i64 7,.int .i64 0,.string ⟨#[]⟩,.slice none 0 0] 25));have Qj:=yb (zal (w:=w.alloc (.cells #[.int .i64 0,.int .i64 0,.string ⟨#[]⟩,.slice none 0 0] 25)) (.cells #[.int .i64 7,.int .i64 0,.string ⟨#[]⟩,.slice none 0 0] 25) (zac (w:=w) (b:=B) (.cells #[.int .i64 0,.int .i64 0,.string ⟨#[]⟩,.slice none 0 0] 25) hB));have Qk:=yb (zac (w:=w.alloc (.cells #[.int .i64 0,.int .i64 0,.string ⟨#[]⟩,.slice none 0 0] 25)) (b:=B+1) (.cells #[.int .i64 7,.int .i64 0,.string ⟨#[]⟩,.slice none 0 0] 25) (by rw [zaq,hB]));have HW:=yb (Nat.le_of_eq hB.symm);go_enter Tryz.func23,Tryz.ntmps23
 go_upto_region 2 with fail
 try rw [<-hB]
 generalize World.alloc _ _=W1 at *;clear hB;generalize B+1=B2 at *;go_wp2_with fail
 go_loop [4] (fun v=>v=.int .i64 0) (fun _=>0)
 case atStart=>rfl
 case round =>
  subst hrel;obtain ⟨⟨a0,a1,a2,a3⟩,f0,f1,f2,f3⟩:=zad Qj.out;obtain ⟨⟨b0,b1,b2,b3⟩,-⟩:=zad Qk.out;go_wp2_with fail
  refine yi (results_cell_row rfl _ _ B 25 _ (0,0) _ rfl (by exact set4 Qj.out _ _ _ _) Tryz.underlying25 rfl (by exact zav)) rfl ?_;exact ⟨rfl,zae Qa.out HW.out _ _ _ _⟩
theorem infoRSec:(Tryz.prog.info? 27).map (·.size)=some 5:=by kernel_rfl
theorem of15_any (g v:Value) (k n:Int) (s:ByteArray) (ga sa:Option Addr) (gl gc sl sc:Nat) (w:World) (hg:g=.slice ga gl gc) (hv:v=.slice sa sl sc):Calls Tryz.prog 13 #[.agg #[g,.int .i64 k,.int .i64 n,.string s,v]] w fun e w'=>e=.returned (.agg #[g,.int .i64 k,.int .i64 n,.string s,v])/\Below w.heap.size w w':=by
 subst hg;subst hv;obtain ⟨B,hB⟩:∃B,B=w.heap.size:=⟨_,rfl⟩;have Qa:=yb (za6 w (.cells #[.slice ga gl gc,.int .i64 k,.int .i64 n,.string s,.slice sa sl sc] 34) (.cells #[.slice none 0 0,.int .i64 0,.int .i64 0,.string ⟨#[]⟩,.slice none 0 0] 27));have Qj:=yb (zal (w:=w.alloc (.cells #[.slice ga gl gc,.int .i64 k,.int .i64 n,.string s,.slice sa sl sc] 34)) (.cells #[.slice none 0 0,.int .i64 0,.int .i64 0,.string ⟨#[]⟩,.slice none 0 0] 27) (zac (w:=w) (b:=B) (.cells #[.slice ga gl gc,.int .i64 k,.int .i64 n,.string s,.slice sa sl sc] 34) hB));have Qk:=yb (zac (w:=w.alloc (.cells #[.slice ga gl gc,.int .i64 k,.int .i64 n,.string s,.slice sa sl sc] 34)) (b:=B+1) (.cells #[.slice none 0 0,.int .i64 0,.int .i64 0,.string ⟨#[]⟩,.slice none 0 0] 27) (by rw [zaq,hB]));have HW:=yb (show w.heap.size<=B+1 by omega);go_enter Tryz.func13,Tryz.ntmps13
 go_upto_region 1 with fail
 try rw [<-hB]
 generalize World.alloc _ _=W1 at *;clear hB;generalize B+1=B2 at *;obtain ⟨⟨p0,p1,p2,p3,p4⟩,-⟩:=zaW Qj.out;obtain ⟨⟨q0,q1,q2,q3,q4⟩,f0,f1,f2,f3,f4⟩:=zaW Qk.out;go_wp2_with fail
 refine yi (results_cell_row rfl _ _ B2 27 _ (0,0) _ rfl (by exact set5 Qk.out _ _ _ _ _) Tryz.underlying27 rfl (by exact infoRSec)) rfl ?_;exact ⟨rfl,zc1 Qa.out HW.out _ _ _ _ _⟩
def secT1:List UInt8:=[120,114,101,102,10,51,32,49,10,48,48,48,48,48,48,48,48,49,55,32,48,48,48,48,48,32,110,32,10,116,114,97,105,108,101,114,60,60,62,62,32]
theorem sec_ex:secV secT1 false 0=(⟨[⟨3,[⟨17,0,true⟩]⟩],.mk 7 0 [] []⟩,40,0):=by kernel_rfl
theorem ent_ex:entR ⟨17,0,true⟩=([48,48,48,48,48,48,48,48,49,55,32,48,48,48,48,48,32,110,32,10],0):=by
 have h17:decL 17=[49,55]:=by rw [zdF (by decide),zbQ (by decide)];rfl
 have h0:decL 0=[48]:=by rw [zbQ (by decide)];rfl
 unfold entR;rw [yg (by decide)];unfold entL entB padL;simp only [show (17:Int).toNat=17 from rfl,show (0:Int).toNat=0 from rfl,h17,h0];rfl
theorem row_bsX {w:World} (bs:List UInt8) (t:TypeId) (hb:bs.length<=200):Row (w.alloc (.cells (bs.map u8C).toArray t (bs.length,bs.length+1))) 1 (some ⟨w.heap.size,0,none⟩) bs.length bs.length (bs.map u8C):=by
 refine ⟨by simp,yp _,by unfold maxLen;omega,fun h=>(by cases h),fun _=>⟨_,_,rfl,(by rw [zaq];omega),fun j u hj=>?_⟩⟩;rw [cell_of_row _ _ _ _ _ _ (zac _ rfl)]
 simpa using hj
theorem works15 (w:World):Calls Tryz.prog 6 #[] w fun e w'=>e=.returned (.bool true)/\Below w.heap.size w w':=by
 have HP:=yb (fun W:World=>zg4 (row_bsX (w:=W) secT1 5 (by decide)) (by decide) 0 false);rw [sec_ex] at HP;unfold zfF at HP;simp only at HP;have ZN:=fun (W:World) (C:Array Value) (n c:Nat)=>Lib.run_convert_bytes_const (P:=Tryz.prog) W 28 5 C n c Tryz.underlying28 Tryz.underlying5;have HE:=yb (fun W=>xent_any ⟨17,0,true⟩ W);rw [ent_ex] at HE;unfold entA at HE;simp only at HE;have HD:=yb (fun W=>dict_nil W);go_enter Tryz.func6,Tryz.ntmps6
 go_wp2_with fail
 refine (HP.out w).mono ?_;rintro e w1 ⟨gv,sl,rfl,ZO,Qz⟩;obtain ⟨ga,gc,rfl,-,-,-⟩:=ZO.1.len;obtain ⟨sa,sc,rfl,-,-,-⟩:=ZO.2.len;have HF:=yb (fun (W:World) (hb:Below w1.heap.size w1 W)=>xfind_any (ZO.below hb) 3 (fun g hg=>by rcases List.mem_singleton.1 hg with rfl;exact ⟨by decide,by decide⟩) (by decide) (by decide));rw [show zfn ([⟨3,[⟨17,0,true⟩]⟩]:List Grp) 3=some ⟨17,0,true⟩ from rfl] at HF;have Qa:=yb ((zai w _).trans (Qz.mono (by rw [zaq];omega)));have HS:=yb (fun W=>vsame_leaf 7 0 ⟨#[]⟩ sa none sc 0 W);unfold secA findP entA at HF;unfold secA;simp only [PV.kind,PV.n,PV.s,PV.l,List.length_nil,List.length_singleton,show mkB []=⟨#[]⟩ from rfl] at HF |-;clear ZO Qz ZN HP;have QA:=yb (zac (w:=w1) (b:=w1.heap.size) (.cells #[.slice ga 1 gc,.int .i64 7,.int .i64 0,.string ⟨#[]⟩,.slice sa 0 sc] 34) rfl);have Yh:=yb (zai w1 (.cells #[.slice ga 1 gc,.int .i64 7,.int .i64 0,.string ⟨#[]⟩,.slice sa 0 sc] 34));have Qb:=yb (Qa.out.trans (Yh.out.mono Qa.out.size))
 go_upto_region 2 with fail
 have YU:=yb (HF.out _ Yh.out);clear HF Yh Qa;generalize w1.heap.size=T at *;generalize World.alloc _ _=W2 at *;obtain ⟨⟨p0,p1,p2,p3,p4⟩,-⟩:=zaW QA.out;go_wp2_with fail
 refine YU.out.mono ?_;rintro e w3 ⟨rfl,Qw⟩;have Qn:=Qw.alloc Qw.size (.cells #[.int .i64 17,.int .i64 0,.bool true] 45);have Ze:=yb (zab Qn QA.out);have YV:=yb (zac (w:=w3) (b:=w3.heap.size) (.cells #[.int .i64 17,.int .i64 0,.bool true] 45) rfl);have Qx:=yo Qb Qn;clear Qw Qn QA Qb YU p0 p1 p2 p3 p4
 go_upto_region 3 with fail
 generalize w3.heap.size=Q at *;generalize World.alloc _ _=W4 at *;go_wp2_with fail
 refine (HE.out _).mono ?_;rintro e w5 ⟨rfl,Qq⟩;have QN:=yb (zab Qq Ze.out);have Xt:=yb (zab Qq YV.out);have QB:=yo Qx Qq;clear Qq Ze YV Qx HE;obtain ⟨⟨p0,p1,p2,p3,p4⟩,-⟩:=zaW QN.out;obtain ⟨⟨q0,q1,q2⟩,-⟩:=zcL Xt.out;have r0:=zaI.cell p0;have r1:=zaI.cell p1;have r2:=zaI.cell p2;have r3:=zaI.cell p3;have r4:=zaI.cell p4;have e0:=zaI.cell q0;have e1:=zaI.cell q1;have e2:=zaI.cell q2;have Ve:((mkB [48,48,48,48,48,48,48,48,49,55,32,48,48,48,48,48,32,110,32,10]).toList==[48,48,48,48,48,48,48,48,49,55,32,48,48,48,48,48,32,110,32,10])=true:=by rw [zcl];rfl
 clear p0 p1 p2 p3 p4 q0 q1 q2
 go_upto_region 4 with fail
 refine zaX (by kernel_rfl) (by kernel_rfl) ?_
 repeat (go_big_quiet_step ((first
  |(go_at_call 23;with_reducible exact Calls.below_of (HD.out _))
  |(go_at_call 22;with_reducible exact Calls.below_of (HS.out _)))))
 refine wpQuiet_nil ?_;rintro _ ⟨⟨w6,Zp⟩,rfl⟩;go_wp2;go_ret;exact ⟨rfl,QB.out.trans (Zp.mono QB.out.size)⟩
theorem infoXSec:(Tryz.prog.info? 34).map (·.size)=some 5:=by kernel_rfl
theorem to15_any (ga sa:Option Addr) (gl gc sl sc:Nat) (k n:Int) (s:ByteArray) (w:World):Calls Tryz.prog 8 #[.agg #[.slice ga gl gc,.int .i64 k,.int .i64 n,.string s,.slice sa sl sc]] w fun e w'=>e=.returned (.agg #[.slice ga gl gc,.int .i64 k,.int .i64 n,.string s,.slice sa sl sc])/\Below w.heap.size w w':=by
 obtain ⟨B,hB⟩:∃B,B=w.heap.size:=⟨_,rfl⟩;have Qa:=yb (za6 w (.cells #[.slice ga gl gc,.int .i64 k,.int .i64 n,.string s,.slice sa sl sc] 27) (.cells #[.slice none 0 0,.int .i64 0,.int .i64 0,.string ⟨#[]⟩,.slice none 0 0] 34));have Qj:=yb (zal (w:=w.alloc (.cells #[.slice ga gl gc,.int .i64 k,.int .i64 n,.string s,.slice sa sl sc] 27)) (.cells #[.slice none 0 0,.int .i64 0,.int .i64 0,.string ⟨#[]⟩,.slice none 0 0] 34) (zac (w:=w) (b:=B) (.cells #[.slice ga gl gc,.int .i64 k,.int .i64 n,.string s,.slice sa sl sc] 27) hB));have Qk:=yb (zac (w:=w.alloc (.cells #[.slice ga gl gc,.int .i64 k,.int .i64 n,.string s,.slice sa sl sc] 27)) (b:=B+1) (.cells #[.slice none 0 0,.int .i64 0,.int .i64 0,.string ⟨#[]⟩,.slice none 0 0] 34) (by rw [zaq,hB]));have HW:=yb (show w.heap.size<=B+1 by omega);go_enter Tryz.func8,Tryz.ntmps8
 go_upto_region 1 with fail
 try rw [<-hB]
 generalize World.alloc _ _=W1 at *;clear hB;generalize B+1=B2 at *;obtain ⟨⟨p0,p1,p2,p3,p4⟩,-⟩:=zaW Qj.out;obtain ⟨⟨q0,q1,q2,q3,q4⟩,f0,f1,f2,f3,f4⟩:=zaW Qk.out;go_wp2_with fail
 refine yi (results_cell_row rfl _ _ B2 34 _ (0,0) _ rfl (by exact set5 Qk.out _ _ _ _ _) Tryz.underlying34 rfl (by exact infoXSec)) rfl ?_;exact ⟨rfl,zc1 Qa.out HW.out _ _ _ _ _⟩
theorem zfF.split {w w':World} {s:Sec} {n e:Int} {en:Ending} (h:zfF w (s,n,e) en w'):∃ga gc sa sc,en=.returned (.tuple #[.agg #[.slice ga s.gs.length gc,.int .i64 s.tr.kind,.int .i64 s.tr.n,.string (mkB s.tr.s),.slice sa s.tr.l.length sc],.int .i64 n,.int .i64 e]) /\
  zcj w' anyF s (.slice ga s.gs.length gc) (.slice sa s.tr.l.length sc)/\Below w.heap.size w w':=by
 obtain ⟨gv,sl,rfl,hs,hb⟩:=h;obtain ⟨ga,gc,rfl,-,-,-⟩:=hs.1.len;obtain ⟨sa,sc,rfl,-,-,-⟩:=hs.2.len;exact ⟨ga,gc,sa,sc,rfl,hs.keep (zaU.refl _ _) (fun _ _=>trivial),hb⟩
def PlEndX (w:World) (e:Ending) (w':World):Prop:=e=.returned (.bool true)/\Below w.heap.size w w'
theorem zfP {s:Sec} (ho:FewX s) (hc:zbR s=0):(∀g∈s.gs,g.es.length<=100)/\(zat s.tr).length<=3000:=by
 have QV:=(zfi hc).2.2.1;have Xu:zb0 s.tr=zat s.tr:=zhM s.tr (by unfold zbG at QV;split at QV;cases QV;exact QV);exact ⟨ho.2.2.2,by rw [<-Xu];exact ho.2.2.1⟩
def NxtEnd (w:World) (V:Tk×Int×Int×Int) (e:Ending) (w':World):Prop:=e=.returned (.tuple #[.agg (tokN V.1 V.2.1 V.2.2.1),.int .i64 V.2.2.2])/\Below w.heap.size w w'
theorem dnext_any {w:World} {a:Option Addr} {cap:Nat} {bs:List UInt8} (hr:Row w 1 a bs.length cap (bs.map u8C)) (hn:bs.length<=400000) (k:Int) (yq:Bool) :
  Calls Tryz.prog 32 #[.slice a bs.length cap,.int .i64 k,.bool yq] w (NxtEnd w (nxtV bs yq k)):=by
 have HN:=yb (fun (W:World) (h:Below w.heap.size w W)=>zcv (hr.mono h) hn k yq);unfold NxtEnd;rw [nxt_1,nxt_2,nxt_3,nxt_4];generalize zan bs k yq=V at *;obtain ⟨x,f,t,er⟩:=V;unfold zaF tokN at HN;unfold tokN nxE;simp only at HN |-;clear hr;generalize x.kind=a0 at *;generalize x.vk=a1 at *;generalize x.vn=a2 at *;generalize mkB x.vs=s1 at *;generalize mkB x.s=s2 at *;obtain ⟨E,hE⟩:∃E,E=(if er=0/\a0=0 then (10:Int) else er):=⟨_,rfl⟩;rw [<-hE];have HE:=yb hE;clear hE;obtain ⟨B,hB⟩:∃B,B=w.heap.size:=⟨_,rfl⟩;have Qa:=yb (zai w (.cells #[.int .i64 0,.int .i64 0,.int .i64 0,.int .i64 0,.int .i64 0,.string ⟨#[]⟩,.slice none 0 0,.string ⟨#[]⟩] 81));have QO:=yb (zac (w:=w) (b:=B) (.cells #[.int .i64 0,.int .i64 0,.int .i64 0,.int .i64 0,.int .i64 0,.string ⟨#[]⟩,.slice none 0 0,.string ⟨#[]⟩] 81) hB);have Yi:=yb (Nat.le_of_eq hB.symm);go_enter Tryz.func32,Tryz.ntmps32
 go_upto_region 1 with fail
 rw [<-hB];clear hB;generalize w.alloc _=W1 at *;go_wp2_with fail
 refine (HN.out _ Qa.out).mono ?_;rintro e w2 ⟨rfl,Ql⟩;have Qe:=Ql.alloc Ql.size (.cells #[.int .i64 a0,.int .i64 f,.int .i64 t,.int .i64 a1,.int .i64 a2,.string s1,.slice none 0 0,.string s2] 81);have QA:=yb (zac (w:=w2) (b:=w2.heap.size) (.cells #[.int .i64 a0,.int .i64 f,.int .i64 t,.int .i64 a1,.int .i64 a2,.string s1,.slice none 0 0,.string s2] 81) rfl);have Qm:=yb (zab Qe QO.out);have Qb:=yo Qa Qe;clear Ql Qe HN QO
 go_upto_region 2 with fail
 obtain ⟨r2,YW⟩:∃r2,r2=w2.heap.size:=⟨_,rfl⟩;rw [<-YW] at QA |-;clear YW;generalize w2.alloc _=W2 at *;obtain ⟨⟨t0,t1,t2,t3,t4,t5,t6,t7⟩,-⟩:=zah QA.out;obtain ⟨⟨r0,r1,r2',r3,r4,r5,r6,r7⟩,rf0,rf1,rf2,rf3,rf4,rf5,rf6,rf7⟩:=zah Qm.out
 by_cases her:er=0
 ·subst her
  by_cases hk0:a0=0
  ·subst hk0
   obtain rfl:E=10:=by rw [HE.out,yg ⟨rfl,rfl⟩]
   go_wp2;refine yi (zaa rfl _ _ B 81 _ (0,0) _ rfl (by exact set8 Qm.out _ _ _ _ _ _ _ _) Tryz.underlying81 rfl (by exact zas) _ rfl) rfl ?_;exact ⟨rfl,za9 Qb.out Yi.out _ _ _ _ _ _ _ _⟩
  ·have YX:(a0==0)=false:=by rw [yf];exact hk0
   obtain rfl:E=0:=by rw [HE.out,yh (fun h=>hk0 h.2)]
   go_wp2;refine yi (zaa rfl _ _ B 81 _ (0,0) _ rfl (by exact set8 Qm.out _ _ _ _ _ _ _ _) Tryz.underlying81 rfl (by exact zas) _ rfl) rfl ?_;exact ⟨rfl,za9 Qb.out Yi.out _ _ _ _ _ _ _ _⟩
 ·have e1:(er==0)=false:=by rw [yf];exact her
  obtain rfl:er=E:=by rw [HE.out,yh (fun h=>her h.1)]
  go_wp2;refine yi (zaa rfl _ _ B 81 _ (0,0) _ rfl (by exact set8 Qm.out _ _ _ _ _ _ _ _) Tryz.underlying81 rfl (by exact zas) _ rfl) rfl ?_;exact ⟨rfl,za9 Qb.out Yi.out _ _ _ _ _ _ _ _⟩
def DEntEnd (w:World) (V:Ent×Nat×Int) (e:Ending) (w':World):Prop:=e=.returned (.tuple #[entA V.1,.int .i64 V.2.1,.int .i64 V.2.2])/\Below w.heap.size w w'
theorem zdc {s:List UInt8} (h:(zaD (s.take 10)).2≠0\/(zaD ((s.drop 11).take 5)).2≠0\/65535<(zaD ((s.drop 11).take 5)).1\/s.getD 10 0≠32\/s.getD 16 0≠32\/(s.getD 17 0≠110/\s.getD 17 0≠102) \/
  (s.getD 18 0≠32/\s.getD 18 0≠10/\s.getD 18 0≠13)):entS s=none:=by unfold entS;rw [yg h]
theorem entR_ok {s:List UInt8} (h:¬((zaD (s.take 10)).2≠0\/(zaD ((s.drop 11).take 5)).2≠0\/65535<(zaD ((s.drop 11).take 5)).1\/s.getD 10 0≠32\/s.getD 16 0≠32\/(s.getD 17 0≠110/\s.getD 17 0≠102) \/
  (s.getD 18 0≠32/\s.getD 18 0≠10/\s.getD 18 0≠13))):(entS s).isNone=false:=by unfold entS;rw [yh h];rfl
theorem entR_some {s:List UInt8} (h:false=(entS s).isNone):entS s=some { at_:=(zaD (s.take 10)).1,gen:=(zaD ((s.drop 11).take 5)).1,used:=s.getD 17 0==110 }:=by
 unfold entS at h |-
 split at h
 ·cases h
 ·rename_i hn;rw [yh hn]
theorem bt_mkB {s:List UInt8} {k n:Nat} (h:s.length=n) (hk:k<n):PlainAid.bt (mkB s) k=((s.getD k 0).toNat:Int):=by
 have Xv:k<(mkB s).size:=by rw [zaR];omega
 rw [<-PlainAid.get_bt (mkB s) k Xv]
 congr 2
 have:bl (mkB s)=s:=rfl;rw [List.getD_eq_getElem?_getD,List.getElem?_eq_getElem (by omega)];rfl
theorem ze3 {B:Nat} {w W:World} (h:Below B w W) {r:Nat} (hr:B<=r) (y0 y1 y2:Value):Below B w (((W.setCell ⟨r,0,none⟩ y0).setCell ⟨r,1,none⟩ y1).setCell ⟨r,2,none⟩ y2) :=
 ((h.setCell hr _).setCell hr _).setCell hr _
theorem dentry_any {w:World} {a:Option Addr} {cap:Nat} {bs:List UInt8} (hr:Row w 1 a bs.length cap (bs.map u8C)) (hn:bs.length<=400000) {k:Nat} (hk:k<=bs.length) (yq:Bool) :
  Calls Tryz.prog 34 #[.slice a bs.length cap,.int .i64 k,.bool yq] w (DEntEnd w (entV bs yq k)):=by
 obtain ⟨V,hV⟩:∃V,V=entV bs yq k:=⟨_,rfl⟩;rw [<-hV];have HV:=yb hV;have Vf:=hr.2.1;have Vg:=hr.i64c;have HR:=yb hr;clear hr hV;go_enter Tryz.func34,Tryz.ntmps34
 go_upto_block 0 with fail
 have Qa:=yb (zai w (.cells #[.int .i64 0,.int .i64 0,.bool false] 45));obtain ⟨r,hr⟩:∃r,r=w.heap.size:=⟨_,rfl⟩;have QO:=yb (zac (w:=w) (b:=r) (.cells #[.int .i64 0,.int .i64 0,.bool false] 45) hr);have Yj:=yb (Nat.le_of_eq hr.symm);have Yk:=yb (HR.out.mono Qa.out);rw [<-hr];clear hr HR;generalize w.alloc _=W1 at *;obtain ⟨J,hJ⟩:∃J,J=zc6 bs k:=⟨_,rfl⟩;have HJ:=yb hJ;clear hJ
 go_cut [1] from 14 (fun v wx=>∃j:Nat,v=.int .i64 j/\j<=bs.length/\Hid (J=j)/\Hid (Below W1.heap.size W1 wx))
 case first =>
  go_wp2_with fail
  go_loopw [1] (fun v wr=>∃j:Nat,v=.int .i64 j/\j<=bs.length/\Hid (zc6 bs j=J)/\Hid (Below W1.heap.size W1 wr)) (fun v _=>bs.length-(intOf v).toNat)
  case atStart=>exact ⟨k,rfl,hk,yb HJ.out.symm,yb (Below.refl _ _)⟩
  case round =>
   obtain ⟨j,rfl,hj,Yl,HB⟩:=hrel;have hck:(j:Int)<=400000:=by omega
   by_cases hjl:j<bs.length
   ·obtain ⟨b,off,rfl,-,QV⟩:=(Yk.out.mono HB.out).at 0 j hjl
    have Xw:=QV j hjl;unfold u8C at Xw;have Xx:decide ((j:Int)<bs.length)=true:=by simp;omega
    have Ym:decide (j<bs.length)=true:=by simp;omega
    have ZP:=yb (fun W=>zdG (bs.getD j 0).toNat W);rw [<-ze7] at ZP;have Xy:=yb (fun h=>skip_go (bs:=bs) hjl h);have Xz:=yb (fun h=>skip_stop (bs:=bs) hjl h);clear QV;generalize bs.getD j 0=c at *;obtain ⟨sp,Yn⟩:∃sp,isSp c=sp:=⟨_,rfl⟩;rw [Yn] at ZP;have QP:=yb Yn;clear Yn;generalize c.toNat=x at *
    cases sp
    ·go_wp2_with (go_at_call 67;refine (ZP.out _).mono ?_;rintro e w' ⟨rfl,rfl⟩)
     go_meet
     exact ⟨j,rfl,hj,yb (Yl.out.symm.trans (Xz.out QP.out)),yb HB.out⟩
    ·go_wp2_with (go_at_call 67;refine (ZP.out _).mono ?_;rintro e w' ⟨rfl,rfl⟩)
     go_roundw
     case rel=>exact ⟨j+1,by go_num,by omega,yb ((Xy.out QP.out).symm.trans Yl.out),yb HB.out⟩
     case measure=>simp [intOf];omega
   ·have YY:j=bs.length:=by omega
    have Zf:=yb (show J=j by rw [<-Yl.out,YY];exact skip_end bs);have Xx:decide ((j:Int)<bs.length)=false:=ye (by omega);have Ym:decide (j<bs.length)=false:=ye (by omega);clear YY;go_wp2_with fail
    go_meet
    exact ⟨j,rfl,hj,Zf,yb HB.out⟩
 case rest =>
  obtain ⟨j,rfl,hj,Zf,Qb⟩:=hcut;have hck:(j:Int)<=400000:=by omega
  generalize wc=W2 at *;have Qm:=yb (zab Qb.out QO.out);have Zg:=yb (Qa.out.trans (Qb.out.mono Qa.out.size));have Yo:=yb (Yk.out.mono Qb.out);clear QO Yk
  by_cases hlen:bs.length<j+19
  ·have Zh:=yb (HV.out.trans (entV_cut (yq:=yq) (HJ.out.symm.trans Zf.out) hlen))
   have XA:decide ((bs.length:Int)-j<19)=true:=yd (by omega);clear hlen;obtain ⟨⟨z0,z1,z2⟩,y0,y1,y2⟩:=zcL Qm.out
   cases yq
   all_goals
    go_wp2;refine yi (zaf rfl _ _ r 45 _ (0,0) _ rfl (by exact set3a Qm.out _ _ _) Tryz.underlying45 rfl (by exact zdB) _ _ rfl rfl) rfl ?_;rw [Zh.out];exact ⟨rfl,ze3 Zg.out Yj.out _ _ _⟩
  ·have hjl:j<bs.length:=by omega
   have XA:decide ((bs.length:Int)-j<19)=false:=ye (by omega);obtain ⟨b2,off2,ha,-,-⟩:=Yo.out.at 0 j hjl;subst ha;have Yp:j+19<=bs.length:=by omega
   have ZQ:=yb (show ((bs.drop j).take 19).length=19 by rw [List.length_take,ym];omega);have ZN:=conv_rowX (bs:=(bs.drop j).take 19) (by rw [ZQ.out];exact zhR Yo.out j 19 Yp);rw [ZQ.out] at ZN;have ZR:=yb (fun h=>HV.out.trans (entV_bad (yq:=yq) (HJ.out.symm.trans Zf.out) hlen h));have ZS:=yb (fun x h=>HV.out.trans (entV_ok (yq:=yq) (x:=x) (HJ.out.symm.trans Zf.out) hlen h));have Vh:19<=cap-j:=by omega
   have Vi:((cap-j:Nat):Int)<=9223372036854775807:=by omega
   generalize (bs.drop j).take 19=s at *;clear hlen Zf HJ HV;have hsz:(mkB s).size=19:=by rw [zaR];exact ZQ.out
   have QW:=yb (fun W=>zgb ((mkB s).extract 0 10) W (by rw [ByteArray.size_extract];omega));have QX:=yb (fun W=>zgb ((mkB s).extract 11 16) W (by rw [ByteArray.size_extract];omega));rw [bl_ext,show bl (mkB s)=s from rfl] at QW QX;simp only [List.drop_zero,Nat.sub_zero,show 16-11=5 from rfl] at QW QX;unfold DigEnd at QW QX;have Zq:=PlainAid.get_bt (mkB s);have HB:=yb (fun k h=>bt_mkB (s:=s) (k:=k) ZQ.out h);generalize mkB s=T at *;obtain ⟨A,hA⟩:∃A,A=zaD (s.take 10):=⟨_,rfl⟩;obtain ⟨G,hG⟩:∃G,G=zaD ((s.drop 11).take 5):=⟨_,rfl⟩;rw [<-hA] at QW;rw [<-hG] at QX;have HA:=yb hA;have Zi:=yb hG;clear hA hG;obtain ⟨an,ae⟩:=A;obtain ⟨gn,ge⟩:=G;simp only at QW QX
   go_upto_region 10 with (first
    |(go_at_call_of 68 (Value.string (T.extract 0 10));refine (QW.out _).mono ?_;rintro e w3 ⟨rfl,Qw⟩;have ZT:=yb Qw;clear Qw)
    |(go_at_call 68;refine (QX.out _).mono ?_;rintro e w4 ⟨rfl,QQ⟩;have Qx:=yb QQ;clear QQ))
   have Yq:=yb (zab Qx.out (zab ZT.out Qm.out));have YZ:=yb ((Zg.out.trans (ZT.out.mono Zg.out.size)).trans (Qx.out.mono (Zg.out.trans (ZT.out.mono Zg.out.size)).size));have b10:=HB.out 10 (by decide);have b16:=HB.out 16 (by decide);have b17:=HB.out 17 (by decide);have b18:=HB.out 18 (by decide);obtain ⟨x10,QY⟩:∃x,(s.getD 10 0).toNat=x:=⟨_,rfl⟩;obtain ⟨x16,QZ⟩:∃x,(s.getD 16 0).toNat=x:=⟨_,rfl⟩;obtain ⟨x17,Q0⟩:∃x,(s.getD 17 0).toNat=x:=⟨_,rfl⟩;obtain ⟨x18,Q1⟩:∃x,(s.getD 18 0).toNat=x:=⟨_,rfl⟩;rw [QY] at b10;rw [QZ] at b16;rw [Q0] at b17;rw [Q1] at b18;have XB:=(Zq 10 (by omega)).trans b10;have XC:=(Zq 16 (by omega)).trans b16;have XD:=(Zq 17 (by omega)).trans b17;have XE:=(Zq 18 (by omega)).trans b18;have Zr:=yb QY;have Zs:=yb QZ;have Qr:=yb Q0;have Qo:=yb Q1;clear QY QZ Q0 Q1 b10 b16 b17 b18 Zq HB ZT Qx Qm Zg Yo QW QX ZN Qb;obtain ⟨bd,Y0⟩:∃bd,bd=(entS s).isNone:=⟨_,rfl⟩;have Qf:=yb Y0;clear Y0;generalize w4=W4 at *
   go_cut [97] from 53 (fun v wx=>v=.bool bd/\wx=W4)
   case first =>
    clear ZR ZS
    by_cases hA0:ae=0
    case neg =>
     obtain rfl:bd=true:=by rw [Qf.out,zdc (.inl (by rw [<-HA.out];exact hA0))];rfl
     have e0:(ae==0)=false:=by rw [yf];exact hA0
     have f0:(ae != 0)=true:=by simp only [bne,e0,yj]
     clear hA0;go_wp2_with fail
     go_meet
     exact ⟨rfl,rfl⟩
    subst hA0
    by_cases hG0:ge=0
    case neg =>
     obtain rfl:bd=true:=by rw [Qf.out,zdc (.inr (.inl (by rw [<-Zi.out];exact hG0)))];rfl
     have e0:(ge==0)=false:=by rw [yf];exact hG0
     have f0:(ge != 0)=true:=by simp only [bne,e0,yj]
     clear hG0;go_wp2_with fail
     go_meet
     exact ⟨rfl,rfl⟩
    subst hG0
    by_cases hG1:65535<gn
    case pos =>
     obtain rfl:bd=true:=by rw [Qf.out,zdc (.inr (.inr (.inl (by rw [<-Zi.out];exact hG1))))];rfl
     go_wp2_with fail
     go_meet
     exact ⟨rfl,rfl⟩
    by_cases h10:x10=32
    case neg =>
     obtain rfl:bd=true:=by rw [Qf.out,zdc (.inr (.inr (.inr (.inl (fun e=>h10 (by rw [<-Zr.out,e];rfl))))))];rfl
     have e32:((x10:Int)==32)=false:=by rw [yf];omega
     have f32:((x10:Int) != 32)=true:=by simp only [bne,e32,yj]
     go_wp2_with fail
     go_meet
     exact ⟨rfl,rfl⟩
    subst h10
    by_cases h16:x16=32
    case neg =>
     obtain rfl:bd=true:=by rw [Qf.out,zdc (.inr (.inr (.inr (.inr (.inl (fun e=>h16 (by rw [<-Zs.out,e];rfl)))))))];rfl
     have e32:((x16:Int)==32)=false:=by rw [yf];omega
     have f32:((x16:Int) != 32)=true:=by simp only [bne,e32,yj]
     go_wp2_with fail
     go_meet
     exact ⟨rfl,rfl⟩
    subst h16
    by_cases h17:x17=110\/x17=102
    case neg =>
     obtain rfl:bd=true:=by rw [Qf.out,zdc (.inr (.inr (.inr (.inr (.inr (.inl ⟨fun e=>h17 (.inl (by rw [<-Qr.out,e];rfl)),fun e=>h17 (.inr (by rw [<-Qr.out,e];rfl))⟩))))))];rfl
     have e110:((x17:Int)==110)=false:=by rw [yf];omega
     have f110:((x17:Int) != 110)=true:=by simp only [bne,e110,yj]
     have e102:((x17:Int)==102)=false:=by rw [yf];omega
     have f102:((x17:Int) != 102)=true:=by simp only [bne,e102,yj]
     go_wp2_with fail
     go_meet
     exact ⟨rfl,rfl⟩
    by_cases h18:x18=32\/x18=10\/x18=13
    case neg =>
     obtain rfl:bd=true:=by rw [Qf.out,zdc (.inr (.inr (.inr (.inr (.inr (.inr (⟨fun e=>h18 (.inl (by rw [<-Qo.out,e];rfl)),fun e=>h18 (.inr (.inl (by rw [<-Qo.out,e];rfl))),fun e=>h18 (.inr (.inr (by rw [<-Qo.out,e];rfl)))⟩)))))))];rfl
     have e32:((x18:Int)==32)=false:=by rw [yf];omega
     have f32:((x18:Int) != 32)=true:=by simp only [bne,e32,yj]
     have e10:((x18:Int)==10)=false:=by rw [yf];omega
     have f10:((x18:Int) != 10)=true:=by simp only [bne,e10,yj]
     have e13:((x18:Int)==13)=false:=by rw [yf];omega
     have f13:((x18:Int) != 13)=true:=by simp only [bne,e13,yj]
     rcases h17 with rfl|rfl
     all_goals (go_wp2_with fail;go_meet;exact ⟨rfl,rfl⟩)
    obtain rfl:bd=false:=by
     rw [Qf.out];refine entR_ok ?_;rintro (h|h|h|h|h|h|h)
     ·rw [<-HA.out] at h;exact h rfl
     ·rw [<-Zi.out] at h;exact h rfl
     ·rw [<-Zi.out] at h;exact hG1 h
     ·exact h (zdZ Zr.out rfl)
     ·exact h (zdZ Zs.out rfl)
     ·rcases h17 with e|e
      ·exact h.1 (zdZ (Qr.out.trans e) rfl)
      ·exact h.2 (zdZ (Qr.out.trans e) rfl)
     ·rcases h18 with e|e|e
      ·exact h.1 (zdZ (Qo.out.trans e) rfl)
      ·exact h.2.1 (zdZ (Qo.out.trans e) rfl)
      ·exact h.2.2 (zdZ (Qo.out.trans e) rfl)
    rcases h17 with rfl|rfl<;>rcases h18 with rfl|rfl|rfl
    all_goals (go_wp2_with fail;go_meet;exact ⟨rfl,rfl⟩)
   case rest =>
    obtain ⟨rfl,rfl⟩:=hcut;obtain ⟨⟨z0,z1,z2⟩,y0,y1,y2⟩:=zcL Yq.out
    cases bd
    case true =>
     have Yr:=yb (ZR.out (zgZ Qf.out));clear ZR ZS;go_wp2;refine yi (zaf rfl _ _ r 45 _ (0,0) _ rfl (by exact set3a Yq.out _ _ _) Tryz.underlying45 rfl (by exact zdB) _ _ rfl rfl) rfl ?_;rw [Yr.out];exact ⟨rfl,ze3 YZ.out Yj.out _ _ _⟩
    have Ys:=yb (ZS.out _ (entR_some Qf.out));rw [<-HA.out,<-Zi.out] at Ys;have HU:=yb (show (s.getD 17 0==110)=((x17:Int)==110) by rw [<-Qr.out];exact u8_beq _ 110 110 rfl);rw [HU.out] at Ys;clear ZR ZS HU HA Zi;go_wp2;refine yi (zaf rfl _ _ r 45 _ (0,0) _ rfl (by exact set3a Yq.out _ _ _) Tryz.underlying45 rfl (by exact zdB) _ _ rfl rfl) rfl ?_;rw [Ys.out];exact ⟨rfl,ze3 YZ.out Yj.out _ _ _⟩
structure EsM (w W:World) (g:Nat) (n:Int) (es:List Ent) (sv:Value):Prop where
 blk:W.heap[g]?=some (.cells #[.int .i64 n,sv] 58 (0,0))
 own:W.ownsRow w.heap.size 45 3 sv es.length (zcN es)
 kps:zak (fun b=>b=g) w W
 gne:g<w.heap.size
theorem EsM.ne {w W:World} {g:Nat} {n:Int} {es:List Ent} {sv:Value} (h:EsM w W g n es sv) {b:Nat} (hb:sv.ownBlock=some b):b≠g:=by
 have:=(h.own.lt b hb).1;have:=h.gne;omega
theorem EsM.on {w W W':World} {g:Nat} {n:Int} {es:List Ent} {sv:Value} (h:EsM w W g n es sv) (hk:zak (fun _=>False) W W'):EsM w W' g n es sv :=
 ⟨hk.obj h.blk (fun h=>h),zbd h.own fun b hb=>hk.block b (h.own.lt b hb).2 (fun h=>h),h.kps.trans hk (fun x hx=>(by cases hx)),h.gne⟩
theorem EsM.app {w W W8:World} {o:Obj} {g:Nat} {n:Int} {es:List Ent} {sv:Value} (h:EsM w W g n es sv) (hg8:(W.alloc o).grownBy W8 sv.ownBlock) {x:Ent} {v':Value} (hO:W8.ownsRow w.heap.size 45 3 v' (es.length+1) (zcN es++entC x)) :
  EsM w (W8.setCell ⟨g,1,none⟩ v') g n (es++[x]) v':=by
 have hG:W8.heap[g]?=some (.cells #[.int .i64 n,sv] 58 (0,0)) :=
  (hg8.block g (by rw [zaq];have:=zam h.blk;omega) (fun e=>h.ne e.symm rfl)).trans (zal _ h.blk)
 refine ⟨by rw [heap_setCell_same _ g 1 _ _ _ hG];rfl,?_,((h.kps.alloc o).grown hg8 (fun k hk=>.inr (h.own.lt k hk).1)).setCell (.inl rfl) _,h.gne⟩;have h2:zcN (es++[x])=zcN es++entC x:=by rw [zfd];simp [zcN]
 rw [h2,List.length_append];refine zbd hO fun b hb=>?_;obtain ⟨cs,hc⟩:=zaY hO hb;exact heap_setCell_other _ _ _ _ (zbj hc hG (by decide))
theorem EsM.below {w W W':World} {g:Nat} {n:Int} {es:List Ent} {sv:Value} (h:EsM w W g n es sv) (hb:Below W.heap.size W W'):EsM w W' g n es sv:=h.on (zaz hb)
theorem EsM.outer {w W:World} {o:Obj} {g:Nat} {n:Int} {es:List Ent} {sv:Value} (h:EsM (w.alloc o) W g n es sv) (hg:g=w.heap.size):Below w.heap.size w W :=
 (zak.trans (S:=fun _=>False) (zaz (zai w o)) h.kps (fun x hx=>.inr (by omega))).below (yp _) (fun b hb=>by cases hb)
theorem EsM.fin {w W:World} {g:Nat} {n:Int} {es:List Ent} {sv:Value} (h:EsM w W g n es sv):IsE W (fun b=>w.heap.size<=b) es sv:=isE_own h.own
structure PsM (w W0 W:World) (r p:Nat) (gs:List Grp) (cs:List Value) (v:Value):Prop where
 sb:W.heap[p]?=some (.cells #[v,.int .i64 0,.int .i64 0,.string ⟨#[]⟩,.slice none 0 0] 27 (0,0))
 rb:W.heap[r]?=some (.cells #[.slice none 0 0,.int .i64 0,.int .i64 0,.string ⟨#[]⟩,.slice none 0 0] 27 (0,0))
 gm:GsM W0 W p gs cs v
 bel:Below w.heap.size w W
 lt:w.heap.size<=r/\r<p/\p<W0.heap.size
theorem PsM.on {w W0 W W':World} {r p:Nat} {gs:List Grp} {cs:List Value} {v:Value} (h:PsM w W0 W r p gs cs v) (hb:Below W.heap.size W W'):PsM w W0 W' r p gs cs v :=
 ⟨zab hb h.sb,zab hb h.rb,h.gm.on h.lt.2.2 (zaz hb),h.bel.trans (hb.mono h.bel.size),h.lt⟩
theorem PsM.app {w W0 W W8:World} {r p:Nat} {o:Obj} {gs:List Grp} {cs:List Value} {v v':Value} (h:PsM w W0 W r p gs cs v) (hg8:(W.alloc o).grownBy W8 v.ownBlock) {n:Int} {es:List Ent} {sv:Value} (hG:GsM W0 W8 p (gs++[⟨n,es⟩]) (cs++[.int .i64 n,sv]) v') :
  PsM w W0 (W8.setCell ⟨p,0,none⟩ v') r p (gs++[⟨n,es⟩]) (cs++[.int .i64 n,sv]) v':=by
 have Y1:∀ {b},v.ownBlock=some b->b≠p/\b≠r:=fun {b} hb=>by
  have:=(h.gm.own.lt b hb).1;have:=h.lt;omega
 have hP:W8.heap[p]?=some (.cells #[v,.int .i64 0,.int .i64 0,.string ⟨#[]⟩,.slice none 0 0] 27 (0,0)) :=
  (hg8.block p (by rw [zaq];have:=zam h.sb;omega) (fun e=>(Y1 e.symm).1 rfl)).trans (zal _ h.sb)
 have hR:W8.heap[r]?=some (.cells #[.slice none 0 0,.int .i64 0,.int .i64 0,.string ⟨#[]⟩,.slice none 0 0] 27 (0,0)) :=
  (hg8.block r (by rw [zaq];have:=zam h.rb;omega) (fun e=>(Y1 e.symm).2 rfl)).trans (zal _ h.rb)
 refine ⟨by rw [heap_setCell_same _ p 0 _ _ _ hP];rfl,?_,hG.on h.lt.2.2 ((zak.refl (fun b=>b=p) W8).setCell (a:=⟨p,0,none⟩) (.inl rfl) _),?_,h.lt⟩
 ·rw [heap_setCell_other _ _ _ _ (show r≠p by have:=h.lt;omega)];exact hR
 ·have h1:Below w.heap.size w W8:=(h.bel.alloc h.bel.size o).grown hg8 (by have:=(h.bel.alloc h.bel.size o).size;omega) (fun b hb=>by have:=(h.gm.own.lt b hb).1;have:=h.lt;omega)
  have h2:w.heap.size<=(⟨p,0,none⟩:Addr).block:=by have:=h.lt;show w.heap.size<=p;omega
  exact h1.setCell h2 _
theorem zb8:(Tryz.prog.info? 27).map (·.size)=some 5:=by kernel_rfl
theorem PsM.atP {w W0 W W8:World} {r p:Nat} {o:Obj} {gs:List Grp} {cs:List Value} {v:Value} (h:PsM w W0 W r p gs cs v) (hg8:(W.alloc o).grownBy W8 v.ownBlock) :
  W8.heap[p]?=some (.cells #[v,.int .i64 0,.int .i64 0,.string ⟨#[]⟩,.slice none 0 0] 27 (0,0)) :=
 (hg8.block p (by rw [zaq];have:=zam h.sb;omega) (fun e=>by have:=(h.gm.own.lt p e.symm).1;have:=h.lt;omega)).trans (zal _ h.sb)
theorem PsM.ret {w W0 W:World} {r p:Nat} {gs:List Grp} {cs:List Value} {v:Value} (h:PsM w W0 W r p gs cs v) {V:Sec×Int×Int} {e:Int} (hV:V=(Sec.none,0,e)) (y0 y1 y2 y3 y4:Value) :
  zfF w V (.returned (.tuple #[.agg #[.slice none 0 0,.int .i64 0,.int .i64 0,.string ⟨#[]⟩,.slice none 0 0],.int .i64 0,.int .i64 e])) (((((W.setCell ⟨r,0,none⟩ y0).setCell ⟨r,1,none⟩ y1).setCell ⟨r,2,none⟩ y2).setCell ⟨r,3,none⟩ y3).setCell ⟨r,4,none⟩ y4) :=
 zha hV h.bel h.lt.1 y0 y1 y2 y3 y4
theorem EsM.atG {w W W8:World} {o:Obj} {g:Nat} {n:Int} {es:List Ent} {sv:Value} (h:EsM w W g n es sv) (hg8:(W.alloc o).grownBy W8 sv.ownBlock):W8.heap[g]?=some (.cells #[.int .i64 n,sv] 58 (0,0)) :=
 (hg8.block g (by rw [zaq];have:=zam h.blk;omega) (fun e=>h.ne e.symm rfl)).trans (zal _ h.blk)
theorem set4p {w:World} {b:Nat} {x0 x1 x2 x3 x4:Value} {t:TypeId} (h:w.heap[b]?=some (.cells #[x0,x1,x2,x3,x4] t (0,0))) (y1 y2 y3 y4:Value) :
  ((((w.setCell ⟨b,1,none⟩ y1).setCell ⟨b,2,none⟩ y2).setCell ⟨b,3,none⟩ y3).setCell ⟨b,4,none⟩ y4).heap[b]?=some (.cells #[x0,y1,y2,y3,y4] t (0,0)):=by
 rw [heap_setCell_same _ _ 4 _ _ _ (heap_setCell_same _ _ 3 _ _ _ (heap_setCell_same _ _ 2 _ _ _ (heap_setCell_same w _ 1 _ _ _ h)))];rfl
theorem zgA {w:World} {b c:Nat} (hc:c≠b) (y1 y2 y3 y4:Value):((((w.setCell ⟨b,1,none⟩ y1).setCell ⟨b,2,none⟩ y2).setCell ⟨b,3,none⟩ y3).setCell ⟨b,4,none⟩ y4).heap[c]?=w.heap[c]?:=by
 rw [heap_setCell_other _ _ _ _ hc,heap_setCell_other _ _ _ _ hc,heap_setCell_other _ _ _ _ hc,heap_setCell_other _ _ _ _ hc]
theorem set4p_size (w:World) (b:Nat) (y1 y2 y3 y4:Value):((((w.setCell ⟨b,1,none⟩ y1).setCell ⟨b,2,none⟩ y2).setCell ⟨b,3,none⟩ y3).setCell ⟨b,4,none⟩ y4).heap.size=w.heap.size:=by simp [World.setCell]
theorem below_set4p {B:Nat} {w0 w:World} (h:Below B w0 w) {b:Nat} (hb:B<=b) (y1 y2 y3 y4:Value):Below B w0 ((((w.setCell ⟨b,1,none⟩ y1).setCell ⟨b,2,none⟩ y2).setCell ⟨b,3,none⟩ y3).setCell ⟨b,4,none⟩ y4) :=
 (((h.setCell hb _).setCell hb _).setCell hb _).setCell hb _
def grpsR (bs:List UInt8) (yq:Bool) (g:Nat) (gs:List Grp) (x:Tk) (U:Tk×Int×Int×Int):List Grp×Int×Int :=
 if zaN x=false then ([],0,20) else if U.2.2.2≠0 then ([],0,U.2.2.2) else if zaN U.1=false\/gs.length=64\/zdn x.vn U.1.vn=false then ([],0,20)
 else if (zcq bs yq U.1.vn.toNat U.2.2.1.toNat []).2.2≠0 then ([],0,(zcq bs yq U.1.vn.toNat U.2.2.1.toNat []).2.2)
 else zb7 bs yq g (gs++[⟨x.vn,(zcq bs yq U.1.vn.toNat U.2.2.1.toNat []).1⟩]) ((zcq bs yq U.1.vn.toNat U.2.2.1.toNat []).2.1:Int)
theorem grps_all {bs:List UInt8} {yq:Bool} {g:Nat} {gs:List Grp} {k:Int} (he:(nxtV bs yq k).2.2.2=0) (ht:zdU (nxtV bs yq k).1=false) :
  zb7 bs yq (g+1) gs k=grpsR bs yq g gs (nxtV bs yq k).1 (nxtV bs yq (nxtV bs yq k).2.2.1):=by
 conv=>lhs;unfold zb7
 unfold grpsR;simp only;rw [yh (by rw [he];decide),yh (by rw [ht];decide)]
set_option maxHeartbeats 16000000 in
theorem dparse_any {w:World} {a:Option Addr} {cap:Nat} {bs:List UInt8} (hr:Row w 1 a bs.length cap (bs.map u8C)) (hn:bs.length<=390000) (k:Int) (yq:Bool) :
  Calls Tryz.prog 11 #[.slice a bs.length cap,.int .i64 k,.bool yq] w (zfF w (secV bs yq k)):=by
 have HW:=yb (fun (W:World) (h:Below w.heap.size w W)=>rword_any (hr.mono h) (by omega) k yq [120,114,101,102]);have Yt:=yb (fun h=>oneX_le (bs:=bs) (yq:=yq) (k:=k) (p:=zgE) h);obtain ⟨o1,o2⟩:=oneW_X zgE (zan bs k yq);unfold zdv at HW;rw [show zfS [120,114,101,102]=zgE from rfl,o1,o2] at HW;clear o1 o2;obtain ⟨V,hV⟩:∃V,V=secV bs yq k:=⟨_,rfl⟩;rw [<-hV];unfold secV at hV;simp only at hV;generalize oneX zgE (zan bs k yq)=O at *;obtain ⟨ot,oe⟩:=O;simp only at hV HW Yt;have HV:=yb hV;have ZU:=yb hr;clear hV hr;obtain ⟨r,hr⟩:∃r,r=w.heap.size:=⟨_,rfl⟩;have QO:=yb (zal (.cells #[.slice none 0 0,.int .i64 0,.int .i64 0,.string ⟨#[]⟩,.slice none 0 0] 27) (zac (w:=w) (b:=r) (.cells #[.slice none 0 0,.int .i64 0,.int .i64 0,.string ⟨#[]⟩,.slice none 0 0] 27) hr));have Zj:=yb (zac (w:=w.alloc (.cells #[.slice none 0 0,.int .i64 0,.int .i64 0,.string ⟨#[]⟩,.slice none 0 0] 27)) (b:=r+1) (.cells #[.slice none 0 0,.int .i64 0,.int .i64 0,.string ⟨#[]⟩,.slice none 0 0] 27) (by rw [zaq,hr]));have Qa:=yb (za6 w (.cells #[.slice none 0 0,.int .i64 0,.int .i64 0,.string ⟨#[]⟩,.slice none 0 0] 27) (.cells #[.slice none 0 0,.int .i64 0,.int .i64 0,.string ⟨#[]⟩,.slice none 0 0] 27));have Q2:=yb (Nat.le_of_eq hr.symm);go_enter Tryz.func11,Tryz.ntmps11
 go_upto_region 2 with fail
 try rw [<-hr]
 clear hr;generalize World.alloc _ _=W1 at *;have XF:=yb (show r<r+1 from Nat.lt_succ_self r);generalize r+1=p at *;go_wp2_with fail
 refine (HW.out _ Qa.out).mono ?_;rintro e w2 ⟨rfl,Ql⟩;have Qm:=yb (zab Ql QO.out);have Q3:=yb (zab Ql Zj.out);have Qb:=yo Qa Ql;clear QO Zj Qa HW Ql;obtain ⟨⟨z0,z1,z2,z3,z4⟩,y0,y1,y2,y3,y4⟩:=zaW Qm.out
 by_cases hoe:oe=0
 case neg =>
  have QC:=yb (HV.out.trans (yg hoe));have e0:(oe==0)=false:=by rw [yf];exact hoe
  have e1:(oe != 0)=true:=by simp only [bne,e0,yj]
  clear hoe;go_wp2;refine yi (zaf rfl _ _ r 27 _ (0,0) _ rfl (by exact set5 Qm.out _ _ _ _ _) Tryz.underlying27 rfl (by exact zb8) _ _ rfl rfl) rfl ?_;exact zha QC.out Qb.out Q2.out _ _ _ _ _
 subst hoe;have QC:=yb (HV.out.trans (yh (by simp)));obtain ⟨XG,XH⟩:=Yt.out rfl;obtain ⟨G,hG⟩:∃G,G=zb7 bs yq 65 [] ot:=⟨_,rfl⟩;rw [<-hG] at QC;have HG:=yb hG;have Zk:=yb (show PsM w w2 w2 r p [] [] (.slice none 0 0) from ⟨Q3.out,Qm.out,⟨World.ownsRow_nil _ _ _ _,rfl,zak.refl _ _⟩,Qb.out,Q2.out,XF.out,zam Q3.out⟩);clear hG HV Yt Qm Q3 Qb z0 z1 z2 z3 z4 y0 y1 y2 y3 y4;go_wp2_with fail
 go_loopw [1,11] (fun v c wr=>∃(gs:List Grp) (k2:Int) (cs:List Value) (gv:Value),v=.int .i64 k2/\c=.int .i64 gs.length/\gs.length<=64/\0<=k2/\k2<=bs.length/\Hid (PsM w w2 wr r p gs cs gv)/\Hid (G=zb7 bs yq (65-gs.length) gs k2)) (fun _ c _=>65-(intOf c).toNat)
 case atStart=>exact ⟨[],ot,[],.slice none 0 0,rfl,rfl,by simp,XG,XH,Zk,HG⟩
 case round =>
  obtain ⟨gs,k2,cs,gv,rfl,rfl,XI,hk0,YX,Zk,HQ⟩:=hrel;obtain ⟨sa,sc,rfl,-,-⟩:=zaB Zk.out.gm.own;have HN:=yb (dnext_any (ZU.out.mono Zk.out.bel) (by omega) k2 yq);have Yu:=zbr (bs:=bs) (k:=k2) yq hk0 YX;rw [<-nxt_3] at Yu;obtain ⟨m,hm⟩:∃m,m+1=65-gs.length:=⟨64-gs.length,by omega⟩;have hQ:=HQ.out;rw [<-hm] at hQ;have HM:=yb hm;have XJ:decide ((gs.length:Int)<=64)=true:=yd (by omega);have Y2:decide (gs.length<=64)=true:=yd XI;have Zt:=yb (fun he=>hQ.trans (zhK he));have QR:=yb (fun he ht=>hQ.trans (zeQ he ht));have Qy:=yb (fun he ht=>hQ.trans (grps_all he ht));have QD:=yb (fun (W:World) (hI:Below w.heap.size w W)=>dnext_any (ZU.out.mono hI) (by omega) (nxtV bs yq k2).2.2.1 yq);have ZV:=yb (trail_iff (nxtV bs yq k2).1);have ZW:=yb (fun W=>zgy (nxtV bs yq k2).1 (nxtV bs yq k2).2.1 (nxtV bs yq k2).2.2.1 W);have ZX:=yb (zcl (nxtV bs yq k2).1.s [116,114,97,105,108,101,114]);have Q4:=yb (fun (W:World) (h:Below w.heap.size w W)=>rvalue_any (ZU.out.mono h) (by omega) yq (nxtV bs yq k2).2.2.1);clear hm hQ HQ;generalize nxtV bs yq k2=U at *;obtain ⟨x,f,t,E⟩:=U;simp only at Yu HN Zt QR Qy QD ZV ZW ZX Q4;have Q5:=zbr (bs:=bs) (k:=t) yq (by omega) Yu.2;rw [<-nxt_3] at Q5;generalize nxtV bs yq t=U2 at *;obtain ⟨y,f2,t2,E2⟩:=U2;unfold grpsR at Qy;simp only at Qy QD Q5;have QS:=yb (fun W=>zgy y f2 t2 W);unfold NxtEnd tokN at HN QD;simp only at HN QD;unfold tokN at ZW QS;obtain ⟨tr,Y3⟩:∃tr,tr=decide (x.s=[116,114,97,105,108,101,114]):=⟨_,rfl⟩;rw [<-Y3] at ZV ZX;rw [ZV.out] at QR Qy;clear Y3 ZV;generalize zaN x=wx at *;generalize zaN y=wy at *;generalize x.kind=a0 at *;generalize x.vk=a1 at *;generalize x.vn=a2 at *;generalize mkB x.vs=s1 at *;generalize mkB x.s=s2 at *;generalize y.kind=b0 at *;generalize y.vk=b1 at *;generalize y.vn=b2 at *;generalize mkB y.vs=q1 at *;generalize mkB y.s=q2 at *;go_wp2_with fail
  refine HN.out.mono ?_;rintro e w3 ⟨rfl,Qw⟩;have Qn:=Qw.alloc Qw.size (.cells #[.int .i64 a0,.int .i64 f,.int .i64 t,.int .i64 a1,.int .i64 a2,.string s1,.slice none 0 0,.string s2] 81);have Zu:=yb (zac (w:=w3) (b:=w3.heap.size) (.cells #[.int .i64 a0,.int .i64 f,.int .i64 t,.int .i64 a1,.int .i64 a2,.string s1,.slice none 0 0,.string s2] 81) rfl);have QE:=yb (Zk.out.on Qn);clear Qw Qn HN Zk
  go_upto_region 9 with fail
  obtain ⟨T,hT⟩:∃T,T=w3.heap.size:=⟨_,rfl⟩;rw [<-hT] at Zu |-;clear hT;generalize World.alloc _ _=W3 at *;obtain ⟨⟨v0,v1,v2,v3,v4,v5,v6,v7⟩,-⟩:=zah Zu.out
  by_cases hE:E=0
  case neg =>
   have Qg:=Zt.out hE;have QF:=yb (show V=(Sec.none,0,E) from QC.out.trans (by rw [Qg];exact yg hE));have e0:(E==0)=false:=by rw [yf];exact hE
   have e1:(E != 0)=true:=by simp only [bne,e0,yj]
   obtain ⟨⟨z0,z1,z2,z3,z4⟩,y0,y1,y2,y3,y4⟩:=zaW QE.out.rb;clear hE Qg;go_wp2;refine yi (zaf rfl _ _ r 27 _ (0,0) _ rfl (by exact set5 QE.out.rb _ _ _ _ _) Tryz.underlying27 rfl (by exact zb8) _ _ rfl rfl) rfl ?_;exact QE.out.ret QF.out _ _ _ _ _
  subst hE;have XK:=ZX.out;obtain ⟨k6,Yv⟩:∃k6,k6=(a0==6):=⟨_,rfl⟩;rw [<-Yv] at QR Qy;have Yw:=yb Yv;obtain ⟨tb,Yx⟩:∃tb,tb=(k6&&tr):=⟨_,rfl⟩;rw [<-Yx] at QR Qy;have Yy:=yb Yx;clear Yx Yv
  go_upto_region 11 with fail
  go_cut [59] from 37 to 143 (fun v wx=>v=.bool tb/\wx=W3)
  case first =>
   clear QR Qy Zt QD Q4
   cases k6
   ·have e6:=Yw.out.symm
    obtain rfl:tb=false:=Yy.out;go_wp2_with fail
    go_meet
    exact ⟨rfl,rfl⟩
   ·have e6:=Yw.out.symm
    obtain rfl:tb=tr:=Yy.out;go_wp2_with fail
    go_meet
    exact ⟨rfl,rfl⟩
  case rest =>
  obtain ⟨rfl,hw⟩:=hcut;subst hw;clear XK ZX Yw Yy
  cases tb
  case true =>
   have Qg:=QR.out rfl rfl;have Zh:=yb (show V=if (zch bs yq t).2.2≠0 then (Sec.none,0,(zch bs yq t).2.2) else if (zch bs yq t).1.kind≠7 then (Sec.none,0,20) else (⟨gs,(zch bs yq t).1⟩,(zch bs yq t).2.1,0) from QC.out.trans (by rw [Qg];exact yh (fun h=>h rfl)));generalize zch bs yq t=P at *;obtain ⟨pv,xt,xe⟩:=P;unfold zca at Q4;simp only at Zh Q4;clear QR Qy Zt QD Qg;go_wp2_with fail
   refine (Q4.out _ QE.out.bel).mono ?_;rintro e w5 ⟨sl,rfl,Yz,Qq⟩;obtain ⟨la,lc,rfl,-,-,-⟩:=Yz.len;simp only [pvA];have Qp:=Qq.alloc Qq.size (.cells #[.int .i64 pv.kind,.int .i64 pv.n,.string (mkB pv.s),.slice la pv.l.length lc] 25);have QN:=yb (zac (w:=w5) (b:=w5.heap.size) (.cells #[.int .i64 pv.kind,.int .i64 pv.n,.string (mkB pv.s),.slice la pv.l.length lc] 25) rfl);have QG:=yb (Yz.below (zai w5 (.cells #[.int .i64 pv.kind,.int .i64 pv.n,.string (mkB pv.s),.slice la pv.l.length lc] 25)));have Qd:=yb (QE.out.on Qp);have XL:=yb (zam QE.out.sb);clear Qq Qp Yz Q4 QE Zu v0 v1 v2 v3 v4 v5 v6 v7
   go_upto_region 33 with fail
   generalize w5.heap.size=T5 at *;generalize World.alloc _ _=W5 at *;obtain ⟨⟨t0,t1,t2',t3⟩,-⟩:=zad QN.out;obtain ⟨⟨z0,z1,z2,z3,z4⟩,y0,y1,y2,y3,y4⟩:=zaW Qd.out.rb
   by_cases hxe:xe=0
   case neg =>
    have Zl:=yb (Zh.out.trans (yg hxe));have e0:(xe==0)=false:=by rw [yf];exact hxe
    have e1:(xe != 0)=true:=by simp only [bne,e0,yj]
    clear hxe QG;go_wp2;refine yi (zaf rfl _ _ r 27 _ (0,0) _ rfl (by exact set5 Qd.out.rb _ _ _ _ _) Tryz.underlying27 rfl (by exact zb8) _ _ rfl rfl) rfl ?_;exact Qd.out.ret Zl.out _ _ _ _ _
   subst hxe;have Zl:=yb (Zh.out.trans (yh (by simp)));clear Zh
   by_cases hxk:pv.kind=7
   case neg =>
    have QT:=yb (Zl.out.trans (yg hxk));have e0:(pv.kind==7)=false:=by rw [yf];exact hxk
    have e1:(pv.kind != 7)=true:=by simp only [bne,e0,yj]
    clear hxk QG Zl;generalize pv.kind=xk at *;go_wp2;refine yi (zaf rfl _ _ r 27 _ (0,0) _ rfl (by exact set5 Qd.out.rb _ _ _ _ _) Tryz.underlying27 rfl (by exact zb8) _ _ rfl rfl) rfl ?_;exact Qd.out.ret QT.out _ _ _ _ _
   have QT:=yb (Zl.out.trans (yh (fun h=>h hxk)));have e0:(pv.kind==7)=true:=by rw [beq_iff_eq];exact hxk
   have e1:(pv.kind != 7)=false:=by simp only [bne,e0,Bool.not_true]
   clear hxk Zl
   have Y4:=yb (show zcj W5 (fun b=>p<b) ⟨gs,pv⟩ (.slice sa gs.length sc) (.slice la pv.l.length lc) from
    ⟨Qd.out.gm.fin.keep (zaU.refl _ _) (fun b hb=>by have:=Qd.out.lt;show p<b;omega),QG.out.keep (zaU.refl _ _) (fun b hb=>by have:=XL.out;show p<b;omega)⟩)
   have XM:=yb (show secA ⟨gs,pv⟩ (.slice sa gs.length sc) (.slice la pv.l.length lc)=.agg #[.slice sa gs.length sc,.int .i64 pv.kind,.int .i64 pv.n,.string (mkB pv.s),.slice la pv.l.length lc] from rfl);generalize pv.kind=xk at *;generalize pv.n=xn at *;generalize mkB pv.s=xb at *;obtain ⟨⟨g0,g1,g2,g3,g4⟩,h0,h1,h2,h3,h4⟩:=zaW Qd.out.sb;have Zv:=yb (set4p Qd.out.sb (.int .i64 xk) (.int .i64 xn) (.string xb) (.slice la pv.l.length lc));have Y5:=yb ((zgA (w:=W5) (b:=p) (c:=r) (by have:=Qd.out.lt;omega) (.int .i64 xk) (.int .i64 xn) (.string xb) (.slice la pv.l.length lc)).trans Qd.out.rb);have QH:=yb (below_set4p Qd.out.bel (b:=p) (by have:=Qd.out.lt;omega) (.int .i64 xk) (.int .i64 xn) (.string xb) (.slice la pv.l.length lc))
   have XN:=yb (show zcj ((((W5.setCell ⟨p,1,none⟩ (.int .i64 xk)).setCell ⟨p,2,none⟩ (.int .i64 xn)).setCell ⟨p,3,none⟩ (.string xb)).setCell ⟨p,4,none⟩ (.slice la pv.l.length lc)) (fun b=>p<b) ⟨gs,pv⟩ (.slice sa gs.length sc) (.slice la pv.l.length lc) from
    Y4.out.keep ⟨Nat.le_of_eq (set4p_size _ _ _ _ _ _).symm,fun b hb hF=>zgA (by omega) _ _ _ _⟩ (fun _ h=>h))
   have YA:=yb Qd.out.lt;clear QG Y4 Qd z0 z1 z2 z3 z4 y0 y1 y2 y3 y4
   go_upto_region 38 with fail
   generalize World.setCell (World.setCell (World.setCell (World.setCell W5 _ _) _ _) _ _) _ _=W6 at *;clear g0 g1 g2 g3 g4 h0 h1 h2 h3 h4 t0 t1 t2' t3 QN;obtain ⟨⟨g0,g1,g2,g3,g4⟩,-⟩:=zaW Zv.out;obtain ⟨⟨z0,z1,z2,z3,z4⟩,y0,y1,y2,y3,y4⟩:=zaW Y5.out;go_wp2;refine yi (zaf rfl _ _ r 27 _ (0,0) _ rfl (by exact set5 Y5.out _ _ _ _ _) Tryz.underlying27 rfl (by exact zb8) _ _ rfl rfl) rfl ?_;rw [QT.out];refine ⟨.slice sa gs.length sc,.slice la pv.l.length lc,by rw [XM.out];rfl,?_,zc1 QH.out YA.out.1 _ _ _ _ _⟩;refine (sec_set5 (B:=r+1) (XN.out.keep (zaU.refl _ _) (fun b hb=>by have:=YA.out;show r+1<=b;omega)) (Nat.lt_succ_self r) _ _ _ _ _).keep (zaU.refl _ _) (fun b hb=>by have:=YA.out;show w.heap.size<=b;omega)
  have QI:=yb (Qy.out rfl rfl);clear QR Qy Zt Q4;go_wp2_with fail
  refine (ZW.out _).mono ?_;rintro e w4 ⟨rfl,QQ⟩;have QJ:=yb (QE.out.on QQ);have Ze:=yb (zab QQ Zu.out);clear QQ QE Zu ZW v0 v1 v2 v3 v4 v5 v6 v7;obtain ⟨⟨v0,v1,v2,v3,v4,v5,v6,v7⟩,-⟩:=zah Ze.out
  cases wx
  case false =>
   have Qg:=QI.out.trans (yg rfl);have QF:=yb (show V=(Sec.none,0,20) from QC.out.trans (by rw [Qg];exact yg (by decide)));obtain ⟨⟨z0,z1,z2,z3,z4⟩,y0,y1,y2,y3,y4⟩:=zaW QJ.out.rb;clear Qg QI QD;go_wp2;refine yi (zaf rfl _ _ r 27 _ (0,0) _ rfl (by exact set5 QJ.out.rb _ _ _ _ _) Tryz.underlying27 rfl (by exact zb8) _ _ rfl rfl) rfl ?_;exact QJ.out.ret QF.out _ _ _ _ _
  have ZY:=yb (QI.out.trans (yh (by decide)));have Zw:=yb (QD.out _ QJ.out.bel);clear QI QD;go_wp2_with fail
  refine Zw.out.mono ?_;rintro e w5 ⟨rfl,Qq⟩;have Qp:=Qq.alloc Qq.size (.cells #[.int .i64 b0,.int .i64 f2,.int .i64 t2,.int .i64 b1,.int .i64 b2,.string q1,.slice none 0 0,.string q2] 81);have ZZ:=yb (zac (w:=w5) (b:=w5.heap.size) (.cells #[.int .i64 b0,.int .i64 f2,.int .i64 t2,.int .i64 b1,.int .i64 b2,.string q1,.slice none 0 0,.string q2] 81) rfl);have QN:=yb (zab Qp Ze.out);have Qd:=yb (QJ.out.on Qp);clear Qq Qp Zw QJ Ze v0 v1 v2 v3 v4 v5 v6 v7
  go_upto_region 16 with fail
  obtain ⟨Y,hY⟩:∃Y,Y=w5.heap.size:=⟨_,rfl⟩;rw [<-hY] at ZZ |-;clear hY;generalize World.alloc _ _=W5 at *;obtain ⟨⟨v0,v1,v2,v3,v4,v5,v6,v7⟩,-⟩:=zah QN.out;obtain ⟨⟨u0,u1,u2,u3,u4,u5,u6,u7⟩,-⟩:=zah ZZ.out
  by_cases hE2:E2=0
  case neg =>
   have Qg:=ZY.out.trans (yg hE2);have QF:=yb (show V=(Sec.none,0,E2) from QC.out.trans (by rw [Qg];exact yg hE2));have e0:(E2==0)=false:=by rw [yf];exact hE2
   have e1:(E2 != 0)=true:=by simp only [bne,e0,yj]
   obtain ⟨⟨z0,z1,z2,z3,z4⟩,y0,y1,y2,y3,y4⟩:=zaW Qd.out.rb;clear hE2 Qg ZY;go_wp2;refine yi (zaf rfl _ _ r 27 _ (0,0) _ rfl (by exact set5 Qd.out.rb _ _ _ _ _) Tryz.underlying27 rfl (by exact zb8) _ _ rfl rfl) rfl ?_;exact Qd.out.ret QF.out _ _ _ _ _
  subst hE2;have Zx:=yb (ZY.out.trans (yh (fun h=>h rfl)));clear ZY;go_wp2
  go_quiet (fail)
  have Y6:=yb (Qd.out.on (zag (Below.refl _ _) nq));have XO:=yb (zab (zag (Below.refl _ _) nq) QN.out);have YB:=yb (zab (zag (Below.refl _ _) nq) ZZ.out);generalize W5.drewN nq=W6 at *;clear Qd QN ZZ v0 v1 v2 v3 v4 v5 v6 v7 u0 u1 u2 u3 u4 u5 u6 u7;obtain ⟨⟨u0,u1,u2,u3,u4,u5,u6,u7⟩,-⟩:=zah YB.out;obtain ⟨bad,Zy⟩:∃bad:Bool,bad=(!wy||(decide (gs.length=64)||(decide (a2<0)||(decide (b2<0)||(decide (4097<a2)||decide (4097-a2<b2)))))):=⟨_,rfl⟩;have Qf:=yb Zy;clear Zy
  go_upto_region 19 with fail
  go_cut [108] from 37 to 143 (fun v wx=>v=.bool bad/\Hid (Below W6.heap.size W6 wx))
  case first =>
   clear Zx
   cases wy
   ·obtain rfl:bad=true:=Qf.out
    go_wp2_with (go_at_call 33;refine (QS.out _).mono ?_;rintro e w7 ⟨rfl,Qi⟩;have Qh:=yb Qi;clear Qi)
    go_meet
    exact ⟨rfl,Qh⟩
   by_cases h64:gs.length=64
   ·have YC:((gs.length:Int)==64)=true:=by rw [beq_iff_eq];omega
    have Zz:(gs.length==64)=true:=by rw [beq_iff_eq];exact h64
    obtain rfl:bad=true:=by rw [Qf.out,yd h64];rfl
    clear h64;go_wp2_with (go_at_call 33;refine (QS.out _).mono ?_;rintro e w7 ⟨rfl,Qi⟩;have Qh:=yb Qi;clear Qi)
    go_meet
    exact ⟨rfl,Qh⟩
   have YC:((gs.length:Int)==64)=false:=by rw [yf];omega
   have Zz:(gs.length==64)=false:=by rw [yf];exact h64
   by_cases c1:a2<0
   ·have d1:decide (a2<0)=true:=yd c1
    obtain rfl:bad=true:=by rw [Qf.out,ye h64,d1];rfl
    go_wp2_with (go_at_call 33;refine (QS.out _).mono ?_;rintro e w7 ⟨rfl,Qi⟩;have Qh:=yb Qi;clear Qi)
    go_meet
    exact ⟨rfl,Qh⟩
   have d1:decide (a2<0)=false:=ye c1
   by_cases c2:b2<0
   ·have d2:decide (b2<0)=true:=yd c2
    obtain rfl:bad=true:=by rw [Qf.out,ye h64,d1,d2];rfl
    go_wp2_with (go_at_call 33;refine (QS.out _).mono ?_;rintro e w7 ⟨rfl,Qi⟩;have Qh:=yb Qi;clear Qi)
    go_meet
    exact ⟨rfl,Qh⟩
   have d2:decide (b2<0)=false:=ye c2
   by_cases c3:4097<a2
   ·have d3:decide (4097<a2)=true:=yd c3
    obtain rfl:bad=true:=by rw [Qf.out,ye h64,d1,d2,d3];rfl
    go_wp2_with (go_at_call 33;refine (QS.out _).mono ?_;rintro e w7 ⟨rfl,Qi⟩;have Qh:=yb Qi;clear Qi)
    go_meet
    exact ⟨rfl,Qh⟩
   have d3:decide (4097<a2)=false:=ye c3;have a20:0<=a2:=by omega
   have a21:a2<=4097:=by omega
   obtain ⟨b4,QQ⟩:∃b4,decide (4097-a2<b2)=b4:=⟨_,rfl⟩;obtain rfl:bad=b4:=by rw [Qf.out,ye h64,d1,d2,d3,QQ];rfl
   clear h64 c1 c2 c3;go_wp2_with (go_at_call 33;refine (QS.out _).mono ?_;rintro e w7 ⟨rfl,Qi⟩;have Qh:=yb Qi;clear Qi)
   go_meet
   exact ⟨rfl,Qh⟩
  case rest =>
  obtain ⟨rfl,Qh⟩:=hcut;have Q6:=yb (Y6.out.on Qh.out);have YD:=yb (zab Qh.out YB.out);generalize wc=W7 at *;clear Y6 XO YB Qh QS u0 u1 u2 u3 u4 u5 u6 u7;obtain ⟨⟨u0,u1,u2,u3,u4,u5,u6,u7⟩,-⟩:=zah YD.out
  have Z0:=yb (show bad=true↔(wy=false\/gs.length=64\/zdn a2 b2=false) by
   rw [Qf.out];unfold zdn;simp only [Bool.or_eq_true,Bool.not_eq_true',decide_eq_true_eq,Bool.and_eq_false_iff,decide_eq_false_iff_not];refine or_congr Iff.rfl (or_congr Iff.rfl ?_);omega)
  clear Qf
  cases bad
  case true =>
   have Qg:=Zx.out.trans (yg (Z0.out.1 rfl));have QF:=yb (show V=(Sec.none,0,20) from QC.out.trans (by rw [Qg];exact yg (by decide)));obtain ⟨⟨z0,z1,z2,z3,z4⟩,y0,y1,y2,y3,y4⟩:=zaW Q6.out.rb;clear Qg Zx Z0;go_wp2;refine yi (zaf rfl _ _ r 27 _ (0,0) _ rfl (by exact set5 Q6.out.rb _ _ _ _ _) Tryz.underlying27 rfl (by exact zb8) _ _ rfl rfl) rfl ?_;exact Q6.out.ret QF.out _ _ _ _ _
  have Z1:¬(wy=false\/gs.length=64\/zdn a2 b2=false):=fun h=>by have:=Z0.out.2 h;cases this
  have Zm:=yb (Zx.out.trans (yh Z1))
  have Q7:zdn a2 b2=true:=by
   cases h:zdn a2 b2 with
   | true=>rfl
   | false=>exact absurd (.inr (.inr h)) Z1
  have h64:gs.length<=63:=by
   have:gs.length≠64:=fun h=>Z1 (.inr (.inl h));omega
  have Y7:0<=b2/\b2<=4097/\0<=a2/\a2<=4097:=by
   unfold zdn at Q7;simp only [Bool.and_eq_true,decide_eq_true_eq] at Q7;omega
  obtain ⟨N,hN⟩:∃N:Nat,b2=(N:Int):=⟨b2.toNat,by omega⟩;subst hN;have Vj:N<=4097:=by omega
  rw [show ((N:Int)).toNat=N from rfl] at Zm;obtain ⟨T2,XP⟩:∃T2:Nat,t2=(T2:Int):=⟨t2.toNat,by omega⟩;subst XP;rw [show ((T2:Int)).toNat=T2 from rfl] at Zm;have YE:T2<=bs.length:=by omega
  obtain ⟨Q,hQ⟩:∃Q,Q=zcq bs yq N T2 []:=⟨_,rfl⟩;rw [<-hQ] at Zm;have HQ:=yb hQ;have Vk:=yb Y7;clear hQ Z1 Q7 Y7 Zx Z0 Q5;have XQ:=yb (zal (.cells #[.int .i64 a2,.slice none 0 0] 58) YD.out)
  have XR:=yb (show EsM (W7.alloc (.cells #[.int .i64 a2,.slice none 0 0] 58)) (W7.alloc (.cells #[.int .i64 a2,.slice none 0 0] 58)) W7.heap.size a2 [] (.slice none 0 0) from
   ⟨zac _ rfl,World.ownsRow_nil _ _ _ _,zak.refl _ _,by rw [zaq];omega⟩)
  have Z2:=yb (fun (W:World) (es:List Ent) (sv:Value) (h:EsM (W7.alloc (.cells #[.int .i64 a2,.slice none 0 0] 58)) W W7.heap.size a2 es sv)=>Q6.out.on (h.outer rfl));have Yr:=yb (show ∀b,Value.ownBlock (.slice sa gs.length sc)=some b->b<(W7.alloc (.cells #[.int .i64 a2,.slice none 0 0] 58)).heap.size from fun b hb=>by have:=(Q6.out.gm.own.lt b hb).2;rw [zaq];omega);have XS:=yb (show w2.heap.size<=(W7.alloc (.cells #[.int .i64 a2,.slice none 0 0] 58)).heap.size by have:=Q6.out.gm.kps.size;rw [zaq];omega)
  go_upto_region 23 with fail
  generalize W7.heap.size=g at *;generalize World.alloc _ _=W8 at *;clear Q6 YD XQ u0 u1 u2 u3 u4 u5 u6 u7;go_wp2_with fail
  go_loopw [1,19] (fun v1 v wr=>∃(c k3:Nat) (es:List Ent) (sv:Value),v1=.int .i64 k3/\v=.int .i64 c/\c<=N/\k3<=bs.length/\Hid (es.length=c)/\Hid (EsM W8 wr g a2 es sv)/\Hid (Q=zcq bs yq (N-c) k3 es)) (fun _ v _=>N-(intOf v).toNat)
  case atStart=>exact ⟨0,T2,[],.slice none 0 0,rfl,rfl,by omega,YE,yb rfl,XR,HQ⟩
  case round =>
   obtain ⟨c,k3,es,sv,rfl,rfl,Vl,Y8,YF,QK,Z3⟩:=hrel
   by_cases hlt:c<N
   ·have XT:decide ((c:Int)<(N:Int))=true:=by simp;omega
    have YG:decide (c<N)=true:=by simp;omega
    have Z4:=yb (dentry_any (ZU.out.mono (Z2.out _ _ _ QK.out).bel) (by omega) Y8 yq);obtain ⟨m2,YH⟩:∃m2,m2+1=N-c:=⟨N-c-1,by omega⟩;have XU:=yb YH;have Z5:=Z3.out;rw [<-YH,zcq] at Z5;have Z6:(entV bs yq k3).2.2=0->(entV bs yq k3).2.1<=bs.length:=fun h=>entV_le Y8 h;generalize entV bs yq k3=Z at *;obtain ⟨ee,kk,er⟩:=Z;simp only at Z5 Z6;have Z7:=yb Z5;unfold DEntEnd entA at Z4;simp only at Z4;have XV:=yb (show entC ee=[.int .i64 ee.at_,.int .i64 ee.gen,.bool ee.used] from rfl);generalize ee.at_=ea at *;generalize ee.gen=eg at *;generalize ee.used=eu at *;clear YH Z5 Z3;go_wp2_with fail
    refine Z4.out.mono ?_;rintro e w6 ⟨rfl,Zp⟩;have ZA:=Zp.alloc Zp.size (.cells #[.int .i64 ea,.int .i64 eg,.bool eu] 45);have Y9:=yb (zac (w:=w6) (b:=w6.heap.size) (.cells #[.int .i64 ea,.int .i64 eg,.bool eu] 45) rfl);have Q8:=yb (QK.out.below ZA);clear Zp ZA Z4 QK
    go_upto_region 27 with fail
    obtain ⟨z,hz⟩:∃z,z=w6.heap.size:=⟨_,rfl⟩;rw [<-hz] at Y9 |-;clear hz;generalize w6.alloc _=W9 at *;obtain ⟨⟨l0,l1,l2⟩,-⟩:=zcL Y9.out;obtain ⟨⟨g0,g1⟩,gf0,gf1⟩:=zbL Q8.out.blk
    by_cases her:er=0
    case neg =>
     have e0:(er==0)=false:=by rw [yf];exact her
     have e1:(er != 0)=true:=by simp only [bne,e0,yj]
     have ZB:Q=([],0,er):=Z7.out.trans (yg her);have Qg:G=([],0,er):=Zm.out.trans (by rw [ZB];exact yg her);have QF:=yb (show V=(Sec.none,0,er) from QC.out.trans (by rw [Qg];exact yg her));have YI:=yb (Z2.out _ _ _ Q8.out);obtain ⟨⟨z0,z1,z2,z3,z4⟩,y0,y1,y2,y3,y4⟩:=zaW YI.out.rb;clear her ZB Qg Z7 Z6;go_wp2;refine yi (zaf rfl _ _ r 27 _ (0,0) _ rfl (by exact set5 YI.out.rb _ _ _ _ _) Tryz.underlying27 rfl (by exact zb8) _ _ rfl rfl) rfl ?_;exact YI.out.ret QF.out _ _ _ _ _
    subst her;obtain ⟨va,vc,rfl,-,-⟩:=zaB Q8.out.own;have hL:es.length<=4097:=by have:=YF.out;omega
    have Qs:∀u∈[Value.int .i64 ea,.int .i64 eg,.bool eu],u.oneCell'=true:=by
     intro u hu;simp at hu;rcases hu with rfl|rfl|rfl<;>rfl
    have Q9:=yb Qs;have XW:=yb (Z7.out.trans (yh (by decide)));have XX:=yb (Z6 rfl);clear Qs Z7 Z6;go_wp2_with (at_builtin;go_loud (refine zdI EEnt rfl (.tmp 132) (.tmp 134) rfl W8.heap.size _ es.length _ rfl (Q8.out.own.alloc _) _ 1 _ rfl (zfC _ #[.int .i64 ea,.int .i64 eg,.bool eu] _ 3 rfl rfl) Q9.out (by unfold maxLen;omega) (by omega) (by rw [zaq];have:=Q8.out.kps.size;omega) ?_);intro v' w8 hO8 hg8 hn8;obtain ⟨ua,uc,rfl,-,-⟩:=zaB hO8;have XY:=yb (Q8.out.app hg8 (by rw [XV.out];exact hO8));obtain ⟨⟨q0,q1'⟩,qf0,qf1⟩:=zbL (Q8.out.atG hg8);clear hO8 hg8 hn8)
    go_roundw
    case rel=>exact ⟨c+1,kk,es++[ee],_,rfl,by go_num,by omega,XX.out,yb (by rw [List.length_append,YF.out];rfl),XY,yb (by rw [XW.out,show N-(c+1)=m2 by have:=XU.out;omega])⟩
    case measure=>simp [intOf];omega
   ·have XZ:c=N:=by omega
    subst XZ;have XT:decide ((c:Int)<(c:Int))=false:=ye (by omega);have YG:decide (c<c)=false:=ye (by omega);have ZB:Q=(es,k3,0):=Z3.out.trans (show zcq bs yq (c-c) k3 es=(es,k3,0) by rw [Nat.sub_self];rfl);have Qg:=yb (show G=zb7 bs yq m (gs++[⟨a2,es⟩]) (k3:Int) from Zm.out.trans (by rw [ZB];exact yh (fun h=>h rfl)));have Zn:=yb (Z2.out _ _ _ QK.out);have X0:=yb QK.out.fin;obtain ⟨va,vc,rfl,-,-⟩:=zaB QK.out.own;obtain ⟨⟨g0,g1⟩,gf0,gf1⟩:=zbL QK.out.blk;obtain ⟨⟨p0,p1,p2,p3,p4⟩,pf0,pf1,pf2,pf3,pf4⟩:=zaW Zn.out.sb;have Zo:=yb (show W8.heap.size<=wr.heap.size from QK.out.kps.size)
    have Qs:∀u∈[Value.int .i64 a2,.slice va es.length vc],u.oneCell'=true:=by
     intro u hu;simp at hu;rcases hu with rfl|rfl<;>rfl
    have Q9:=yb Qs;clear Qs ZB Z3 Zm QK Z2 YF;go_wp2_with (at_builtin;go_loud (refine zdI EGrp rfl (.tmp 139) (.tmp 141) rfl w2.heap.size _ gs.length _ rfl (Zn.out.gm.own.alloc _) _ 1 _ rfl (zfC _ #[.int .i64 a2,.slice va es.length vc] _ 2 rfl rfl) Q9.out (by unfold maxLen;omega) (by omega) (by rw [zaq];have:=Zn.out.gm.kps.size;omega) ?_);intro v' w8 hO8 hg8 hn8;obtain ⟨ua,uc,rfl,-,-⟩:=zaB hO8;have X1:=yb (Zn.out.app hg8 (Zn.out.gm.app hg8 X0.out XS.out Yr.out Zo.out hO8 hn8));obtain ⟨⟨q0,q1',q2',q3',q4'⟩,qf0,qf1,qf2,qf3,qf4⟩:=zaW (Zn.out.atP hg8);clear hO8 hg8 hn8)
    go_roundw
    case rel=>exact ⟨gs++[⟨a2,es⟩],(k3:Int),_,_,rfl,by rw [List.length_append];go_num,by rw [List.length_append];simp;omega,by omega,by omega,X1,yb (by rw [Qg.out,List.length_append,show 65-(gs.length+[(⟨a2,es⟩:Grp)].length)=m by have:=HM.out;simp;omega])⟩
    case measure=>simp [intOf];omega
theorem own_none0 {w:World} {base:Nat} (hb:base<=w.heap.size):(w.alloc (.cells #[] 5)).ownsRow base 5 1 (.slice (some ⟨w.heap.size,0,none⟩) 0 0) 0 [] :=
 ⟨rfl,.inr ⟨w.heap.size,0,#[],rfl,hb,zac _ rfl,yp _,Nat.zero_le _,rfl,rfl⟩⟩
theorem u8WC:u8W=u8C:=rfl
set_option maxHeartbeats 16000000 in
theorem law_xback {w:World} {s:Sec} {gv sl:Value} (h:zcj w anyF s gv sl) (ht:txM 140737488355328 s.tr) {a:Option Addr} {cap:Nat} {bs:List UInt8} (hr:Row w 1 a bs.length cap (bs.map u8C)) :
  Calls Tryz.prog 3 #[secA s gv sl,.slice a bs.length cap] w (PlEndX w):=by
 have HW:=yb (fun W=>works15 W);have hi:=hr.i64;have Q2:=yb hr;have ZC:=yb h;have YJ:=yb (fun (W:World) (hb:Below w.heap.size w W)=>rfew15x (h.below hb) ht);have Z8:=yb (fun (ho:FewX s) (W:World) (hb:Below w.heap.size w W)=>xprint_any (h.below hb) (depth_few ho.2.1) (zfP ho));have Z9:=yb (fun (ho:FewX s) (W:World) (hb:Below w.heap.size w W)=>rcheck15_any (h.below hb) (txM_le (by decide) _ ht) (depth_few ho.2.1));have YK:=yb (fun (ho:FewX s) (hc:zbR s=0)=>show (secL s).length<=150000 from secL_len hc (zfP ho hc).1 (zfP ho hc).2);have QP:=yb (fun (hc:zbR s=0) (yq:Bool)=>sec_back hc yq bs);have Ya:=yb (fun (ga sa:Option Addr) (gl gc sl sc:Nat) (k n:Int) (b:ByteArray) (W:World)=>to15_any ga sa gl gc sl sc k n b W);have ZD:=yb (fun (ga sa:Option Addr) (gl gc sl sc:Nat) (k n:Int) (b:ByteArray) (W:World)=>of15_any (.slice ga gl gc) (.slice sa sl sc) k n b ga sa gl gc sl sc W rfl rfl);have Za:=yb (fun (W:World) (g1 s1 g2 s2:Value) (h1:zcj W anyF s g1 s1) (h2:zcj W anyF s g2 s2)=>dsame_eq h1 h2);obtain ⟨ga,gc,rfl,-,-,-⟩:=h.1.len;obtain ⟨sa,sc,rfl,-,-,-⟩:=h.2.len;unfold secA at YJ Z8 Z9 Za |-;clear h ht hr;obtain ⟨B,hB⟩:∃B,B=w.heap.size:=⟨_,rfl⟩;have Qa:=yb (zai w (.cells #[.slice ga s.gs.length gc,.int .i64 s.tr.kind,.int .i64 s.tr.n,.string (mkB s.tr.s),.slice sa s.tr.l.length sc] 27));have Qj:=yb (zac (w:=w) (b:=B) (.cells #[.slice ga s.gs.length gc,.int .i64 s.tr.kind,.int .i64 s.tr.n,.string (mkB s.tr.s),.slice sa s.tr.l.length sc] 27) hB);go_enter Tryz.func3,Tryz.ntmps3
 go_upto_region 1 with fail
 try rw [<-hB]
 generalize World.alloc _ _=W1 at *;clear hB;obtain ⟨⟨x0,x1,x2,x3,x4⟩,-⟩:=zaW Qj.out;have Xa:=yb (YJ.out W1 Qa.out);go_wp2_with fail
 refine Xa.out.mono ?_;rintro e w2 ⟨⟨b1,rfl,Qz⟩,hb⟩;have Qb:=yo Qa hb;have QU:=yb (zab hb Qj.out);have Zb:=yb Qz;clear hb Qz Xa YJ Qj Qa x0 x1 x2 x3 x4
 cases b1
 ·clear Z8 Z9 Ya Zb QU YK QP ZD Za ZC
  go_wp2_with (go_at_call 6;refine (HW.out _).mono ?_;rintro e w' ⟨rfl,hb⟩)
  go_ret;exact ⟨rfl,Qb.out.trans (hb.mono Qb.out.size)⟩
 have Zc:=yb (Z8.out (Zb.out rfl));have QL:=yb (Z9.out (Zb.out rfl));have Yb:=yb (YK.out (Zb.out rfl));clear Z8 Z9 YK Zb
 by_cases hbn:300<bs.length
 ·have d1:decide (300<bs.length)=true:=yd hbn
  have d2:decide ((300:Int)<bs.length)=true:=yd (by omega);clear Zc QL Ya QU Yb QP ZD Za ZC Q2;go_wp2_with (go_at_call 6;refine (HW.out _).mono ?_;rintro e w' ⟨rfl,hb⟩)
  go_ret;exact ⟨rfl,Qb.out.trans (hb.mono Qb.out.size)⟩
 have d1:decide (300<bs.length)=false:=ye hbn;have d2:decide ((300:Int)<bs.length)=false:=ye (by omega);obtain ⟨⟨x0,x1,x2,x3,x4⟩,-⟩:=zaW QU.out;go_wp2_with fail
 refine (Ya.out ga sa s.gs.length gc s.tr.l.length sc s.tr.kind s.tr.n (mkB s.tr.s) _).mono ?_;rintro e w4 ⟨rfl,hb⟩;have Qx:=yo Qb hb;have Xb:=yb (zab hb QU.out);have QJ:=yb (Zc.out w4 Qx.out);clear hb QU Qb Zc Ya x0 x1 x2 x3 x4;go_wp2_with fail
 refine QJ.out.mono ?_;rintro e w5 ⟨v5,rfl,YL,hb⟩;have QB:=yo Qx hb;have QG:=yb (zab hb Xb.out);have QT:=yb (zbh YL (Below.refl _ w5));obtain ⟨va,vc,rfl,-,-⟩:=zaB YL;clear hb YL Xb Qx QJ
 by_cases hck:zbR s=0
 case neg =>
  have ZE:prB s=[]:=by unfold prB;rw [yh hck]
  rw [ZE,List.length_nil];obtain ⟨⟨x0,x1,x2,x3,x4⟩,-⟩:=zaW QG.out;have X2:=yb (QL.out w5 QB.out);clear Yb QP ZD Za ZC QT Q2 ZE QL;generalize zbR s=ck at *;have e1:(ck==0)=false:=by rw [yf];exact hck
  have e2:(ck != 0)=true:=by simp only [bne,e1,yj]
  generalize s.gs.length=gl at *;generalize s.tr.kind=xk at *;generalize s.tr.n=xn at *;generalize mkB s.tr.s=xb at *;generalize s.tr.l.length=xl at *;clear hck;go_wp2_with fail
  refine X2.out.mono ?_;rintro e w6 ⟨rfl,hb⟩;have QH:=yo QB hb;clear hb;go_wp2_with (go_at_call 6;refine (HW.out _).mono ?_;rintro e w' ⟨rfl,hb⟩)
  go_ret;exact ⟨rfl,QH.out.trans (hb.mono QH.out.size)⟩
 have ZE:prB s=secL s:=by unfold prB;rw [yg hck]
 rw [hck];rw [ZE] at QT |-;have Qt:=yb (QP.out hck);have Xc:=Yb.out hck;have X3:1<=(secL s).length:=by unfold secL;simp
 clear hck ZE QP Yb QL;have Xd:=yb (Row.of_own QT.out).2;generalize hL:secL s=L at *;obtain ⟨AB,ZF⟩:∃AB,AB=L++bs:=⟨_,rfl⟩;rw [<-ZF] at Qt;have HU:=yb (show ([]:List Value)++L.map u8W++bs.map u8C=AB.map u8C by rw [ZF,List.nil_append,u8WC,List.map_append]);have HN:=yb (show 0+L.length+bs.length=AB.length by rw [ZF,List.length_append];omega);have Xe:AB.length<=390000:=by rw [ZF,List.length_append];omega
 obtain ⟨q,hq⟩:∃q:Int,q=(L.length:Int)-1:=⟨_,rfl⟩;rw [<-hq] at Qt;have hw:IntKind.i64.wrap ((L.length:Int)-1)=q:=by rw [hq];exact IntWalk.i64_in _ (by omega)
 have Vm:(q==q)=true:=by simp
 have Yc:=yb (own_none0 (w:=w5) (base:=w5.heap.size) (yp _));have YM:=yb (QB.out.alloc QB.out.size (.cells #[] 5));have Xf:=yb (Xd.out.mono (zai w5 (.cells #[] 5)));have Xg:=yb (zal (.cells #[] 5) QG.out);have Zo:=yb (zaq w5 (.cells #[] 5));have YN:=yb (fun (l:List UInt8) (u:Value) (hu:u∈l.map u8W)=>show u.oneCell'=true by obtain ⟨x,_,rfl⟩:=List.mem_map.1 hu;rfl);have ZG:=yb (show B<w5.heap.size from zam QG.out);have ZH:=yb (show L.length<=150000 from Xc);have YO:=yb (show bs.length<=300 by omega);clear hL ZF hq Xc X3 QT Xd hbn
 go_upto_region 6 with fail
 go_wp2_with (first
  |(at_builtin;(refine zcY EByteP rfl (.tmp 42) (.tmp 43) rfl w5.heap.size _ 0 [] rfl Yc.out va L.length vc (L.map u8W) rfl Xf.out (YN.out L) (by unfold maxLen;have:=ZH.out;omega) (by have:=ZH.out;omega) (by rw [Zo.out];omega) ?_);intro v6 w6 hO6 Yd _;have Ye:=yb hO6;have QH:=yb (YM.out.grown Yd (by have:=YM.out.size;omega) (fun b hb=>by have:=(Yc.out.lt b hb).1;have:=QB.out.size;omega));have Xh:=yb ((Yd.block B (by rw [Zo.out];have:=ZG.out;omega) (fun e=>by have:=(Yc.out.lt B e.symm).1;have:=ZG.out;omega)).trans Xg.out);have Zv:=yb (show w5.heap.size<=w6.heap.size by have:=Yd.size;rw [Zo.out] at this;omega);clear hO6 Yd)
  |(at_builtin;(refine zcY EByteP rfl (.tmp 44) (.tmp 45) rfl w5.heap.size _ (0+L.length) _ rfl Ye.out a bs.length cap (bs.map u8C) rfl (Q2.out.mono QH.out) (by rw [<-u8WC];exact YN.out bs) (by unfold maxLen;have:=ZH.out;have:=YO.out;omega) (by have:=ZH.out;have:=YO.out;omega) Zv.out ?_);intro v7 w7 hO7 hg7 _;rw [HN.out,HU.out] at hO7;obtain ⟨a7,c7,rfl,-,-⟩:=zaB hO7;have YP:=yb (Row.of_own hO7).2;have Qh:=yb (QH.out.grown hg7 (by have:=QH.out.size;omega) (fun b hb=>by have:=(Ye.out.lt b hb).1;have:=QB.out.size;omega));have Xi:=yb ((hg7.block B (by have:=Zv.out;have:=ZG.out;omega) (fun e=>by have:=(Ye.out.lt B e.symm).1;have:=ZG.out;omega)).trans Xh.out);clear hO7 hg7))
 clear Yc YM Xf Xg Zo YN Ye QH Xh Zv ZH YO HN HU Q2 QG ZG;have Zj:=yb (fun (W:World) (h:Below w7.heap.size w7 W)=>zg4 (YP.out.mono h) Xe 0 false);have Q3:=yb (fun (W:World) (h:Below w7.heap.size w7 W)=>dparse_any (YP.out.mono h) Xe 0 true);rw [Qt.out false] at Zj;rw [Qt.out true] at Q3;have Xj:=yb (fun (W:World) (h:Below w.heap.size w W)=>ZC.out.below h);clear Qt ZC YP;go_wp2_with fail
 refine (Zj.out _ (Below.refl _ _)).mono ?_;rintro e w8 h8;obtain ⟨ga1,gc1,sa1,sc1,rfl,Xk,Qz⟩:=h8.split;have QM:=Qz.alloc Qz.size (.cells #[.slice ga1 s.gs.length gc1,.int .i64 s.tr.kind,.int .i64 s.tr.n,.string (mkB s.tr.s),.slice sa1 s.tr.l.length sc1] 34);have Qk:=yb (Xk.below (zai w8 (.cells #[.slice ga1 s.gs.length gc1,.int .i64 s.tr.kind,.int .i64 s.tr.n,.string (mkB s.tr.s),.slice sa1 s.tr.l.length sc1] 34)));have Xl:=yb (zac (w:=w8) (.cells #[.slice ga1 s.gs.length gc1,.int .i64 s.tr.kind,.int .i64 s.tr.n,.string (mkB s.tr.s),.slice sa1 s.tr.l.length sc1] 34) rfl);have Xm:=yb (zab QM Xi.out);have Xn:=yo Qh QM;have ZI:=yb (Q3.out _ QM);clear h8 Xk Qz QM Zj Q3 Xi Qh
 go_upto_region 8 with fail
 generalize w8.heap.size=T1 at *;generalize World.alloc _ _=W8 at *;go_wp2_with fail
 refine ZI.out.mono ?_;rintro e w9 h9;obtain ⟨ga2,gc2,sa2,sc2,rfl,Xo,Ql⟩:=h9.split;have Qe:=Ql.alloc Ql.size (.cells #[.slice ga2 s.gs.length gc2,.int .i64 s.tr.kind,.int .i64 s.tr.n,.string (mkB s.tr.s),.slice sa2 s.tr.l.length sc2] 27);have ZJ:=yb (Qk.out.below Qe);have ZK:=yb (zab Qe Xl.out);have Xp:=yb (zab Qe Xm.out);have ZM:=yb (Xo.below (zai w9 (.cells #[.slice ga2 s.gs.length gc2,.int .i64 s.tr.kind,.int .i64 s.tr.n,.string (mkB s.tr.s),.slice sa2 s.tr.l.length sc2] 27)));have QA:=yb (zac (w:=w9) (.cells #[.slice ga2 s.gs.length gc2,.int .i64 s.tr.kind,.int .i64 s.tr.n,.string (mkB s.tr.s),.slice sa2 s.tr.l.length sc2] 27) rfl);have Yf:=yo Xn Qe;clear h9 Xo Ql Qe ZI Qk Xl Xm Xn
 go_upto_region 9 with fail
 generalize w9.heap.size=T2 at *;generalize World.alloc _ _=W9 at *;obtain ⟨⟨x0,x1,x2,x3,x4⟩,-⟩:=zaW ZK.out;obtain ⟨⟨y0,y1,y2,y3,y4⟩,-⟩:=zaW QA.out;obtain ⟨⟨z0,z1,z2,z3,z4⟩,-⟩:=zaW Xp.out;have YQ:=yb (fun p:zaI W9=>Xj.out p.w (Yf.out.trans (p.h.mono Yf.out.size)));have X4:=yb (fun p:zaI W9=>Za.out p.w _ _ _ _ (ZJ.out.below p.h) (YQ.out p));have X5:=yb (fun p:zaI W9=>Za.out p.w _ _ _ _ (ZM.out.below p.h) (YQ.out p));clear Za ZJ ZM ZK QA Xp Xj YQ;generalize s.gs.length=gl at *;generalize s.tr.kind=xk at *;generalize s.tr.n=xn at *;generalize mkB s.tr.s=xb at *;generalize s.tr.l.length=xl at *;have Zb:=yb (fun p:zaI W9=>ZD.out ga1 sa1 gl gc1 xl sc1 xk xn xb p.w);have q0:=zaI.cell x0;have q1:=zaI.cell x1;have q2:=zaI.cell x2;have q3:=zaI.cell x3;have q4:=zaI.cell x4;have r0:=zaI.cell y0;have r1:=zaI.cell y1;have r2:=zaI.cell y2;have r3:=zaI.cell y3;have r4:=zaI.cell y4;have t0:=zaI.cell z0;have t1:=zaI.cell z1;have t2:=zaI.cell z2;have t3:=zaI.cell z3;have t4:=zaI.cell z4;clear x0 x1 x2 x3 x4 y0 y1 y2 y3 y4 z0 z1 z2 z3 z4 ZD;refine zaX (by kernel_rfl) (by kernel_rfl) ?_
 repeat (go_big_quiet_step ((first
  |(go_at_call 13;with_reducible exact Calls.below_of (Zb.out _))
  |(go_at_call 12;first|(with_reducible exact Calls.below_of (X4.out _))|(with_reducible exact Calls.below_of (X5.out _)))
  |(go_at_call 6;with_reducible exact Calls.below_of (HW.out _)))))
 refine wpQuiet_nil ?_;rintro _ ⟨⟨w10,YR⟩,rfl⟩;go_wp2;go_ret;exact ⟨rfl,Yf.out.trans (YR.mono Yf.out.size)⟩
end Go.Proofs.YtcmoehknppjkiaaGreatDoor
namespace Go.Proofs.YtcmoehknppjkiaaGreatDoor
open Go.ChangeShapes Go.WideShapes Go.RowKit Go.Deep
theorem flat_get {α:Type} {C:α->List Value} {sz:Nat} (hC:∀a,(C a).length=sz):∀(l:List α) (j:Nat) (u:Value),(l.flatMap C)[j]?=some u->∃(i k:Nat) (a:α),j=i*sz+k/\k<sz/\l[i]?=some a/\(C a)[k]?=some u
 | [],j,u,h=>by simp at h
 | a::l,j,u,h=>by
  rw [List.flatMap_cons] at h
  by_cases hj:j<sz
  ·rw [List.getElem?_append_left (by rw [hC];exact hj)] at h
   exact ⟨0,j,a,by omega,hj,rfl,h⟩
  ·rw [List.getElem?_append_right (by rw [hC];omega),hC] at h
   obtain ⟨i,k,b,h1,h2,h3,h4⟩:=flat_get hC l _ u h;exact ⟨i+1,k,b,by rw [Nat.succ_mul];omega,h2,h3,h4⟩
theorem flatC_len {α:Type} {C:α->List Value} {sz:Nat} (hC:∀a,(C a).length=sz):∀l:List α,(l.flatMap C).length=l.length*sz
 | []=>by simp
 | a::l=>by rw [List.flatMap_cons,List.length_append,hC,flatC_len hC l,List.length_cons,Nat.succ_mul];omega
section
variable {P : Program} {H : Type} {enc : TypeId × Value -> H} {w : World} {base : Nat} {spare : Nat -> Bool} {held : Bool}
theorem zgl {α:Type} [Inhabited α] {T E:TypeId} {sz:Nat} (und:P.underlying T=some (.slice E)) (hE:P.cellsOf E=sz) {C:α->List Value} (hC:∀a,(C a).length=sz) {p:α->Prop} {N fuel:Nat} (hf:fuel<=N+1)
  (elem:∀(m:Nat) (cs:List Value) (x:DataW H×List MemPlace),m<=N->DataW.trod enc P w base spare held m E cs=some x->∃a,cs=C a/\p a)
  {cs:List Value} {x:DataW H×List MemPlace} (h:DataW.trod enc P w base spare held fuel T cs=some x) :
  ∃(l:List α) (ad:Option Addr) (cap:Nat),cs=[.slice ad l.length cap]/\(∀a∈l,p a)/\(0<sz->Row w sz ad l.length cap (l.flatMap C)):=by
 rcases DataW.trod_slice und h with ⟨rfl,_⟩|⟨a,len,cap,elems,rest,m,hm,rfl,_,_,hl,hc,X6,Qu,_⟩
 ·exact ⟨[],none,0,rfl,fun _ h=>(by cases h),fun _=>Row.nil w sz⟩
 ·subst hm
  have each:∀i,i<len->∃q:α,p q/\∀k,k<sz->w.cell? (a.add (i*sz+k))=(C q)[k]?:=fun i hi=>by
   have h1:=Qu i hi;rw [List.getElem?_eq_getElem (by omega),hE] at h1;obtain ⟨cs',h2,h3⟩:=Option.bind_eq_some_iff.1 h1;obtain ⟨q,rfl,hq⟩:=elem m cs' _ (by omega) h3;obtain ⟨_,_,Qc⟩:=World.cells?_some h2;refine ⟨q,hq,fun k hk=>?_⟩;have:=Qc k hk;rw [add_add] at this;exact this
  obtain ⟨f,hf⟩:=choose_lt each
  let L:=(List.range len).map f
  have hL:L.length=len:=by simp [L]
  refine ⟨L,some a,cap,by rw [hL],fun q hq=>?_,fun hsz=>⟨?_,?_,hc,fun h=>(by cases h),fun hn=>?_⟩⟩
  ·obtain ⟨i,hi,rfl⟩:=List.mem_map.1 hq
   exact (hf i (List.mem_range.1 hi)).1
  ·rw [flatC_len hC]
  ·rw [hL];exact hl
  ·rw [hL] at hn
   have h0:=(hf 0 hn).2 0 hsz;obtain ⟨u0,X7⟩:∃u0,(C (f 0))[0]?=some u0:=⟨_,List.getElem?_eq_getElem (by rw [hC];exact hsz)⟩;rw [X7] at h0;have hb:=World.block_lt_of_cell? w _ h0;obtain ⟨b,off,spot⟩:=a;have Qv:spot=none:=by simpa [Addr.add] using World.cell?_spot h0
   subst Qv;refine ⟨b,off,rfl,by simpa [Addr.add] using hb,fun j u hj=>?_⟩;obtain ⟨i,k,q,rfl,hk,hq,hu⟩:=flat_get hC _ _ _ hj
   have hi:i<len:=by
    have:=(List.getElem?_eq_some_iff.1 hq).1
    rwa [hL] at this
   have X8:f i=q:=by simpa [L,hi] using hq
   have:=(hf i hi).2 k hk;rw [X8,hu,Addr.add_lit] at this;exact this
end
end Go.Proofs.YtcmoehknppjkiaaGreatDoor
namespace Go.Proofs.YtcmoehknppjkiaaGreatDoor
open Go.ChangeShapes Go.WideShapes Go.Joins Go.RowKit Go.Deep
def zed (l:List (PV×Value)):List Value:=l.flatMap fun p=>pvC p.1 p.2
theorem cellsP_len (l:List (PV×Value)):(zed l).length=l.length*4:=by
 induction l with
 | nil=>rfl
 | cons p l ih=>unfold zed at *;rw [List.flatMap_cons,List.length_append,ih,List.length_cons];simp [pvC];omega
theorem row4 {w:World} {b:Nat}:∀(l:List (PV×Value)) (off:Nat),
  (∀i p,l[i]?=some p->w.cell? ⟨b,off+i*4,none⟩=some (.int .i64 p.1.kind)/\w.cell? ⟨b,off+i*4+1,none⟩=some (.int .i64 p.1.n)/\w.cell? ⟨b,off+i*4+2,none⟩=some (.string (mkB p.1.s))/\w.cell? ⟨b,off+i*4+3,none⟩=some p.2) ->
  ∀j u,(zed l)[j]?=some u->w.cell? ⟨b,off+j,none⟩=some u
 | [],_,_,j,u,h=>by simp [zed] at h
 | p::l,off,hc,j,u,h=>by
  have h0:=hc 0 p rfl;simp only [Nat.zero_mul,Nat.add_zero] at h0;have e:zed (p::l)=.int .i64 p.1.kind::.int .i64 p.1.n::.string (mkB p.1.s)::p.2::zed l:=rfl;rw [e] at h
  match j,h with
  | 0,h=>simp at h;subst h;exact h0.1
  | 1,h=>simp at h;subst h;exact h0.2.1
  | 2,h=>simp at h;subst h;exact h0.2.2.1
  | 3,h=>simp at h;subst h;exact h0.2.2.2
  | j+4,h =>
   have:=row4 l (off+4) (fun i q hq=>by
    have:=hc (i+1) q hq;rw [show off+(i+1)*4=off+4+i*4 by omega] at this;exact this) j u (by simpa using h)
   rw [show off+4+j=off+(j+4) by omega] at this;exact this
theorem isVs_of {w:World}:∀l:List (PV×Value),(∀p∈l,IsV w anyF p.1 p.2)->IsVs w anyF (l.map (·.1)) (zed l)
 | [],_=>rfl
 | p::l,h=>⟨p.2,zed l,rfl,h p (List.mem_cons_self ..),isVs_of l fun q hq=>h q (List.mem_cons_of_mem _ hq)⟩
def grpC (q:Grp×Value):List Value:=[.int .i64 q.1.first,q.2]
theorem isGs_of {w:World}:∀l:List (Grp×Value),(∀q∈l,IsE w anyF q.1.es q.2)->IsGs w anyF (l.map (·.1)) (l.flatMap grpC)
 | [],_=>rfl
 | q::l,h=>⟨q.2,l.flatMap grpC,rfl,h q (List.mem_cons_self ..),isGs_of l fun r hr=>h r (List.mem_cons_of_mem _ hr)⟩
section
variable {H : Type} {enc : TypeId × Value -> H} {w : World} {base : Nat} {spare : Nat -> Bool} {held : Bool}
set_option maxRecDepth 100000 in
theorem ent_cells (m:Nat) (cs:List Value) (x:DataW H×List MemPlace) (h:DataW.trod enc Tryz.prog w base spare held m 45 cs=some x):∃e:Ent,cs=entC e/\True:=by
 have hC:Tryz.prog.cellsOf 45=3:=by kernel_rfl
 obtain ⟨xs,n,rfl,-,hlen,Zd,hf⟩:=DataW.trod_struct Tryz.underlying45 h;rw [hC] at hlen
 match xs,Zd,cs,hlen with
 | [y0,y1,y2],_,[c0,c1,c2],_ =>
 have k3:Tryz.prog.cellsOf 3=1:=by kernel_rfl
 have k1:Tryz.prog.cellsOf 4=1:=by kernel_rfl
 have g0:DataW.trod enc Tryz.prog w base spare held n 3 ((([c0,c1,c2]:List Value).drop 0).take (Tryz.prog.cellsOf 3))=some y0:=hf 0 _ rfl;have g1:DataW.trod enc Tryz.prog w base spare held n 3 ((([c0,c1,c2]:List Value).drop 1).take (Tryz.prog.cellsOf 3))=some y1:=hf 1 _ rfl;have g2:DataW.trod enc Tryz.prog w base spare held n 4 ((([c0,c1,c2]:List Value).drop 2).take (Tryz.prog.cellsOf 4))=some y2:=hf 2 _ rfl;rw [k3] at g0 g1;rw [k1] at g2;obtain ⟨z0,e0,_,_⟩:=DataW.trod_int Tryz.underlying3 g0;obtain ⟨z1,e1,_,_⟩:=DataW.trod_int Tryz.underlying3 g1;obtain ⟨z2,e2,_⟩:=DataW.trod_bool Tryz.underlying4 g2;simp at e0 e1 e2;subst e0 e1 e2;exact ⟨⟨z0,z1,z2⟩,rfl,trivial⟩
set_option maxRecDepth 100000 in
theorem grp_cells (m:Nat) (cs:List Value) (x:DataW H×List MemPlace) (h:DataW.trod enc Tryz.prog w base spare held m 58 cs=some x):∃q:Grp×Value,cs=grpC q/\IsE w anyF q.1.es q.2:=by
 have hC:Tryz.prog.cellsOf 58=2:=by kernel_rfl
 obtain ⟨xs,n,rfl,-,hlen,Zd,hf⟩:=DataW.trod_struct Tryz.underlying58 h;rw [hC] at hlen
 match xs,Zd,cs,hlen with
 | [y0,y1],_,[c0,c1],_ =>
 have k3:Tryz.prog.cellsOf 3=1:=by kernel_rfl
 have k1:Tryz.prog.cellsOf 56=1:=by kernel_rfl
 have g0:DataW.trod enc Tryz.prog w base spare held n 3 ((([c0,c1]:List Value).drop 0).take (Tryz.prog.cellsOf 3))=some y0:=hf 0 _ rfl;have g1:DataW.trod enc Tryz.prog w base spare held n 56 ((([c0,c1]:List Value).drop 1).take (Tryz.prog.cellsOf 56))=some y1:=hf 1 _ rfl;rw [k3] at g0;rw [k1] at g1;obtain ⟨z0,e0,_,_⟩:=DataW.trod_int Tryz.underlying3 g0;obtain ⟨l,ad,cap,e1,_,hr⟩:=zgl (α:=Ent) (C:=entC) (p:=fun _=>True) Tryz.underlying56 (show Tryz.prog.cellsOf 45=3 by kernel_rfl) (fun _=>rfl) (Nat.le_succ n) (fun m cs x _ hx=>ent_cells m cs x hx) g1;simp at e0 e1;subst e0 e1;exact ⟨(⟨z0,l⟩,.slice ad l.length cap),rfl,ad,cap,rfl,hr (by decide),fun _ _ _=>trivial⟩
end
theorem txMs_of {M:Nat}:∀ {l:List PV},(∀p∈l,txM M p)->txMs M l
 | [],_=>trivial
 | v::_,h=>⟨h v (List.mem_cons_self ..),txMs_of fun p hp=>h p (List.mem_cons_of_mem _ hp)⟩
theorem all_memW {H:Type} {P:Program} {e:TypeId}:∀ {l:List (DataW H)} {i:Nat} {d:DataW H},l[i]?=some d->∀n∈d.weights P e,n∈DataW.weightsAll P e l
 | [],_,_,h,_,_=>by simp at h
 | x::l,0,d,h,n,hn=>by
  simp at h;subst h;simp only [DataW.weightsAll];exact List.mem_append_left _ hn
 | x::l,i+1,d,h,n,hn=>by
  simp only [DataW.weightsAll];exact List.mem_append_right _ (all_memW (i:=i) (by simpa using h) n hn)
theorem slice_memW {H:Type} {P:Program} {t e:TypeId} (und:P.underlying t=some (.slice e)) {elems rest:List (DataW H)} {i:Nat} {d:DataW H} (h:elems[i]?=some d) (n:Nat) (hn:n∈d.weights P e):n∈(DataW.slice elems rest).weights P t:=by
 simp only [DataW.weights,und];exact List.mem_cons_of_mem _ (List.mem_append_left _ (all_memW h n hn))
section
variable {H : Type} {enc : TypeId × Value -> H} {w : World} {base : Nat} {spare : Nat -> Bool} {held : Bool}
set_option maxRecDepth 100000 in
theorem val_cellsM:∀(N fuel:Nat) (cs:List Value) (x:DataW H×List MemPlace),fuel<=N->DataW.trod enc Tryz.prog w base spare held fuel 25 cs=some x->∃(v:PV) (sl:Value),cs=pvC v sl/\IsV w anyF v sl/\(∀M,(∀n∈DataW.weights Tryz.prog 25 x.1,n<=M)->txM M v):=by
 intro N
 induction N with
 | zero =>
  intro fuel cs x hf h;obtain rfl:fuel=0:=by omega
  simp [DataW.trod] at h
 | succ N ih =>
 intro fuel cs x hfu h;have hC:Tryz.prog.cellsOf 25=4:=by kernel_rfl
 obtain ⟨xs,n,rfl,rfl,hlen,Zd,hf⟩:=DataW.trod_struct Tryz.underlying25 h;rw [hC] at hlen
 match xs,Zd,cs,hlen with
 | [y0,y1,y2,y3],_,[c0,c1,c2,c3],_ =>
 have k3:Tryz.prog.cellsOf 3=1:=by kernel_rfl
 have k9:Tryz.prog.cellsOf 9=1:=by kernel_rfl
 have k22:Tryz.prog.cellsOf 23=1:=by kernel_rfl
 have g0:DataW.trod enc Tryz.prog w base spare held n 3 ((([c0,c1,c2,c3]:List Value).drop 0).take (Tryz.prog.cellsOf 3))=some y0:=hf 0 _ rfl;have g1:DataW.trod enc Tryz.prog w base spare held n 3 ((([c0,c1,c2,c3]:List Value).drop 1).take (Tryz.prog.cellsOf 3))=some y1:=hf 1 _ rfl;have g2:DataW.trod enc Tryz.prog w base spare held n 9 ((([c0,c1,c2,c3]:List Value).drop 2).take (Tryz.prog.cellsOf 9))=some y2:=hf 2 _ rfl;have g3:DataW.trod enc Tryz.prog w base spare held n 23 ((([c0,c1,c2,c3]:List Value).drop 3).take (Tryz.prog.cellsOf 23))=some y3:=hf 3 _ rfl;rw [k3] at g0 g1;rw [k9] at g2;rw [k22] at g3;obtain ⟨z0,e0,_,_⟩:=DataW.trod_int Tryz.underlying3 g0;obtain ⟨z1,e1,_,_⟩:=DataW.trod_int Tryz.underlying3 g1;obtain ⟨s,e2,X9,_⟩:=DataW.trod_string Tryz.underlying9 g2;simp at e0 e1 e2;subst e0 e1 e2
 have Xq:∀n∈DataW.weights Tryz.prog 9 y2.1,n∈DataW.weights Tryz.prog 25 (DataW.agg ([y0,y1,y2,y3].map (·.1))):=fun n hn=>by
  simp only [DataW.weights,Tryz.underlying25];exact DataW.weights_mem_each (j:=2) rfl rfl n hn
 have Va:∀n∈DataW.weights Tryz.prog 23 y3.1,n∈DataW.weights Tryz.prog 25 (DataW.agg ([y0,y1,y2,y3].map (·.1))):=fun n hn=>by
  simp only [DataW.weights,Tryz.underlying25];exact DataW.weights_mem_each (j:=3) rfl rfl n hn
 have Xr:∀M,(∀n∈DataW.weights Tryz.prog 25 (DataW.agg ([y0,y1,y2,y3].map (·.1))),n<=M)->s.data.toList.length<=M:=fun M h=>by
  refine h _ (Xq _ ?_);rw [X9];simp [DataW.weights]
 clear Xq;rcases DataW.trod_slice Tryz.underlying23 g3 with ⟨e3,_⟩|⟨a,len,cap,elems,rest,m,hm,e3,Vb,_,hl,hc,X6,Qu,_⟩
 ·simp at e3
  subst e3;exact ⟨.mk z0 z1 s.data.toList [],.slice none 0 0,rfl,IsV.leaf w anyF _ rfl,fun M h=>⟨Xr M h,trivial⟩⟩
 ·simp at e3
  subst e3;subst hm
  have each:∀i,i<len->∃q:PV×Value,(IsV w anyF q.1 q.2/\(∀M,(∀n∈DataW.weights Tryz.prog 25 (DataW.agg ([y0,y1,y2,y3].map (·.1))),n<=M)->txM M q.1))/\w.cell? (a.add (i*4))=some (.int .i64 q.1.kind)/\w.cell? (a.add (i*4+1))=some (.int .i64 q.1.n)/\w.cell? (a.add (i*4+2))=some (.string (mkB q.1.s))/\w.cell? (a.add (i*4+3))=some q.2:=fun i hi=>by
   have h1:=Qu i hi;have Xs:elems[i]?=some (elems[i]'(by omega)):=List.getElem?_eq_getElem (by omega);rw [Xs,hC] at h1;obtain ⟨cs',h2,h3⟩:=Option.bind_eq_some_iff.1 h1;obtain ⟨v,sl,rfl,hv,YS⟩:=ih m cs' _ (by omega) h3
   have YT:∀M,(∀n∈DataW.weights Tryz.prog 25 (DataW.agg ([y0,y1,y2,y3].map (·.1))),n<=M)->txM M v:=fun M h=>YS M fun n hn=>h n (Va n (by
    rw [Vb];exact slice_memW Tryz.underlying23 (i:=i) (by rw [List.getElem?_map,Xs];rfl) n hn))
   obtain ⟨_,_,Qc⟩:=World.cells?_some h2;have a0:=Qc 0 (by omega);have a1:=Qc 1 (by omega);have a2:=Qc 2 (by omega);have a3:=Qc 3 (by omega);rw [add_add] at a0 a1 a2 a3;exact ⟨(v,sl),⟨hv,YT⟩,by simpa [pvC] using a0,by simpa [pvC] using a1,by simpa [pvC] using a2,by simpa [pvC] using a3⟩
  have:Inhabited (PV×Value):=⟨(PV.none,.slice none 0 0)⟩;obtain ⟨f,hf⟩:=choose_lt each
  let L:=(List.range len).map f
  have hL:L.length=len:=by simp [L]
  have hv:IsV w anyF (.mk z0 z1 s.data.toList (L.map (·.1))) (.slice (some a) (PV.mk z0 z1 s.data.toList (L.map (·.1))).l.length cap):=by
   refine IsV.mk (cs:=zed L) ⟨?_,?_,hc,fun h=>(by cases h),fun hn=>?_⟩ (fun _ _ _=>trivial) ?_
   ·rw [cellsP_len];simp [PV.l]
   ·simp only [PV.l,List.length_map,hL];exact hl
   ·simp only [PV.l,List.length_map,hL] at hn
    have h0:=(hf 0 hn).2.1;have hb:=World.block_lt_of_cell? w _ h0;obtain ⟨b,off,spot⟩:=a;have Qv:spot=none:=by simpa [Addr.add] using World.cell?_spot h0
    subst Qv;refine ⟨b,off,rfl,by simpa [Addr.add] using hb,row4 L off fun i p hp=>?_⟩
    have hi:i<len:=by
     have:=(List.getElem?_eq_some_iff.1 hp).1
     rwa [hL] at this
    have Vc:f i=p:=by
     simpa [L,hi] using hp
    obtain ⟨_,e0,e1,e2,e3⟩:=hf i hi;rw [Vc] at e0 e1 e2 e3;rw [Addr.add_lit] at e0 e1 e2 e3;rw [<-Nat.add_assoc] at e1 e2 e3;exact ⟨e0,e1,e2,e3⟩
   ·refine isVs_of L fun p hp=>?_
    obtain ⟨i,hi,rfl⟩:=List.mem_map.1 hp;exact (hf i (List.mem_range.1 hi)).1.1
  refine ⟨_,_,?_,hv,fun M h=>⟨Xr M h,txMs_of fun p hp=>?_⟩⟩
  rotate_left
  ·obtain ⟨q,hq,rfl⟩:=List.mem_map.1 hp
   obtain ⟨i,hi,rfl⟩:=List.mem_map.1 hq;exact (hf i (List.mem_range.1 hi)).1.2 M h
  simp only [pvC,PV.kind,PV.n,PV.s,PV.l,List.length_map,hL];rfl
end
section
variable {H : Type} {enc : TypeId × Value -> H} {w : World} {base : Nat} {spare : Nat -> Bool} {held : Bool}
set_option maxRecDepth 100000 in
theorem sec_cellsM (m:Nat) (cs:List Value) (x:DataW H×List MemPlace) (h:DataW.trod enc Tryz.prog w base spare held m 27 cs=some x):∃(s:Sec) (gv sl:Value),cs=secC s gv sl/\zcj w anyF s gv sl/\(∀M,(∀n∈DataW.weights Tryz.prog 27 x.1,n<=M)->txM M s.tr):=by
 have hC:Tryz.prog.cellsOf 27=5:=by kernel_rfl
 obtain ⟨xs,n,rfl,rfl,hlen,Zd,hf⟩:=DataW.trod_struct Tryz.underlying27 h;rw [hC] at hlen
 match xs,Zd,cs,hlen with
 | [y0,y1],_,[c0,c1,c2,c3,c4],_ =>
 have k3:Tryz.prog.cellsOf 22=1:=by kernel_rfl
 have k1:Tryz.prog.cellsOf 25=4:=by kernel_rfl
 have g0:DataW.trod enc Tryz.prog w base spare held n 22 ((([c0,c1,c2,c3,c4]:List Value).drop 0).take (Tryz.prog.cellsOf 22))=some y0:=hf 0 _ rfl;have g1:DataW.trod enc Tryz.prog w base spare held n 25 ((([c0,c1,c2,c3,c4]:List Value).drop 1).take (Tryz.prog.cellsOf 25))=some y1:=hf 1 _ rfl;rw [k3] at g0;rw [k1] at g1;obtain ⟨l,ad,cap,e0,hp,hr⟩:=zgl (α:=Grp×Value) (C:=grpC) (p:=fun q=>IsE w anyF q.1.es q.2) Tryz.underlying22 (show Tryz.prog.cellsOf 58=2 by kernel_rfl) (fun _=>rfl) (Nat.le_succ n) (fun m cs x _ hx=>grp_cells m cs x hx) g0;obtain ⟨v,sl,e1,hv,YS⟩:=val_cellsM n n _ _ (yp _) g1;have e0:c0=.slice ad l.length cap:=by simpa using e0
 have e1:[c1,c2,c3,c4]=pvC v sl:=by simpa using e1
 refine ⟨⟨l.map (·.1),v⟩,c0,sl,by rw [secC,<-e1],⟨⟨ad,cap,l.flatMap grpC,by rw [e0];simp,?_,fun _ _ _=>trivial,isGs_of l hp⟩,hv⟩,fun M h=>YS M fun n hn=>h n ?_⟩
 ·have:=hr (by decide)
  simpa using this
 ·simp only [DataW.weights,Tryz.underlying27]
  exact DataW.weights_mem_each (j:=1) rfl rfl n hn
set_option maxRecDepth 100000 in
theorem sec_treeM {r:Reach} {b0:Nat} {v:Value} {d:DataW H} {p:List MemPlace} (hv:Value.okWide Tryz.prog w r b0 27 v) (h:DataW.Trod enc Tryz.prog w base spare held 27 v d p) :
  ∃(s:Sec) (gv sl:Value),v=secA s gv sl/\zcj w anyF s gv sl/\(∀M,(∀n∈DataW.weights Tryz.prog 27 d,n<=M)->txM M s.tr):=by
 obtain ⟨cs,rfl,hsz⟩:=okWide_struct Tryz.underlying27 hv;obtain ⟨fuel,hf⟩:=h;obtain ⟨s,gv,sl,e,hu,hM⟩:=sec_cellsM fuel _ _ hf;have e2:cs=(secC s gv sl).toArray:=by rw [<-e];simp [Value.cells]
 exact ⟨s,gv,sl,by rw [e2];rfl,hu,hM⟩
end
end Go.Proofs.YtcmoehknppjkiaaGreatDoor
namespace Go.Proofs.YtcmoehknppjkiaaGreatDoor
open Go.RowKit Go.ChangeShapes Go.WideShapes
theorem byte_slice {H:Type} {enc:TypeId×Value->H} {w:World} {a:Option Addr} {n cap:Nat} {d:DataW H} {p:List MemPlace} (h:DataW.Trod enc Tryz.prog w 0 (fun _=>true) true 28 (.slice a n cap) d p) :
  ∃bs:List UInt8,bs.length=n/\Row w 1 a bs.length cap (bs.map u8C):=by
 obtain ⟨fuel,hf⟩:=h;rcases open_ints Tryz.underlying28 Tryz.underlying5 (by kernel_rfl) hf with ⟨ZL,_⟩|⟨x,l,c,zs,ZL,_,hl,hm,hz,_,Qc,Vd⟩
 ·simp [Value.cells] at ZL
  obtain ⟨rfl,rfl,rfl⟩:=ZL;exact ⟨[],rfl,Row.nil w 1⟩
 ·simp [Value.cells] at ZL
  obtain ⟨rfl,rfl,rfl⟩:=ZL;exact row_bytes (w:=w) (a:=some x) (len:=n) (cap:=cap) (zs:=zs) (.inr ⟨x,rfl,hl,hm,by simpa using hz,Qc,Vd⟩)
end Go.Proofs.YtcmoehknppjkiaaGreatDoor
