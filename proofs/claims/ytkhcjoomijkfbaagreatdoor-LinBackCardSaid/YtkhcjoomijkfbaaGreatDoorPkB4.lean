/-
  Our texts Lm2 to Lex8, in one.
-/
import Derived.Test.YtkhcjoomijkfbaaGreatDoorPkB3
import Derived.Test.YtkhcjoomijkfbaaGreatDoorProg
import Derived.StillTailTactics
import Derived.ScopeJumps
import Derived.WalkMore
import Derived.Deep.LoopGhost
set_option maxRecDepth 8000
set_option maxHeartbeats 8000000
namespace Go.Proofs.YtkhcjoomijkfbaaGreatDoor
open Go.RowKit
theorem zeZ (l:LinD) (w:World):Calls Tryz.prog 11 #[linA l] w (zen w l):=by
 have HB:=Lib.hid (zam w (.cells #[.int .i64 l.len,.int .i64 l.at_,.int .i64 l.n,.int .i64 l.obj,.int .i64 l.fin,.int .i64 l.pages,.int .i64 l.main] 23))
 have HK:=Lib.hid (zac (w:=w) (b:=w.heap.size) (.cells #[.int .i64 l.len,.int .i64 l.at_,.int .i64 l.n,.int .i64 l.obj,.int .i64 l.fin,.int .i64 l.pages,.int .i64 l.main] 23) rfl)
 have HG:Hid ((chkL l=0∧(1≤l.len∧l.len≤2147483647∧1≤l.obj∧l.obj≤4096∧1≤l.pages∧l.pages≤2048∧0≤l.at_∧l.at_≤l.fin∧1≤l.n∧l.n≤l.fin∧l.fin≤l.main∧l.main<l.len∧l.n≤l.fin-l.at_))∨(chkL l=28∧¬(1≤l.len∧l.len≤2147483647∧1≤l.obj∧l.obj≤4096∧1≤l.pages∧l.pages≤2048∧0≤l.at_∧l.at_≤l.fin∧1≤l.n∧l.n≤l.fin∧l.fin≤l.main∧l.main<l.len∧l.n≤l.fin-l.at_))):=Lib.hid (by
   by_cases h:zb8 l=true
   · exact .inl ⟨if_pos h,zbV.1 h⟩
   · exact .inr ⟨if_neg h,fun hh=>h (zbV.2 hh)⟩)
 unfold zen
 unfold linA
 generalize chkL l=R at *
 obtain ⟨a,b,c,d,e,f,g⟩:=l
 dsimp only at *
 have HW:Hid (0≤b∧b≤2147483647∧0≤c∧c≤2147483647→IntKind.i64.wrap (b+c)=b+c):=Lib.hid (by intro h;exact IntWalk.i64_in _ (by omega))
 have hd:∀(p:Prop) [Decidable p],decide p=true∨decide p=false:=fun p _=>by cases decide p<;>simp
 refine (hd (a<1)).elim (fun h0=>?_) (fun h0=>(hd (a > 2147483647)).elim (fun h1=>?_) (fun h1=>(hd (d<1)).elim (fun h2=>?_) (fun h2=>(hd (d > 4096)).elim (fun h3=>?_) (fun h3=>(hd (f<1)).elim (fun h4=>?_) (fun h4=>(hd (f > 2048)).elim (fun h5=>?_) (fun h5=>(hd (g<0)).elim (fun h6=>?_) (fun h6=>(hd (g≥a)).elim (fun h7=>?_) (fun h7=>(hd (e<0)).elim (fun h8=>?_) (fun h8=>(hd (e > g)).elim (fun h9=>?_) (fun h9=>(hd (b<0)).elim (fun h10=>?_) (fun h10=>(hd (b > e)).elim (fun h11=>?_) (fun h11=>(hd (c<1)).elim (fun h12=>?_) (fun h12=>(hd (c > e)).elim (fun h13=>?_) (fun h13=>(hd (b+c > e)).elim (fun h14=>?_) (fun h14=>?_)))))))))))))))
 all_goals
   clear hd
   obtain ⟨rfl,hg⟩|⟨rfl,hg⟩:=HG.out
 all_goals
   first
     | (exfalso;simp only [decide_eq_true_eq,decide_eq_false_iff_not] at *;omega)
     | skip
 all_goals
   have hw:IntKind.i64.wrap (b+c)=b+c∨True:=.inr trivial
   first
     | (replace hw:IntKind.i64.wrap (b+c)=b+c:=HW.out ?_;rotate_left;(simp only [decide_eq_true_eq,decide_eq_false_iff_not] at *;omega))
     | clear hw
   clear HG HW hg
   go_enter Tryz.func11,Tryz.ntmps11
   go_upto_region 1 with fail
   obtain ⟨q,hq⟩:∃q,q=w.heap.size:=⟨_,rfl⟩
   rw [←hq] at HK ⊢
   clear hq
   generalize w.alloc _=W at *
   have hK:=HK.out
   obtain ⟨z0,z1,z2,z3,z4,z5,z6⟩:=zaE hK
   go_wp2_with fail
   go_ret
   exact ⟨rfl,HB.out⟩
theorem rform_int (n : Int) (h1 : 1 ≤ n) (h2 : n ≤ 4096) (w : World) : Calls Tryz.prog 51 #[.agg #[.int .i64 2, .int .i64 n, .string ⟨#[]⟩, .slice none 0 0]] w fun e w' => e = .returned (.string (mkB (decL n.toNat))) ∧ Below w.heap.size w w' := by
 have HB:=Lib.hid (zam w (.cells #[.int .i64 2,.int .i64 n,.string ⟨#[]⟩,.slice none 0 0] 48))
 have HK:=Lib.hid (zac (w:=w) (b:=w.heap.size) (.cells #[.int .i64 2,.int .i64 n,.string ⟨#[]⟩,.slice none 0 0] 48) rfl)
 have HP := Lib.hid (fun W => show Calls Tryz.prog 88 #[.agg #[.int .i64 2, .int .i64 n, .string ⟨#[]⟩, .slice none 0 0]] W (fun e w' => e = .returned (.tuple #[.string (mkB (decL n.toNat)), .int .i64 0]) ∧ Below W.heap.size W w') from by
   have h:=rprint_any 2 n ⟨#[]⟩ none 0 0 W (by omega)
   have hv:zdd 2 n (zb4 ⟨#[]⟩ 0)=(decL n.toNat,0):=by
     rw [show zb4 ⟨#[]⟩ 0=true from rfl,zdB (check_two h1 h2)]
     have hs:zb2 n=[]:=by unfold zb2;rw [if_neg (by omega)]
     have ha:absL 2 n.natAbs=decL n.toNat:=by unfold absL;rw [if_pos rfl,show n.natAbs=n.toNat by omega]
     rw [hs,ha];rfl
   unfold zc6 at h
   rw [hv] at h
   exact h)
 clear h1 h2
 generalize mkB (decL n.toNat)=T at *
 go_enter Tryz.func51,Tryz.ntmps51
 go_upto_region 1 with fail
 generalize w.heap.size=r at HK ⊢
 generalize w.alloc _=W1 at *
 obtain ⟨⟨c0,c1,c2,c3⟩,-⟩:=zae HK.out
 go_wp2_with (go_at_call 88;refine (HP.out _).mono ?_;rintro e w2 ⟨rfl,hb2⟩;have HB2:=Lib.hid (HB.out.trans (hb2.mono HB.out.size));clear hb2)
 go_ret
 exact ⟨rfl,HB2.out⟩
theorem rnumber29 (n : Int) (h1 : 1 ≤ n) (h2 : n ≤ 4096) (w : World) : Calls Tryz.prog 31 #[.int .i64 n] w fun e w' => e = .returned (.string (mkB (decL n.toNat))) ∧ Below w.heap.size w w' := by
 have HP:=Lib.hid (fun W=>rform_int n h1 h2 W)
 clear h1 h2
 generalize mkB (decL n.toNat)=T at *
 go_enter Tryz.func31,Tryz.ntmps31
 go_wp2_with (go_at_call 51;refine (HP.out _).mono ?_;rintro e w2 ⟨rfl,hb2⟩;have HB2:=Lib.hid hb2;clear hb2)
 go_ret
 exact ⟨rfl,HB2.out⟩
theorem zeP (n : Int) (h0 : 0 ≤ n) (h1 : n ≤ 2147483647) (w : World) : Calls Tryz.prog 32 #[.int .i64 n] w fun e w' => e = .returned (.string (mkB (padN n))) ∧ Below w.heap.size w w' := by
 have hp:=rpad_any n 10 w (by omega) (by omega) (by omega) (by omega)
 have hv:padV n 10=(padN n,0):=by
   have h:=ze1 (N:=n.toNat) (d:=10) (by omega) (by omega) (by have:=za3 9 n.toNat (by omega);omega)
   rw [show ((n.toNat:Nat):Int)=n by omega] at h
   exact h
 unfold ze9 at hp
 rw [hv] at hp
 have HP:=Lib.hid hp
 have he:mkS (padN n)=mkB (padN n):=rfl
 dsimp only at HP
 rw [he] at HP
 generalize mkB (padN n)=T at *
 clear hp hv he h0 h1
 go_enter Tryz.func32,Tryz.ntmps32
 go_wp2_with (go_at_call 52;refine HP.out.mono ?_;rintro e w' ⟨rfl,q,rfl⟩)
 go_ret
 exact ⟨rfl,zag (Below.refl _ _) _⟩
theorem lin_text2 (n:Int) (l:LinD):mkB (linB n l)=mkB (decL n.toNat)++⟨#[32,48,32,111,98,106,10,60,60,47,76,105,110,101,97,114,105,122,101,100,32,49,47,76,32]⟩++mkB (padN l.len)++⟨#[47,72,32,91]⟩++mkB (padN l.at_)++⟨#[32]⟩++mkB (padN l.n)++⟨#[93,47,79,32]⟩++mkB (padN l.obj) ++
   ⟨#[47,69,32]⟩++mkB (padN l.fin)++⟨#[47,78,32]⟩++mkB (padN l.pages)++⟨#[47,84,32]⟩++mkB (padN l.main)++⟨#[62,62,10,101,110,100,111,98,106,10]⟩:=by
 have e:∀x:List UInt8,(⟨x.toArray⟩:ByteArray)=mkB x:=fun _=>rfl
 simp only [e,mkB_addl]
 unfold linB obj0 tx1 txH txO txE txN txT txX
 congr 1
 simp
def TxEnd (w:World) (T:List UInt8) (e:Ending) (w':World):Prop:=e=.returned (.string (mkB T))∧Below w.heap.size w w'
theorem rtext29 {n:Int} {l:LinD} (h1:1≤n) (h2:n≤4096) (hl:zb8 l=true) (w:World):Calls Tryz.prog 20 #[.int .i64 n,linA l] w (TxEnd w (linB n l)):=by
 have HB:=Lib.hid (zam w (.cells #[.int .i64 l.len,.int .i64 l.at_,.int .i64 l.n,.int .i64 l.obj,.int .i64 l.fin,.int .i64 l.pages,.int .i64 l.main] 23))
 have HK:=Lib.hid (zac (w:=w) (b:=w.heap.size) (.cells #[.int .i64 l.len,.int .i64 l.at_,.int .i64 l.n,.int .i64 l.obj,.int .i64 l.fin,.int .i64 l.pages,.int .i64 l.main] 23) rfl)
 obtain ⟨l1,l2,l3,l4,l5,l6,l7,l8,l9,l10,l11,l12,l13⟩:=zbV.1 hl
 have P1:=Lib.hid (fun W=>zeP l.len (by omega) (by omega) W)
 have P2:=Lib.hid (fun W=>zeP l.at_ (by omega) (by omega) W)
 have P3:=Lib.hid (fun W=>zeP l.n (by omega) (by omega) W)
 have P4:=Lib.hid (fun W=>zeP l.obj (by omega) (by omega) W)
 have P5:=Lib.hid (fun W=>zeP l.fin (by omega) (by omega) W)
 have P6:=Lib.hid (fun W=>zeP l.pages (by omega) (by omega) W)
 have P7:=Lib.hid (fun W=>zeP l.main (by omega) (by omega) W)
 have HNO:=Lib.hid (fun W=>rnumber29 n h1 h2 W)
 have s0:(mkB (decL n.toNat)).size≤10:=by rw [zaX];exact Nat.le_trans (za3 9 n.toNat (by omega)) (by omega)
 have s1:(mkB (padN l.len)).size=10:=by rw [zaX];exact zaW (by omega) (by omega)
 have s2:(mkB (padN l.at_)).size=10:=by rw [zaX];exact zaW (by omega) (by omega)
 have s3:(mkB (padN l.n)).size=10:=by rw [zaX];exact zaW (by omega) (by omega)
 have s4:(mkB (padN l.obj)).size=10:=by rw [zaX];exact zaW (by omega) (by omega)
 have s5:(mkB (padN l.fin)).size=10:=by rw [zaX];exact zaW (by omega) (by omega)
 have s6:(mkB (padN l.pages)).size=10:=by rw [zaX];exact zaW (by omega) (by omega)
 have s7:(mkB (padN l.main)).size=10:=by rw [zaX];exact zaW (by omega) (by omega)
 have hTX:=lin_text2 n l
 unfold TxEnd
 rw [hTX]
 clear l1 l2 l3 l4 l5 l6 l7 l8 l9 l10 l11 l12 l13 h1 h2 hl hTX
 unfold linA
 generalize mkB (decL n.toNat)=N0 at *
 generalize mkB (padN l.len)=Q1 at *
 generalize mkB (padN l.at_)=Q2 at *
 generalize mkB (padN l.n)=Q3 at *
 generalize mkB (padN l.obj)=Q4 at *
 generalize mkB (padN l.fin)=Q5 at *
 generalize mkB (padN l.pages)=Q6 at *
 generalize mkB (padN l.main)=Q7 at *
 obtain ⟨a,b,c,d,e,f,g⟩:=l
 dsimp only at *
 have q0:¬9223372036854775807<N0.size+25:=by omega
 have q1:¬9223372036854775807<N0.size+25+Q1.size:=by omega
 have q2:¬9223372036854775807<N0.size+25+Q1.size+4:=by omega
 have q3:¬9223372036854775807<N0.size+25+Q1.size+4+Q2.size:=by omega
 have q4:¬9223372036854775807<N0.size+25+Q1.size+4+Q2.size+1:=by omega
 have q5:¬9223372036854775807<N0.size+25+Q1.size+4+Q2.size+1+Q3.size:=by omega
 have q6:¬9223372036854775807<N0.size+25+Q1.size+4+Q2.size+1+Q3.size+4:=by omega
 have q7:¬9223372036854775807<N0.size+25+Q1.size+4+Q2.size+1+Q3.size+4+Q4.size:=by omega
 have q8:¬9223372036854775807<N0.size+25+Q1.size+4+Q2.size+1+Q3.size+4+Q4.size+3:=by omega
 have q9:¬9223372036854775807<N0.size+25+Q1.size+4+Q2.size+1+Q3.size+4+Q4.size+3+Q5.size:=by omega
 have q10:¬9223372036854775807<N0.size+25+Q1.size+4+Q2.size+1+Q3.size+4+Q4.size+3+Q5.size+3:=by omega
 have q11:¬9223372036854775807<N0.size+25+Q1.size+4+Q2.size+1+Q3.size+4+Q4.size+3+Q5.size+3+Q6.size:=by omega
 have q12:¬9223372036854775807<N0.size+25+Q1.size+4+Q2.size+1+Q3.size+4+Q4.size+3+Q5.size+3+Q6.size+3:=by omega
 have q13:¬9223372036854775807<N0.size+25+Q1.size+4+Q2.size+1+Q3.size+4+Q4.size+3+Q5.size+3+Q6.size+3+Q7.size:=by omega
 have q14:¬9223372036854775807<N0.size+25+Q1.size+4+Q2.size+1+Q3.size+4+Q4.size+3+Q5.size+3+Q6.size+3+Q7.size+10:=by omega
 clear s0 s1 s2 s3 s4 s5 s6 s7
 go_enter Tryz.func20,Tryz.ntmps20
 go_upto_region 1 with fail
 obtain ⟨r,hr⟩:∃r,r=w.heap.size:=⟨_,rfl⟩
 rw [←hr] at HK ⊢
 clear hr
 generalize w.alloc _=W1 at *
 have k0:=fun q:zcj W1=>zaE (zab q.h HK.out)
 have j0:=fun q=>(k0 q).1
 have j1:=fun q=>(k0 q).2.1
 have j2:=fun q=>(k0 q).2.2.1
 have j3:=fun q=>(k0 q).2.2.2.1
 clear k0
 refine zcd (by kernel_rfl) (by kernel_rfl) ?_
 repeat (go_big_quiet_step (first
   | (go_at_call 31;with_reducible exact Calls.below_of (HNO.out _))
   | (go_at_call_of 32 (Value.int .i64 a);with_reducible exact Calls.below_of (P1.out _))
   | (go_at_call_of 32 (Value.int .i64 b);with_reducible exact Calls.below_of (P2.out _))
   | (go_at_call_of 32 (Value.int .i64 c);with_reducible exact Calls.below_of (P3.out _))
   | (go_at_call_of 32 (Value.int .i64 d);with_reducible exact Calls.below_of (P4.out _))))
 refine wpQuiet_nil ?_
 rintro W2 ⟨⟨_,hb2⟩,rfl⟩
 have HB2:=Lib.hid (HB.out.trans (hb2.mono HB.out.size))
 have HK2:=Lib.hid (zab hb2 HK.out)
 clear hb2 j0 j1 j2 j3 HB HK P1 P2 P3 P4 HNO
 have k0:=fun q:zcj W2=>zaE (zab q.h HK2.out)
 have j4:=fun q=>(k0 q).2.2.2.2.1
 have j5:=fun q=>(k0 q).2.2.2.2.2.1
 have j6:=fun q=>(k0 q).2.2.2.2.2.2
 clear k0
 go_upto_region 2 with fail
 refine zcd (by kernel_rfl) (by kernel_rfl) ?_
 repeat (go_big_quiet_step (first
   | (go_at_call_of 32 (Value.int .i64 e);with_reducible exact Calls.below_of (P5.out _))
   | (go_at_call_of 32 (Value.int .i64 f);with_reducible exact Calls.below_of (P6.out _))
   | (go_at_call_of 32 (Value.int .i64 g);with_reducible exact Calls.below_of (P7.out _))))
 refine wpQuiet_nil ?_
 rintro W3 ⟨⟨_,hb3⟩,rfl⟩
 have HB3:=Lib.hid (HB2.out.trans (hb3.mono HB2.out.size))
 clear hb3
 go_wp2_with fail
 go_ret
 exact ⟨rfl,HB3.out⟩
def pvC (v:PV) (sl:Value):List Value:=[.int .i64 v.kind,.int .i64 v.n,.string (mkB v.s),sl]
def pvA (v:PV) (sl:Value):Value:=.agg #[.int .i64 v.kind,.int .i64 v.n,.string (mkB v.s),sl]
mutual
def IsV (w:World) (F:Nat→Prop):PV→Value→Prop
 | .mk _ _ _ l,sl=>∃a cap cs,sl=.slice a l.length cap∧Row w 4 a l.length cap cs∧(0<l.length→∀x,a=some x→F x.block)∧IsVs w F l cs
def IsVs (w:World) (F:Nat→Prop):List PV→List Value→Prop
 | [],cs=>cs=[]
 | v::l,cs=>∃sl t,cs=pvC v sl++t∧IsV w F v sl∧IsVs w F l t
end
theorem IsV.mk {w:World} {F:Nat→Prop} {v:PV} {a:Option Addr} {cap:Nat} {cs:List Value} (hr:Row w 4 a v.l.length cap cs) (hF:0<v.l.length→∀x,a=some x→F x.block) (h:IsVs w F v.l cs):IsV w F v (.slice a v.l.length cap):=by
 cases v;exact ⟨a,cap,cs,rfl,hr,hF,h⟩
theorem IsV.out {w:World} {F:Nat→Prop} {v:PV} {sl:Value} (h:IsV w F v sl):∃a cap cs,sl=.slice a v.l.length cap∧Row w 4 a v.l.length cap cs∧(0<v.l.length→∀x,a=some x→F x.block)∧IsVs w F v.l cs:=by
 cases v;exact h
theorem IsV.leaf (w:World) (F:Nat→Prop) (v:PV) (h:v.l=[]):IsV w F v (.slice none 0 0):=by
 have:=IsV.mk (w:=w) (F:=F) (v:=v) (a:=none) (cap:=0) (cs:=[]) (by rw [h];exact Row.nil w 4) (by rw [h];intro h;cases h) (by rw [h];rfl)
 rw [h] at this;exact this
theorem IsVs.length {w:World} {F:Nat→Prop}:∀ {l:List PV} {cs:List Value},IsVs w F l cs→cs.length=l.length * 4
 | [],_,h=>by cases h;rfl
 | v::l,_,⟨sl,t,h,_,ht⟩=>by subst h;have:=IsVs.length ht;simp [pvC];omega
def za4 (F:Nat→Prop) (w w':World):Prop:=w.heap.size≤w'.heap.size∧∀b,b<w.heap.size→F b→w'.heap[b]?=w.heap[b]?
theorem Row.stays {F:Nat→Prop} {w w':World} {sz:Nat} {a:Option Addr} {n cap:Nat} {xs:List Value} (h:Row w sz a n cap xs) (hk:za4 F w w') (hne:0<n→∀x,a=some x→F x.block):Row w' sz a n cap xs:=by
 obtain ⟨h1,h2,h3,h4,h5⟩:=h
 refine ⟨h1,h2,h3,h4,fun hn=>?_⟩
 obtain ⟨b,off,ha,hlt,hc⟩:=h5 hn
 refine ⟨b,off,ha,Nat.lt_of_lt_of_le hlt hk.1,fun j u hj=>?_⟩
 rw [World.cell?_of_block (w:=w) (a:=⟨b,off+j,none⟩) (hk.2 b hlt (hne hn _ ha))]
 exact hc j u hj
mutual
theorem IsV.keep {w w':World} {F G:Nat→Prop} (hk:za4 F w w') (hG:∀b,F b→G b):∀(v:PV) {sl:Value},IsV w F v sl→IsV w' G v sl
 | .mk _ _ _ l,_,⟨a,cap,cs,h,hr,hF,hs⟩=>⟨a,cap,cs,h,hr.stays hk hF,fun h0 x hx=>hG _ (hF h0 x hx),IsVs.keep hk hG l hs⟩
theorem IsVs.keep {w w':World} {F G:Nat→Prop} (hk:za4 F w w') (hG:∀b,F b→G b):∀(l:List PV) {cs:List Value},IsVs w F l cs→IsVs w' G l cs
 | [],_,h=>h
 | v::l,_,⟨sl,t,h,hv,ht⟩=>⟨sl,t,h,IsV.keep hk hG v hv,IsVs.keep hk hG l ht⟩
end
theorem za4.refl (F:Nat→Prop) (w:World):za4 F w w:=⟨Nat.le_refl _,fun _ _ _=>rfl⟩
theorem za4.of_below {F:Nat→Prop} {w w':World} (h:Below w.heap.size w w'):za4 F w w':=⟨h.size,fun b hb _=>h.block b hb⟩
theorem za4.of_keeps {F S:Nat→Prop} {w w':World} (h:zak S w w') (hn:∀b,F b→¬S b):za4 F w w':=⟨h.size,fun b hb hF=>h.block b hb (hn b hF)⟩
theorem za4.trans {F:Nat→Prop} {a b c:World} (h:za4 F a b) (k:za4 F b c):za4 F a c:=⟨Nat.le_trans h.1 k.1,fun x hx hF=>(k.2 x (Nat.lt_of_lt_of_le hx h.1) hF).trans (h.2 x hx hF)⟩
theorem IsV.below {w w':World} {F:Nat→Prop} {v:PV} {sl:Value} (h:IsV w F v sl) (hb:Below w.heap.size w w'):IsV w' F v sl:=IsV.keep (za4.of_below hb) (fun _ h=>h) v h
theorem IsVs.below {w w':World} {F:Nat→Prop} {l:List PV} {cs:List Value} (h:IsVs w F l cs) (hb:Below w.heap.size w w'):IsVs w' F l cs:=IsVs.keep (za4.of_below hb) (fun _ h=>h) l h
theorem IsV.weaken {w:World} {F G:Nat→Prop} {v:PV} {sl:Value} (h:IsV w F v sl) (hG:∀b,F b→G b):IsV w G v sl:=IsV.keep (za4.refl F w) hG v h
theorem IsVs.weaken {w:World} {F G:Nat→Prop} {l:List PV} {cs:List Value} (h:IsVs w F l cs) (hG:∀b,F b→G b):IsVs w G l cs:=IsVs.keep (za4.refl F w) hG l h
theorem IsVs.append {w:World} {F:Nat→Prop}:∀ {l m:List PV} {cs ds:List Value},IsVs w F l cs→IsVs w F m ds→IsVs w F (l++m) (cs++ds)
 | [],_,_,_,h,hm=>by cases h;exact hm
 | v::l,_,_,_,⟨sl,t,h,hv,ht⟩,hm=>⟨sl,t++_,by subst h;simp,hv,IsVs.append ht hm⟩
theorem IsVs.one {w:World} {F:Nat→Prop} {v:PV} {sl:Value} (h:IsV w F v sl):IsVs w F [v] (pvC v sl):=⟨sl,[],by simp,h,rfl⟩
theorem IsVs.snoc {w:World} {F:Nat→Prop} {l:List PV} {cs:List Value} {v:PV} {sl:Value} (h:IsVs w F l cs) (hv:IsV w F v sl):IsVs w F (l++[v]) (cs++pvC v sl):=h.append (IsVs.one hv)
theorem IsVs.get {w:World} {F:Nat→Prop}:∀ {l:List PV} {cs:List Value},IsVs w F l cs→∀(k:Nat) (v:PV),l[k]?=some v→∃sl,IsV w F v sl∧cs[k * 4]?=some (.int .i64 v.kind)∧cs[k * 4+1]?=some (.int .i64 v.n)∧cs[k * 4+2]?=some (.string (mkB v.s))∧cs[k * 4+3]?=some sl
 | [],_,_,_,_,hk=>by simp at hk
 | x :: l, _, ⟨sl, t, h, hv, ht⟩, 0, v, hk => by
   simp at hk;subst hk h
   exact ⟨sl,hv,rfl,rfl,rfl,rfl⟩
 | x :: l, _, ⟨sl, t, h, hv, ht⟩, k + 1, v, hk => by
   subst h
   obtain ⟨s2,h1,h2,h3,h4,h5⟩:=ht.get k v (by simpa using hk)
   refine ⟨s2,h1,?_,?_,?_,?_⟩
   · rw [show (k+1) * 4=4+k * 4 by omega,List.getElem?_append_right (by simp [pvC])];simpa [pvC] using h2
   · rw [show (k+1) * 4+1=4+(k * 4+1) by omega,List.getElem?_append_right (by simp [pvC])];simpa [pvC] using h3
   · rw [show (k+1) * 4+2=4+(k * 4+2) by omega,List.getElem?_append_right (by simp [pvC])];simpa [pvC] using h4
   · rw [show (k+1) * 4+3=4+(k * 4+3) by omega,List.getElem?_append_right (by simp [pvC])];simpa [pvC] using h5
theorem IsV.at {w:World} {F:Nat→Prop} {v:PV} {a:Option Addr} {n cap:Nat} (h:IsV w F v (.slice a n cap)) (hn:0<n) :
   n=v.l.length∧n≤cap∧cap≤maxLen∧∃b off,a=some ⟨b,off,none⟩∧b<w.heap.size∧F b∧∀k x,v.l[k]?=some x→∃sl,IsV w F x sl∧w.cell? ⟨b,off+k * 4,none⟩=some (.int .i64 x.kind) ∧
     w.cell? ⟨b,off+k * 4+1,none⟩=some (.int .i64 x.n)∧w.cell? ⟨b,off+k * 4+2,none⟩=some (.string (mkB x.s))∧w.cell? ⟨b,off+k * 4+3,none⟩=some sl:=by
 obtain ⟨a',cap',cs,e,hr,hF,hs⟩:=h.out
 simp only [Value.slice.injEq] at e
 obtain ⟨rfl,rfl,rfl⟩:=e
 obtain ⟨b,off,rfl,hb,hc⟩:=hr.2.2.2.2 hn
 refine ⟨rfl,hr.2.1,hr.2.2.1,b,off,rfl,hb,hF hn _ rfl,fun k x hx=>?_⟩
 obtain ⟨sl,h1,h2,h3,h4,h5⟩:=hs.get k x hx
 exact ⟨sl,h1,hc _ _ h2,(Nat.add_assoc off (k * 4) 1).symm▸hc _ _ h3,(Nat.add_assoc off (k * 4) 2).symm▸hc _ _ h4,(Nat.add_assoc off (k * 4) 3).symm▸hc _ _ h5⟩
theorem IsV.len {w:World} {F:Nat→Prop} {v:PV} {sl:Value} (h:IsV w F v sl):∃a cap,sl=.slice a v.l.length cap∧v.l.length≤cap∧cap≤maxLen∧(a=none→cap=0):=by
 obtain ⟨a,cap,cs,e,hr,_⟩:=h.out
 exact ⟨a,cap,e,hr.2.1,hr.2.2.1,hr.2.2.2.1⟩
theorem zdy:∀a b:List UInt8,Op.bytesLess a b=sLt a b
 | [],[]=>rfl
 | [],_::_=>rfl
 | _::_,[]=>rfl
 | a :: l, b :: m => by
   simp only [Op.bytesLess,sLt]
   rw [zdy l m]
   by_cases h:a.toNat<b.toNat
   · rw [if_pos h]
     have:(a<b):=h
     simp [this]
   · rw [if_neg h]
     have h':¬(a<b):=h
     by_cases h2:b.toNat<a.toNat
     · rw [if_pos h2]
       have:(a==b)=false:=by rw [beq_eq_false_iff_ne];intro e;subst e;omega
       simp [h',this]
     · rw [if_neg h2]
       have:a=b:=UInt8.toNat_inj.1 (by omega)
       subst this
       simp
theorem zaM (l:List UInt8):(mkB l).toList=l:=by unfold mkB;exact ByteArray.toList_eq _
structure Box4 (w:World) (b:Nat) (v:PV) (sl:Value):Prop where
 blk:w.heap[b]?=some (.cells #[.int .i64 v.kind,.int .i64 v.n,.string (mkB v.s),sl] 48 (0,0))
theorem Box4.cells {w:World} {b:Nat} {v:PV} {sl:Value} (h:Box4 w b v sl):w.cell? ⟨b,0,none⟩=some (.int .i64 v.kind)∧w.cell? ⟨b,1,none⟩=some (.int .i64 v.n)∧w.cell? ⟨b,2,none⟩=some (.string (mkB v.s))∧w.cell? ⟨b,3,none⟩=some sl:=by
 refine ⟨?_,?_,?_,?_⟩
 · rw [cell_of_row w b 0 _ _ _ h.blk];rfl
 · rw [cell_of_row w b 1 _ _ _ h.blk];rfl
 · rw [cell_of_row w b 2 _ _ _ h.blk];rfl
 · rw [cell_of_row w b 3 _ _ _ h.blk];rfl
def anyF:Nat→Prop:=fun _=>True
theorem IsV.any {w:World} {F:Nat→Prop} {v:PV} {sl:Value} (h:IsV w F v sl):IsV w anyF v sl:=h.weaken fun _ _=>trivial
end Go.Proofs.YtkhcjoomijkfbaaGreatDoor
namespace Go.Proofs.YtkhcjoomijkfbaaGreatDoor
def fIx (s:List UInt8):List (PV×PV)→Nat
 | []=>0
 | y::l=>if y.1.s=s then 0 else fIx s l+1
theorem fIx_le (s:List UInt8):∀l,fIx s l≤l.length
 | []=>Nat.le_refl _
 | y :: l => by
   have:=fIx_le s l
   unfold fIx
   split
   · exact Nat.zero_le _
   · simp;omega
theorem fIx_has (s:List UInt8):∀l,hasK s l=decide (fIx s l<l.length)
 | []=>by simp [hasK,fIx]
 | y :: l => by
   have h:=fIx_has s l
   unfold fIx
   by_cases e:y.1.s=s
   · rw [if_pos e];simp [hasK,e]
   · rw [if_neg e]
     have:hasK s (y::l)=hasK s l:=by simp [hasK,e]
     rw [this,h];simp
theorem fIx_ne (s:List UInt8):∀(l:List (PV×PV)) (k:Nat) (y:PV×PV),k<fIx s l→l[k]?=some y→y.1.s≠s
 | [],k,y,h,_=>by simp [fIx] at h
 | z :: l, k, y, h, hk => by
   unfold fIx at h
   by_cases e:z.1.s=s
   · rw [if_pos e] at h;omega
   · rw [if_neg e] at h
     cases k with
     | zero=>simp at hk;subst hk;exact e
     | succ k=>exact fIx_ne s l k y (by omega) (by simpa using hk)
theorem fIx_eq (s:List UInt8):∀(l:List (PV×PV)) (y:PV×PV),l[fIx s l]?=some y→y.1.s=s
 | [],y,h=>by simp at h
 | z :: l, y, h => by
   unfold fIx at h
   by_cases e:z.1.s=s
   · rw [if_pos e] at h;simp at h;subst h;exact e
   · rw [if_neg e] at h
     exact fIx_eq s l y (by simpa using h)
theorem flat_at:∀(l:List (PV×PV)) (k:Nat) (y:PV×PV),l[k]?=some y→(zaQ l)[2 * k]?=some y.1∧(zaQ l)[2 * k+1]?=some y.2
 | [],k,y,h=>by simp at h
 | (a,b)::l,0,y,h=>by simp at h;subst h;exact ⟨rfl,rfl⟩
 | (a, b) :: l, k + 1, y, h => by
   have:=flat_at l k y (by simpa using h)
   rw [show 2 * (k+1)+1=2 * k+1+1+1 by omega,show 2 * (k+1)=2 * k+1+1 by omega]
   simpa [zaQ] using this
theorem zcU:∀l:List (PV×PV),(zaQ l).length=2 * l.length
 | []=>rfl
 | (a,b)::l=>by simp [zaQ,zcU l];omega
theorem zdK:∀(a b:List (PV×PV)),zaQ (a++b)=zaQ a++zaQ b
 | [],b=>rfl
 | (x,y)::a,b=>by simp [zaQ,zdK a b]
theorem rep_len (x:PV×PV):∀l,(repK x l).length=l.length
 | []=>rfl
 | y :: l => by
   unfold repK
   split
   · simp
   · simp [rep_len x l]
theorem rep_at (x:PV×PV):∀(l:List (PV×PV)) (k:Nat) (y:PV×PV),l[k]?=some y→(repK x l)[k]?=some (y.1,if k=fIx x.1.s l then x.2 else y.2)
 | [],k,y,h=>by simp at h
 | z :: l, k, y, h => by
   unfold repK fIx
   by_cases e:z.1.s=x.1.s
   · rw [if_pos e,if_pos e]
     cases k with
     | zero=>simp at h;subst h;simp
     | succ k=>simp at h ⊢;exact h
   · rw [if_neg e,if_neg e]
     cases k with
     | zero=>simp at h;subst h;simp
     | succ k =>
       have:=rep_at x l k y (by simpa using h)
       simp only [List.getElem?_cons_succ,this]
       simp
theorem rep_step (x:PV×PV) (l:List (PV×PV)) (k:Nat) (y:PV×PV) (h:l[k]?=some y):zaQ ((repK x l).take (k+1))=zaQ ((repK x l).take k)++[y.1,if k=fIx x.1.s l then x.2 else y.2]:=by
 rw [List.take_add_one,rep_at x l k y h,zdK];rfl
def gIx (s:List UInt8):List (PV×PV)→Nat
 | []=>0
 | y::l=>if sLt s y.1.s=true then 0 else gIx s l+1
theorem gIx_le (s:List UInt8):∀l,gIx s l≤l.length
 | []=>Nat.le_refl _
 | y :: l => by
   have:=gIx_le s l
   unfold gIx
   split
   · exact Nat.zero_le _
   · simp;omega
theorem gIx_no (s:List UInt8):∀(l:List (PV×PV)) (k:Nat) (y:PV×PV),k<gIx s l→l[k]?=some y→sLt s y.1.s=false
 | [],k,y,h,_=>by simp [gIx] at h
 | z :: l, k, y, h, hk => by
   unfold gIx at h
   by_cases e:sLt s z.1.s=true
   · rw [if_pos e] at h;omega
   · rw [if_neg e] at h
     cases k with
     | zero=>simp at hk;subst hk;simpa using e
     | succ k=>exact gIx_no s l k y (by omega) (by simpa using hk)
theorem gIx_yes (s:List UInt8):∀(l:List (PV×PV)) (y:PV×PV),l[gIx s l]?=some y→sLt s y.1.s=true
 | [],y,h=>by simp at h
 | z :: l, y, h => by
   unfold gIx at h
   by_cases e:sLt s z.1.s=true
   · rw [if_pos e] at h;simp at h;subst h;exact e
   · rw [if_neg e] at h
     exact gIx_yes s l y (by simpa using h)
theorem ins_is (x:PV×PV):∀l,insK x l=l.take (gIx x.1.s l)++x::l.drop (gIx x.1.s l)
 | []=>by simp [insK,gIx]
 | y :: l => by
   unfold insK gIx
   by_cases e:sLt x.1.s y.1.s=true
   · rw [if_pos e,if_pos e];rfl
   · rw [if_neg e,if_neg e,ins_is x l];rfl
def insT (x:PV×PV) (l:List (PV×PV)) (k:Nat):List (PV×PV):=if gIx x.1.s l<k then l.take (gIx x.1.s l)++x::(l.take k).drop (gIx x.1.s l) else l.take k
theorem insT_zero (x:PV×PV) (l:List (PV×PV)):insT x l 0=[]:=by unfold insT;rw [if_neg (by omega)];simp
theorem insT_step (x:PV×PV) (l:List (PV×PV)) (k:Nat) (y:PV×PV) (h:l[k]?=some y) (hk:k≠gIx x.1.s l):zaQ (insT x l (k+1))=zaQ (insT x l k)++[y.1,y.2]:=by
 have e:insT x l (k+1)=insT x l k++[y]:=by
   have hkl:k<l.length:=(List.getElem?_eq_some_iff.1 h).1
   unfold insT
   by_cases g:gIx x.1.s l<k
   · rw [if_pos (by omega), if_pos g, List.take_add_one, h]
     simp only [Option.toList_some,List.append_assoc,List.cons_append]
     rw [List.drop_append_of_le_length (by simp;omega)]
   · rw [if_neg (by omega),if_neg g,List.take_add_one,h];rfl
 rw [e,zdK];rfl
theorem insT_here (x:PV×PV) (l:List (PV×PV)) (y:PV×PV) (h:l[gIx x.1.s l]?=some y):zaQ (insT x l (gIx x.1.s l+1))=zaQ (insT x l (gIx x.1.s l))++[x.1,x.2,y.1,y.2]:=by
 have e:insT x l (gIx x.1.s l+1)=insT x l (gIx x.1.s l)++[x,y]:=by
   unfold insT
   have hl:gIx x.1.s l<l.length:=(List.getElem?_eq_some_iff.1 h).1
   rw [if_pos (by omega),if_neg (by omega),List.take_add_one,h]
   rw [List.drop_append_of_le_length (by simp;omega),List.drop_of_length_le (by rw [List.length_take];omega)]
   rfl
 rw [e,zdK];rfl
theorem insT_end (x:PV×PV) (l:List (PV×PV)):insK x l=if gIx x.1.s l<l.length then insT x l l.length else insT x l l.length++[x]:=by
 have:=gIx_le x.1.s l
 rw [ins_is]
 unfold insT
 by_cases g:gIx x.1.s l<l.length
 · rw [if_pos g,if_pos g];simp
 · rw [if_neg g,if_neg g]
   have e:gIx x.1.s l=l.length:=by omega
   rw [e];simp
end Go.Proofs.YtkhcjoomijkfbaaGreatDoor
namespace Go.Proofs.YtkhcjoomijkfbaaGreatDoor
open Go.RowKit
theorem infoBuilder:(Tryz.prog.info? 141).map (·.size)=some 2:=by kernel_rfl
theorem liesBuilder:liesAt Tryz.prog Tryz.prog.depth 171 (5 / Tryz.prog.cellsOf 171) 0 141 1=true:=by kernel_rfl
theorem zcR:ElemT Tryz.prog 24 5 (.int .u8 0) 1 1:=⟨Tryz.underlying24,by kernel_rfl,rfl,by omega⟩
theorem cellsByte:Tryz.prog.cellsOf 5=1:=by kernel_rfl
def Chk (w:World) (S:Nat→Prop) (p:Nat) (X:Src) (out:List UInt8) (k:Nat) (v:Value) (e:Ending) (w':World):Prop :=
 e=.returned (.tuple #[])∧IsSc w' S p X out k (.pointer (some ⟨p,0,none⟩)) v∧zak S w w'∧w'.heap.size=w.heap.size
theorem IsSc.mark {w:World} {S:Nat→Prop} {p:Nat} {X:Src} {out:List UInt8} {k:Nat} {ad v:Value} (h:IsSc w S p X out k ad v) :
   IsSc (w.setCell ⟨p,0,none⟩ (.pointer (some ⟨p,0,none⟩))) S p X out k (.pointer (some ⟨p,0,none⟩)) v:=by
 have hp:=(h.lt p h.own).2
 refine ⟨?_,.inr rfl,ownsRow_setCell_other h.row (a:=⟨p,0,none⟩) (fun e=>by have:=(h.row.lt p e).1;omega) _,h.at_,h.own,fun b hS=>by have:=h.lt b hS;simpa using this,?_,h.srcb,h.le,h.small,h.outl,h.nil_⟩
 · rw [heap_setCell_same _ _ 0 _ _ _ h.blk];rfl
 · exact h.src.keeps (S:=fun b=>b=p) ((zak.refl (fun b=>b=p) w).setCell (a:=⟨p,0,none⟩) (.inl rfl) _) (fun x hx e=>by have:=h.srcb x hx;omega)
set_option maxRecDepth 100000 in
theorem zgm {w:World} {S:Nat→Prop} {p:Nat} {X:Src} {out:List UInt8} {k:Nat} {ad v:Value} (h:IsSc w S p X out k ad v) :
   Calls Tryz.prog 123 #[.pointer (some ⟨p,0,none⟩)] w (Chk w S p X out k v):=by
 obtain ⟨j,hj,hjs⟩:=Option.map_eq_some_iff.1 infoBuilder
 obtain ⟨c0,-⟩:=h.cells
 have hfz:=h.free 0
 have hsh:w.shape? p=some (171,5):=by have:=h.blk;simp [World.shape?,this,scV]
 rcases h.ad_ with rfl|rfl
 · have HM:=Lib.hid h.mark
   have HK:=Lib.hid ((zak.refl S w).setCell (a:=⟨p,0,none⟩) (.inl h.own) (.pointer (some ⟨p,0,none⟩)))
   clear h
   go_enter Tryz.func123,Tryz.ntmps123
   go_wp2
   rw [Lib.run_to_unsafe w ⟨p,0,none⟩ Tryz.underlying139 Tryz.underlying232 hj (by rw [hjs];decide) hsh (Nat.succ_pos 4)]
   simp only [Result.andThen]
   rw [Oper.upon_value]
   go_wp2
   rw [run_callFunc_extern Tryz.func155 (by kernel_rfl) (by kernel_rfl) (by kernel_rfl) (e:=Extern.AbiNoEscape.same) (by kernel_rfl)]
   rw [Lib.run_noEscape]
   simp only [Result.andThen]
   rw [Oper.upon_value]
   go_wp2
   rw [Lib.run_from_unsafe w ⟨p,0,none⟩ Tryz.underlying232 Tryz.underlying139 hj hsh liesBuilder]
   simp only [Result.andThen]
   rw [Oper.upon_value]
   go_wp2
   go_end0
   exact ⟨rfl,HM.out,HK.out,by simp⟩
 · have HM:=Lib.hid h
   clear h
   go_enter Tryz.func123,Tryz.ntmps123
   go_wp2
   rw [Lib.run_neq_ptr_same w _ Tryz.underlying139 hj]
   go_wp2
   go_end0
   exact ⟨rfl,HM.out,zak.refl _ _,rfl⟩
theorem IsSc.put {w w2:World} {S:Nat→Prop} {p:Nat} {X:Src} {out:List UInt8} {k:Nat} {v v':Value} (c:UInt8) (hk:out.length<k) (h:IsSc w S p X out k (.pointer (some ⟨p,0,none⟩)) v) (o:Obj)
   (hr:w2.ownsRow (p+1) 5 1 v' (out.length+1) (out.map u8C++[u8C c])) (hg:(w.alloc o).grownBy w2 v.ownBlock) (hn:NewAt (w.alloc o) v v') :
   zan w S p X (out++[c]) k (w2.setCell ⟨p,1,none⟩ v'):=by
 have hp:=(h.lt p h.own).2
 have hvb:∀b,v.ownBlock=some b→p<b:=fun b hb=>(h.row.lt b hb).1
 have h1:w2.heap[p]?=some (.cells (scV X (.pointer (some ⟨p,0,none⟩)) v k) 171 (0,0)) :=
   (hg.block p (by rw [zas];omega) (fun e=>by have:=hvb p e.symm;omega)).trans ((Below.heap_alloc w o p hp).trans h.blk)
 have hk1:zak S w w2:=((zak.refl S w).alloc o).grown hg (fun k hk=>.inl (h.at_ k hk))
 have hk2:=hk1.setCell (a:=⟨p,1,none⟩) (.inl h.own) v'
 have hsz:=hk2.size
 refine ⟨fun b=>S b∨(p≤b∧w.heap.size≤b∧b<(w2.setCell ⟨p,1,none⟩ v').heap.size),⟨.pointer (some ⟨p,0,none⟩),v',⟨?_,.inr rfl,?_,fun b hb=>?_,.inl h.own,fun b hb=>?_,?_,h.srcb,h.le,h.small,by simp;omega,fun e=>by simp at e⟩⟩,hk2,fun b hb=>?_⟩
 · rw [heap_setCell_same _ _ 1 _ _ _ h1];rfl
 · have := ownsRow_setCell_other hr (a := ⟨p, 1, none⟩) (fun e => by have := (hr.lt p e).1; omega) v'
   simpa using this
 · have hlt:=(hr.lt b hb)
   rcases hn b hb with h2|h2
   · exact .inl (h.at_ b h2)
   · rw [zas] at h2
     exact .inr ⟨by omega,by omega,by simpa using hlt.2⟩
 · rcases hb with hb|hb
   · have:=h.lt b hb;omega
   · exact ⟨hb.1,hb.2.2⟩
 · exact h.src.keeps hk2 (fun x hx e=>by have h1:=h.srcb x hx;have h2:=(h.lt x.block e).1;omega)
 · rcases hb with hb|hb
   · exact .inl hb
   · exact .inr hb.2.1
set_option maxRecDepth 100000 in
theorem zaU {w:World} {S:Nat→Prop} {p:Nat} {X:Src} {out:List UInt8} {k:Nat} (h:ScQ w S p X out k) (c:UInt8) (x:Int) (hx:x=(c.toNat:Int)) (hk:out.length<k) :
   Calls Tryz.prog 173 #[.pointer (some ⟨p,0,none⟩),.int .u8 x] w fun e w'=>e=.returned .nilIface∧zan w S p X (out++[c]) k w':=by
 obtain ⟨ad,v,h⟩:=h
 have HC:=Lib.hid (zgm h)
 unfold Chk at HC
 have hXC:Value.int .u8 x=u8C c:=by rw [hx];rfl
 have HX:=Lib.hid hXC
 have hsm:=h.small
 have hle:=h.le
 have hol:=h.outl
 clear h hx hXC
 go_enter Tryz.func173,Tryz.ntmps173
 go_wp2_with fail
 refine HC.out.mono ?_
 rintro e w1 ⟨rfl,h1,hk1,hs1⟩
 have H1:=Lib.hid h1
 have HK1:=Lib.hid hk1
 have HS1:=Lib.hid hs1
 obtain ⟨-,c1,-⟩:=h1.cells
 have hf1:=h1.free 1
 have hp1:=(h1.lt p h1.own).2
 clear h1 hk1 hs1
 go_wp2_with (at_builtin;refine zeS zcR rfl (.tmp 11) (.tmp 13) rfl (p+1) _ out.length _ rfl (H1.out.row.alloc _) _ 1 _ _ rfl (zbo _ _ _) (zbH rfl) (by unfold maxLen;omega) (by omega) (by rw [zas];omega) ?_;intro v' w2 hO2 hg2 hn2;obtain ⟨a',cap',hv',-⟩:=Row.of_owns hO2;subst hv';rw [HX.out] at hO2;have HN:=Lib.hid (H1.out.put c hk _ hO2 hg2 hn2);have hp2:p<w2.heap.size:=(by have:=hg2.size;rw [zas] at this;omega);have hfz2:w2.frozen? ⟨p,1,none⟩=false:=(frozen_of_row w2 p 1 _ _ ((hg2.block p (by rw [zas];omega) (fun e=>by have:=(H1.out.row.lt p e.symm).1;omega)).trans ((Below.heap_alloc w1 _ p hp1).trans H1.out.blk)));have hc2:w2.cell? ⟨p,1,none⟩=some v:=((cell_of_row w2 p 1 _ _ _ ((hg2.block p (by rw [zas];omega) (fun e=>by have:=(H1.out.row.lt p e.symm).1;omega)).trans ((Below.heap_alloc w1 _ p hp1).trans H1.out.blk))).trans rfl);clear hO2 hg2 hn2)
 go_ret
 exact ⟨rfl,zan.trans HK1.out (fun b hb=>.inl hb) HN.out⟩
theorem zeh {S:Nat→Prop} {w:World} {a:Addr} (h:S a.block) (n:Nat):zak S w (w.freeze a n):=by
 unfold World.freeze
 split
 · exact zak.refl _ _
 · exact ⟨rfl, rfl, rfl, by simp, fun b _ hn => by
     simp only [Array.getElem?_modify]
     rw [if_neg (fun e:a.block=b=>hn (e▸h))]⟩
set_option maxRecDepth 100000 in
theorem zdY {w:World} {S:Nat→Prop} {p:Nat} {X:Src} {out:List UInt8} {k:Nat} (h:ScQ w S p X out k) :
   Calls Tryz.prog 84 #[.pointer (some ⟨p,0,none⟩)] w fun e w'=>e=.returned (.string (mkB out))∧zak S w w'∧w'.heap[p]?=w.heap[p]?:=by
 obtain ⟨ad,v,h⟩:=h
 obtain ⟨-,c1,-⟩:=h.cells
 by_cases h0:out=[]
 · have hv:=h.nil_ h0
   subst h0
   subst hv
   have hUS:=fun (W:World) (q:Option Addr)=>Lib.run_unsafeString_none (P:=Tryz.prog) W 197 3 9 q
   have c1':w.drew.cell? ⟨p,1,none⟩=some (.slice none 0 0):=c1
   have hSD:(Builtin.unsafeSliceData_ #[24] 197 #[.slice none 0 0]).run Tryz.prog w.drew=.ok (.pointer none) w.drew:=rfl
   have HK:=Lib.hid (show zak S w w.drew∧w.drew.heap[p]?=w.heap[p]? from ⟨(zak.refl S w).drewN 1,rfl⟩)
   clear h
   go_enter Tryz.func84,Tryz.ntmps84
   go_wp2
   go_region
   all_goals
     go_wp2
     go_ret
     exact ⟨rfl,HK.out⟩
 · have hl0 : out.length ≠ 0 := by simpa using h0
   obtain ⟨g,cap,cur,rfl,hbg,hg,hnc,hcm,hcs,htake⟩:∃g cap cur,v=.slice (some ⟨g,0,none⟩) out.length cap∧p+1≤g∧w.heap[g]?=some (.cells cur 5 (0,0))∧out.length≤cap∧cap≤maxLen∧cur.size=cap * 1∧cur.toList.take (out.length * 1)=out.map u8C:=by
     rcases h.row.2 with ⟨_,hz⟩|⟨g,cap,cur,hv,r⟩
     · exact absurd hz hl0
     · exact ⟨g,cap,cur,hv,r⟩
   have c1':w.drew.cell? ⟨p,1,none⟩=some (.slice (some ⟨g,0,none⟩) out.length cap):=c1
   have hSD:(Builtin.unsafeSliceData_ #[24] 197 #[.slice (some ⟨g,0,none⟩) out.length cap]).run Tryz.prog w.drew=.ok (.pointer (some ⟨g,0,none⟩)) w.drew :=
     Lib.run_unsafeSliceData_row _ _ _ _ _ _ (by omega)
   have hUS:(Builtin.unsafeString_ #[197,3] 9 #[.pointer (some ⟨g,0,none⟩),.int .i64 out.length]).run Tryz.prog w.drew=.ok (.string ⟨out.toArray⟩) (w.drew.freeze ⟨g,0,none⟩ out.length):=by
     refine Lib.run_unsafeString_row w.drew 197 3 9 5 Tryz.underlying197 cellsByte g cur.size (by have hg':w.drew.heap[g]?=some (.cells cur 5 (0,0)):=hg;simp [World.shape?,hg']) out h0 (by omega) (by unfold maxLen at hcm;omega) ?_
     intro j x hx
     exact h.row.cells (g:=g) rfl j (u8C x) (by simp [hx])
   have HK:=Lib.hid (show zak S w (w.drew.freeze ⟨g,0,none⟩ out.length)∧(w.drew.freeze ⟨g,0,none⟩ out.length).heap[p]?=w.heap[p]? from ⟨zak.trans ((zak.refl S w).drewN 1) (zeh (S:=S) (h.at_ g rfl) _) (fun _ hx=>.inl hx),((zeh (S:=fun b=>b=g) (w:=w.drew) (a:=⟨g,0,none⟩) rfl out.length).block p (h.lt p h.own).2 (fun e=>by omega)).trans rfl⟩)
   clear h htake hcs hg
   go_enter Tryz.func84,Tryz.ntmps84
   go_wp2
   go_region
   all_goals
     go_wp2
     go_ret
     exact ⟨rfl,HK.out⟩
def zea (w:World) (S:Nat→Prop) (p:Nat) (X:Src) (V:Option (List UInt8×Nat)) (e:Ending) (w':World):Prop :=
 match V with
 | none=>e=.returned (.bool false)∧∃out k,zan w S p X out k w'
 | some (out,k)=>e=.returned (.bool true)∧zan w S p X out k w'
theorem zaw {l:List UInt8} {k:Nat} (h:k<l.length):l.drop k=l.getD k 0::l.drop (k+1):=by rw [List.drop_eq_getElem_cons h];simp [List.getD,h]
theorem za9 {l:List UInt8} {k:Nat} (h:¬k<l.length):l.drop k=[]:=List.drop_of_length_le (by omega)
theorem zan.drew {w:World} {S:Nat→Prop} {p:Nat} {X:Src} {out:List UInt8} {k:Nat} (q:Nat) {w':World} (h:zan (w.drewN q) S p X out k w'):zan w S p X out k w' :=
 zan.trans ((zak.refl S w).drewN q) (fun _ h=>.inl h) h
theorem line_any {w:World} {S:Nat→Prop} {p:Nat} {X:Src} {out:List UInt8} {k:Nat} (h:ScQ w S p X out k) :
   Calls Tryz.prog 172 #[.pointer (some ⟨p,0,none⟩),.int .u8 13] w (zea w S p X ((zdI X.last (X.bs.drop k)).map fun j=>(out,k+j))):=by
 have hP:=zcL h
 obtain ⟨V,hV⟩:∃V,V=(zdI X.last (X.bs.drop k)).map fun j=>(out,k+j):=⟨_,rfl⟩
 rw [←hV]
 unfold zes at hP
 by_cases hk:k<X.bs.length
 · rw [if_pos hk] at hP
   rw [zaw hk] at hV
   simp only [zdI,Option.map_some] at hV
   have HQ:=Lib.hid h
   have HP:=Lib.hid hP
   have hsm:X.bs.length≤400000:=by obtain ⟨_,_,h⟩:=h;exact h.small
   unfold u8C at HP
   by_cases h10:X.bs.getD k 0=10
   · rw [if_pos h10] at hV
     have HV:=Lib.hid hV
     rw [h10] at HP
     clear hV hP h h10
     go_enter Tryz.func172,Tryz.ntmps172
     go_wp2_with fail
     refine HP.out.mono ?_
     rintro e w1 ⟨rfl,q,rfl⟩
     have h1:=HQ.out.drewN q
     obtain ⟨ad,v,h1⟩:=h1
     obtain ⟨-,-,-,c3,-⟩:=h1.cells
     have f3:=h1.free 3
     have HM:=Lib.hid (zan.drew q (h1.move (k+1) (by omega) (by omega)))
     clear h1
     go_wp2
     go_ret
     rw [HV.out]
     exact ⟨rfl,HM.out⟩
   · rw [if_neg h10] at hV
     have HV:=Lib.hid hV
     have h10d:(((X.bs.getD k 0).toNat:Int)==10)=false:=by
       rw [beq_eq_false_iff_ne];intro e;exact h10 (UInt8.toNat_inj.1 (Int.ofNat_inj.1 e))
     generalize (X.bs.getD k 0).toNat=x at *
     clear hV hP h h10
     go_enter Tryz.func172,Tryz.ntmps172
     go_wp2_with fail
     refine HP.out.mono ?_
     rintro e w1 ⟨rfl,q,rfl⟩
     have HN:=Lib.hid (zan.drew q (zan.refl (HQ.out.drewN q)))
     go_wp2
     go_ret
     rw [HV.out]
     exact ⟨rfl,HN.out⟩
 · rw [if_neg hk] at hP
   rw [za9 hk] at hV
   simp only [zdI] at hV
   have HV:=Lib.hid hV
   have HQ:=Lib.hid h
   have HP:=Lib.hid hP
   clear hV hP h hk
   obtain ⟨l,hl⟩:∃l,X.last=l:=⟨_,rfl⟩
   rw [hl] at HV
   have HL:=Lib.hid hl
   clear hl
   cases l
   all_goals
     go_enter Tryz.func172,Tryz.ntmps172
     go_wp2_with fail
     refine HP.out.mono ?_
     rintro e w1 ⟨rfl,q,rfl⟩
     have h1:=HQ.out.drewN q
     have HN:=Lib.hid (zan.drew q (zan.refl h1))
     obtain ⟨ad,v,h1⟩:=h1
     obtain ⟨-,-,-,-,c4⟩:=h1.cells
     rw [HL.out] at c4
     clear h1
     go_wp2
     go_ret
     rw [HV.out]
   · exact ⟨rfl,_,_,HN.out⟩
   · exact ⟨rfl,HN.out⟩
def zcA (last:Bool):Nat→Nat→List UInt8→Option (Nat×Nat)
 | 0,N,_=>some (N,0)
 | _+1,N,[]=>if last then some (N,0) else none
 | m+1,N,d::t=>if isOc d=true then (zcA last m (8 * N+(d.toNat-48)) t).map (fun x=>(x.1,x.2+1)) else some (N,0)
theorem octV_go (last : Bool) (c : UInt8) (l : List UInt8) : octV last c l = (zcA last 2 (c.toNat - 48) l).map fun x => (x.1, x.2 + 1) := by
 cases l with
 | nil=>cases last<;>rfl
 | cons d t =>
   by_cases hd:isOc d=true
   · cases t with
     | nil=>cases last<;>simp [octV,zcA,hd]
     | cons e u =>
       by_cases he:isOc e=true
       · simp [octV,zcA,hd,he]
       · simp [octV,zcA,hd,he]
   · simp [octV,zcA,hd]
theorem zb3 {c:UInt8}:isOc c=true↔48≤c.toNat∧c.toNat≤55:=by unfold isOc;simp
theorem zdG (N:Nat):IntKind.u8.wrap (N:Int)=((UInt8.ofNat N).toNat:Int):=by rw [IntKind.wrap_u8,UInt8.toNat_ofNat'];omega
theorem zgf {w w1 w2:World} {S S1:Nat→Prop} {p:Nat} {X:Src} {o2:List UInt8} {k2:Nat} (hk:zak S w w1) (hs:∀b,S1 b→S b∨w.heap.size≤b) (hN:zan w1 S1 p X o2 k2 w2) (V:Option (List UInt8×Nat)) (hV:V=some (o2,k2)) :
   zea w S p X V (.returned (.bool true)) w2:=by
 subst hV
 exact ⟨rfl,zan.trans hk hs hN⟩
theorem octal_any {w:World} {S:Nat→Prop} {p:Nat} {X:Src} {out:List UInt8} {k:Nat} (h:ScQ w S p X out k) (c:UInt8) (hc:isOc c=true) (hk:out.length<k) :
   Calls Tryz.prog 205 #[.pointer (some ⟨p,0,none⟩),.int .u8 c.toNat] w (zea w S p X ((zcA X.last 2 (c.toNat-48) (X.bs.drop k)).map fun x=>(out++[UInt8.ofNat x.1],k+x.2))):=by
 obtain ⟨V,hV⟩:∃V,V=(zcA X.last 2 (c.toNat-48) (X.bs.drop k)).map fun x=>(out++[UInt8.ofNat x.1],k+x.2):=⟨_,rfl⟩
 rw [←hV]
 have hc2:=zb3.1 hc
 have HV:=Lib.hid hV
 have HN:=Lib.hid (zan.refl h)
 have hsm:X.bs.length≤400000:=by obtain ⟨_,_,h⟩:=h;exact h.small
 obtain ⟨n0,hn0⟩:∃n0,n0=c.toNat-48:=⟨_,rfl⟩
 have hci:(c.toNat:Int)=(n0:Int)+48:=by omega
 have hn7:n0≤7:=by omega
 rw [←hn0] at HV
 rw [hci]
 clear hV h hc hc2 hn0 hci
 go_enter Tryz.func205,Tryz.ntmps205
 go_wp2
 go_loopw [5,6] (fun n i wr=>∃(j N k':Nat),j≤2∧n=.int .i64 N∧i=.int .i64 j∧N+1≤8 ^ (j+1)∧k≤k'∧Hid (zan w S p X out k' wr)∧Hid (V=(zcA X.last (2-j) N (X.bs.drop k')).map fun x=>(out++[UInt8.ofNat x.1],k'+x.2))) (fun _ i _=>2-(intOf i).toNat)
 case atStart=>exact ⟨0,n0,k,by omega,by go_num,rfl,by omega,Nat.le_refl _,HN,HV⟩
 case round =>
   obtain ⟨j,N,k',hj,rfl,rfl,hN,hkk,HS,HG⟩:=hrel
   obtain ⟨S1,hq1,hk1,hs1⟩:=HS.out
   have HQ1:=Lib.hid hq1
   have HK1:=Lib.hid hk1
   have HS1:=Lib.hid hs1
   have hP:=zcL hq1
   unfold zes u8C at hP
   have hN5:N≤511:=by
     have:j=0∨j=1∨j=2:=by omega
     rcases this with rfl|rfl|rfl<;>omega
   have HWB:=Lib.hid (fun (q:Nat) (x:Int) (hx:x=((UInt8.ofNat N).toNat:Int))=>zaU (hq1.drewN q) (UInt8.ofNat N) x hx (by omega))
   have HWB0:=Lib.hid (fun (x:Int) (hx:x=((UInt8.ofNat N).toNat:Int))=>zaU hq1 (UInt8.ofNat N) x hx (by omega))
   clear hq1 hk1 hs1
   by_cases hj2:j<2
   · obtain ⟨m, hm⟩ : ∃ m, 2 - j = m + 1 := ⟨1 - j, by omega⟩
     have hg:=HG.out
     rw [hm] at hg
     have HM:=Lib.hid hm
     have hjd:decide ((j:Int)<2)=true:=by simp;omega
     clear hm
     by_cases hk2:k'<X.bs.length
     · rw [if_pos hk2] at hP
       rw [zaw hk2,zcA] at hg
       by_cases hd:isOc (X.bs.getD k' 0)=true
       · have hd2:=zb3.1 hd
         rw [if_pos hd] at hg
         have HP:=Lib.hid hP
         have HG2:=Lib.hid hg
         obtain ⟨d,hd3⟩:∃d,d=(X.bs.getD k' 0).toNat-48:=⟨_,rfl⟩
         have hdi:((X.bs.getD k' 0).toNat:Int)=(d:Int)+48:=by omega
         have hd7:d≤7:=by omega
         rw [hdi] at HP
         rw [←hd3] at HG2
         clear hg hP hd hd2 hd3 hdi
         go_wp2_with fail
         refine HP.out.mono ?_
         rintro e w1 ⟨rfl,q,rfl⟩
         have h1:=HQ1.out.drewN q
         obtain ⟨ad,v,h1⟩:=h1
         obtain ⟨-,-,-,c3,-⟩:=h1.cells
         have f3:=h1.free 3
         have HM3:=Lib.hid (zan.trans HK1.out HS1.out (zan.drew q (h1.move (k'+1) (by omega) (by omega))))
         clear h1
         go_wp2
         go_roundw
         case rel =>
           refine ⟨j+1,8 * N+d,k'+1,by omega,by go_num,by go_num,by rw [Nat.pow_succ];omega,by omega,HM3,Lib.hid ?_⟩
           rw [HG2.out,show 2-(j+1)=m from by have:=HM.out;omega,Option.map_map]
           congr 1
           funext x
           simp only [Function.comp]
           rw [show k'+1+x.2=k'+(x.2+1) from by omega]
         case measure=>simp [intOf];omega
       · rw [if_neg hd] at hg
         simp only [Option.map_some] at hg
         have HG2:=Lib.hid hg
         have HP:=Lib.hid hP
         have hd2:¬(48≤(X.bs.getD k' 0).toNat∧(X.bs.getD k' 0).toNat≤55):=fun e=>hd (zb3.2 e)
         generalize (X.bs.getD k' 0).toNat=x at *
         by_cases hx:(x:Int)<48
         · have hxd : decide ((x : Int) < 48) = true := by simpa using hx
           clear hg hP hd hd2
           go_wp2_with fail
           refine HP.out.mono ?_
           rintro e w1 ⟨rfl,q,rfl⟩
           go_wp2_with fail
           refine (HWB.out q _ (zdG N)).mono ?_
           rintro e w2 ⟨rfl,hn2⟩
           have HN2:=Lib.hid hn2
           clear hn2
           go_wp2
           go_ret
           exact zgf ((HK1.out).drewN q) HS1.out HN2.out _ HG2.out
         · have hxd : decide ((x : Int) < 48) = false := by simpa using hx
           have hx2:decide ((55:Int)<x)=true:=by simp;omega
           clear hg hP hd hd2 hx
           go_wp2_with fail
           refine HP.out.mono ?_
           rintro e w1 ⟨rfl,q,rfl⟩
           go_wp2_with fail
           refine (HWB.out q _ (zdG N)).mono ?_
           rintro e w2 ⟨rfl,hn2⟩
           have HN2:=Lib.hid hn2
           clear hn2
           go_wp2
           go_ret
           exact zgf ((HK1.out).drewN q) HS1.out HN2.out _ HG2.out
     · rw [if_neg hk2] at hP
       rw [za9 hk2,zcA] at hg
       have HP:=Lib.hid hP
       have hlast:=fun (q:Nat)=>(let ⟨ad,v,h⟩:=HQ1.out.drewN q;h.cells.2.2.2.2)
       obtain ⟨l,hl⟩:∃l,X.last=l:=⟨_,rfl⟩
       rw [hl] at hg hlast
       have HL:=Lib.hid hlast
       have HG2:=Lib.hid hg
       clear hg hP hl hlast hk2
       cases l
       · go_wp2_with fail
         refine HP.out.mono ?_
         rintro e w1 ⟨rfl,q,rfl⟩
         have c4:=HL.out q
         have HN2:=Lib.hid (zan.trans HK1.out HS1.out (zan.drew q (zan.refl (HQ1.out.drewN q))))
         go_wp2
         go_ret
         rw [HG2.out]
         exact ⟨rfl,_,_,HN2.out⟩
       · go_wp2_with fail
         refine HP.out.mono ?_
         rintro e w1 ⟨rfl,q,rfl⟩
         have c4:=HL.out q
         go_wp2_with fail
         refine (HWB.out q _ (zdG N)).mono ?_
         rintro e w2 ⟨rfl,hn2⟩
         have HN2:=Lib.hid hn2
         clear hn2
         go_wp2
         go_ret
         exact zgf ((HK1.out).drewN q) HS1.out HN2.out _ HG2.out
   · obtain rfl : j = 2 := by omega
     have hg:=HG.out
     rw [Nat.sub_self,zcA,Option.map_some] at hg
     have HG2:=Lib.hid hg
     clear hg hP
     go_wp2_with fail
     refine (HWB0.out _ (zdG N)).mono ?_
     rintro e w2 ⟨rfl,hn2⟩
     have HN2:=Lib.hid hn2
     clear hn2
     go_wp2
     go_ret
     exact zgf HK1.out HS1.out HN2.out _ HG2.out
def zcm (X:Src) (out:List UInt8) (k:Nat):Option (List UInt8×Nat):=(escV X.last (X.bs.drop k)).map fun x=>(out++x.1,k+x.2)
theorem esc_idx (c:UInt8):(Lib.indexByte [110,114,116,98,102] c=-1∧c≠110∧c≠114∧c≠116∧c≠98∧c≠102)∨(c=110∨c=114∨c=116∨c=98∨c=102):=by
 by_cases h:Lib.indexByte [110,114,116,98,102] c=-1
 · have:=zdz _ _ h
   simp at this
   exact .inl ⟨h,this⟩
 · have hg:=Lib.indexByte_ge [110,114,116,98,102] c
   obtain ⟨i,hi⟩:=Int.eq_ofNat_of_zero_le (show 0≤Lib.indexByte [110,114,116,98,102] c by omega)
   obtain ⟨a,t,e,-,-⟩:=zdo _ _ _ hi
   have hm:c∈([110,114,116,98,102]:List UInt8):=by rw [e];simp
   simp at hm
   exact .inr hm
theorem escStep_of {X : Src} {out : List UInt8} {k : Nat} (hk : k < X.bs.length) (r : Option (List UInt8 × Nat)) (h : escV X.last (X.bs.getD k 0 :: X.bs.drop (k + 1)) = r) : zcm X out k = r.map fun x => (out ++ x.1, k + x.2) := by
 unfold zcm;rw [zaw hk,h]
theorem zet (last:Bool) (c:UInt8) (t:List UInt8) (n1:c≠110) (n2:c≠114) (n3:c≠116) (n4:c≠98) (n5:c≠102):escV last (c::t) =
   if isOc c=true then (octV last c t).map (fun x=>([UInt8.ofNat x.1],x.2)) else if c=10 then some ([],1) else if c=13 then (zdI last t).map (fun k=>([],k+1)) else some ([c],1):=by
 simp only [escV]
 rw [if_neg n1,if_neg n2,if_neg n3,if_neg n4,if_neg n5]
theorem step_none {w w2:World} {S:Nat→Prop} {p:Nat} {X:Src} {V:Option (List UInt8×Nat)} (hV:V=none) (h:∃out k,zan w S p X out k w2):zea w S p X V (.returned (.bool false)) w2:=by
 subst hV;exact ⟨rfl,h⟩
theorem zbx {w w2:World} {S:Nat→Prop} {p:Nat} {X:Src} {V:Option (List UInt8×Nat)} {o2:List UInt8} {k2:Nat} (hV:V=some (o2,k2)) (h:zan w S p X o2 k2 w2):zea w S p X V (.returned (.bool true)) w2:=by
 subst hV;exact ⟨rfl,h⟩
theorem line_other (a : Value) (x : Int) (hx : (x != 13) = true) (w : World) : Calls Tryz.prog 172 #[a, .int .u8 x] w fun e w' => e = .returned (.bool true) ∧ w = w' := by
 go_enter Tryz.func172,Tryz.ntmps172
 go_wp2
 go_ret
 exact ⟨rfl,rfl⟩
theorem escape_any {w:World} {S:Nat→Prop} {p:Nat} {X:Src} {out:List UInt8} {k:Nat} (h:ScQ w S p X out k) (hok:out.length≤k) :
   Calls Tryz.prog 171 #[.pointer (some ⟨p,0,none⟩)] w (zea w S p X (zcm X out k)):=by
 obtain ⟨V,hV⟩:∃V,V=zcm X out k:=⟨_,rfl⟩
 rw [←hV]
 have hP:=zcL h
 unfold zes u8C at hP
 have hsm:X.bs.length≤400000:=by obtain ⟨_,_,h⟩:=h;exact h.small
 by_cases hk:k<X.bs.length
 case neg =>
   rw [if_neg hk] at hP
   have HP:=Lib.hid hP
   have HL:=Lib.hid (show V=none by rw [hV];unfold zcm;rw [za9 hk];rfl)
   have HQ:=Lib.hid h
   clear hV hP h hk
   go_enter Tryz.func171,Tryz.ntmps171
   go_wp2_with fail
   refine HP.out.mono ?_
   rintro e w1 ⟨rfl,q,rfl⟩
   have HN2:=Lib.hid (zan.drew q (zan.refl (HQ.out.drewN q)))
   go_wp2
   go_ret
   rw [HL.out]
   exact ⟨rfl,_,_,HN2.out⟩
 rw [if_pos hk] at hP
 have HMV:=Lib.hid (fun q=>(let ⟨_,_,h1⟩:=h.drewN q;h1.move (k+1) (by omega) (by omega)))
 have HC3:=Lib.hid (fun q=>(let ⟨_,_,h1⟩:=h.drewN q;(And.intro h1.cells.2.2.2.1 (h1.free 3))))
 have hSI:=fun (c:UInt8) W=>sidx2_any ⟨#[110,114,116,98,102]⟩ (c.toNat:Int) W
 have hSI2 : ∀ (c : UInt8) W, Calls Tryz.prog 158 #[.string ⟨#[110, 114, 116, 98, 102]⟩, .int .u8 c.toNat] W fun e w' => e = .returned (.int .i64 (Lib.indexByte [110, 114, 116, 98, 102] c)) ∧ W = w' := fun c W => by
   have:=hSI c W;rw [u8_back] at this;exact this
 have hE:=fun r hr=>hV.trans (escStep_of (X:=X) (out:=out) (k:=k) hk r hr)
 obtain ⟨c,hc⟩:∃c,c=X.bs.getD k 0:=⟨_,rfl⟩
 rw [←hc] at hP hE
 clear hSI hV hc
 rcases esc_idx c with ⟨hix,n1,n2,n3,n4,n5⟩|hlit
 · have hIX:=hSI2 c
   rw [hix] at hIX
   have HIX:=Lib.hid hIX
   have HP:=Lib.hid hP
   clear hIX hSI2 hP
   by_cases hoc:isOc c=true
   · have HV := Lib.hid (hE _ (show escV X.last (c :: X.bs.drop (k + 1)) = (octV X.last c (X.bs.drop (k + 1))).map fun x => ([UInt8.ofNat x.1], x.2) by
       rw [zet _ _ _ n1 n2 n3 n4 n5,if_pos hoc]))
     have hoc2:=zb3.1 hoc
     have h48:decide ((48:Int)≤c.toNat)=true:=by simp;omega
     have h55:decide ((c.toNat:Int)≤55)=true:=by simp;omega
     clear hE n1 n2 n3 n4 n5 hix hoc2
     go_enter Tryz.func171,Tryz.ntmps171
     go_wp2_with fail
     refine HP.out.mono ?_
     rintro e w1 ⟨rfl,q,rfl⟩
     obtain ⟨c3,f3⟩:=HC3.out q
     obtain ⟨S1,q1,k1,s1⟩:=HMV.out q
     have HQ1:=Lib.hid q1
     have HK1:=Lib.hid (zak.trans ((zak.refl S w).drewN q) k1 (fun _ h=>.inl h))
     have HS1:=Lib.hid s1
     clear q1 k1 s1
     go_wp2_with fail
     refine (HIX.out _).mono ?_
     rintro e w2 ⟨rfl,rfl⟩
     rw [show ((k:Int)+1)=((k+1:Nat):Int) from rfl]
     generalize (w.drewN q).setCell ⟨p,3,none⟩ (.int .i64 ((k+1:Nat):Int))=w2 at *
     clear c3 f3
     have HO:=Lib.hid (octal_any HQ1.out c hoc (by omega))
     go_wp2_with fail
     refine HO.out.mono ?_
     rintro e w3 hstep
     have HST:=Lib.hid hstep
     clear hstep
     have HG := Lib.hid (show V = (zcA X.last 2 (c.toNat - 48) (X.bs.drop (k + 1))).map fun x => (out ++ [UInt8.ofNat x.1], k + 1 + x.2) by
       rw [HV.out,octV_go,Option.map_map,Option.map_map]
       congr 1
       funext x
       simp only [Function.comp]
       rw [show k+(x.2+1)=k+1+x.2 from by omega])
     rw [←HG.out] at HST
     cases hVV:V with
     | none =>
       rw [hVV] at HST
       obtain ⟨rfl,o2,k2,hn⟩:=HST.out
       have HN:=Lib.hid hn
       clear HST hn
       go_wp2
       go_ret
       exact step_none hVV ⟨o2,k2,zan.trans HK1.out HS1.out HN.out⟩
     | some ok =>
       obtain ⟨o2,k2⟩:=ok
       rw [hVV] at HST
       obtain ⟨rfl,hn⟩:=HST.out
       have HN:=Lib.hid hn
       clear HST hn
       go_wp2
       go_ret
       exact zbx hVV (zan.trans HK1.out HS1.out HN.out)
   · have hoc2 : ¬ (48 ≤ c.toNat ∧ c.toNat ≤ 55) := fun e => hoc (zb3.2 e)
     by_cases h10:c=10
     · subst h10
       have HV:=Lib.hid (show V=some (out++[],k+1) from hE _ (show escV X.last (10::X.bs.drop (k+1))=some ([],1) from rfl))
       clear hE n1 n2 n3 n4 n5 hix hoc hoc2
       go_enter Tryz.func171,Tryz.ntmps171
       go_wp2_with fail
       refine HP.out.mono ?_
       rintro e w1 ⟨rfl,q,rfl⟩
       obtain ⟨c3,f3⟩:=HC3.out q
       obtain ⟨S1,q1,k1,s1⟩:=HMV.out q
       have HQ1:=Lib.hid q1
       have HK1:=Lib.hid (zak.trans ((zak.refl S w).drewN q) k1 (fun _ h=>.inl h))
       have HS1:=Lib.hid s1
       clear q1 k1 s1
       go_wp2_with fail
       refine (HIX.out _).mono ?_
       rintro e w2 ⟨rfl,rfl⟩
       rw [show ((k:Int)+1)=((k+1:Nat):Int) from rfl]
       generalize (w.drewN q).setCell ⟨p,3,none⟩ (.int .i64 ((k+1:Nat):Int))=w2 at *
       clear c3 f3
       go_wp2_with (go_at_call 172;refine (line_other _ _ rfl _).mono ?_;rintro e w3 ⟨rfl,rfl⟩)
       go_ret
       exact zbx (by rw [HV.out,List.append_nil]) (zan.trans HK1.out HS1.out (zan.refl HQ1.out))
     · by_cases h13:c=13
       · subst h13
         have HV:=Lib.hid (hE _ (show escV X.last (13::X.bs.drop (k+1))=(zdI X.last (X.bs.drop (k+1))).map fun j=>([],j+1) from rfl))
         clear hE n1 n2 n3 n4 n5 hix hoc hoc2 h10
         go_enter Tryz.func171,Tryz.ntmps171
         go_wp2_with fail
         refine HP.out.mono ?_
         rintro e w1 ⟨rfl,q,rfl⟩
         obtain ⟨c3,f3⟩:=HC3.out q
         obtain ⟨S1,q1,k1,s1⟩:=HMV.out q
         have HQ1:=Lib.hid q1
         have HK1:=Lib.hid (zak.trans ((zak.refl S w).drewN q) k1 (fun _ h=>.inl h))
         have HS1:=Lib.hid s1
         clear q1 k1 s1
         go_wp2_with fail
         refine (HIX.out _).mono ?_
         rintro e w2 ⟨rfl,rfl⟩
         rw [show ((k:Int)+1)=((k+1:Nat):Int) from rfl]
         generalize (w.drewN q).setCell ⟨p,3,none⟩ (.int .i64 ((k+1:Nat):Int))=w2 at *
         clear c3 f3
         have HO:=Lib.hid (line_any HQ1.out)
         go_wp2_with fail
         refine HO.out.mono ?_
         rintro e w3 hstep
         have HST:=Lib.hid hstep
         clear hstep
         have HG := Lib.hid (show V = (zdI X.last (X.bs.drop (k + 1))).map fun j => (out, k + 1 + j) by
           rw [HV.out,Option.map_map]
           congr 1
           funext x
           simp only [Function.comp,List.append_nil]
           rw [show k+(x+1)=k+1+x from by omega])
         rw [←HG.out] at HST
         cases hVV:V with
         | none =>
           rw [hVV] at HST
           obtain ⟨rfl,o2,k2,hn⟩:=HST.out
           have HN:=Lib.hid hn
           clear HST hn
           go_wp2
           go_ret
           exact step_none hVV ⟨o2,k2,zan.trans HK1.out HS1.out HN.out⟩
         | some ok =>
           obtain ⟨o2,k2⟩:=ok
           rw [hVV] at HST
           obtain ⟨rfl,hn⟩:=HST.out
           have HN:=Lib.hid hn
           clear HST hn
           go_wp2
           go_ret
           exact zbx hVV (zan.trans HK1.out HS1.out HN.out)
       · have HV := Lib.hid (show V = some (out ++ [c], k + 1) from hE (some ([c], 1)) (by rw [zet _ _ _ n1 n2 n3 n4 n5, if_neg hoc, if_neg h10, if_neg h13]))
         have h10d:((c.toNat:Int)==10)=false:=by rw [beq_eq_false_iff_ne];intro e;exact h10 (UInt8.toNat_inj.1 (Int.ofNat_inj.1 e))
         have h13d:((c.toNat:Int)==13)=false:=by rw [beq_eq_false_iff_ne];intro e;exact h13 (UInt8.toNat_inj.1 (Int.ofNat_inj.1 e))
         have HWB:=Lib.hid (fun W S1 (h:ScQ W S1 p X out (k+1))=>zaU h c (c.toNat:Int) rfl (by omega))
         by_cases h48:(48:Int)≤c.toNat
         · have h48d : decide ((48 : Int) ≤ c.toNat) = true := by simpa using h48
           have h55d:decide ((c.toNat:Int)≤55)=false:=by simp;omega
           clear hE n1 n2 n3 n4 n5 hix hoc hoc2 h10 h13 h48
           generalize (c.toNat:Int)=x at *
           go_enter Tryz.func171,Tryz.ntmps171
           go_wp2_with fail
           refine HP.out.mono ?_
           rintro e w1 ⟨rfl,q,rfl⟩
           obtain ⟨c3,f3⟩:=HC3.out q
           obtain ⟨S1,q1,k1,s1⟩:=HMV.out q
           have HQ1:=Lib.hid q1
           have HK1:=Lib.hid (zak.trans ((zak.refl S w).drewN q) k1 (fun _ h=>.inl h))
           have HS1:=Lib.hid s1
           clear q1 k1 s1
           go_wp2_with fail
           refine (HIX.out _).mono ?_
           rintro e w2 ⟨rfl,rfl⟩
           rw [show ((k:Int)+1)=((k+1:Nat):Int) from rfl]
           generalize (w.drewN q).setCell ⟨p,3,none⟩ (.int .i64 ((k+1:Nat):Int))=w2 at *
           clear c3 f3
           go_wp2_with fail
           refine (HWB.out _ _ HQ1.out).mono ?_
           rintro e w3 ⟨rfl,hn⟩
           have HN:=Lib.hid hn
           clear hn
           go_wp2
           go_ret
           exact zbx HV.out (zan.trans HK1.out HS1.out HN.out)
         · have h48d : decide ((48 : Int) ≤ c.toNat) = false := by simpa using h48
           clear hE n1 n2 n3 n4 n5 hix hoc hoc2 h10 h13 h48
           generalize (c.toNat:Int)=x at *
           go_enter Tryz.func171,Tryz.ntmps171
           go_wp2_with fail
           refine HP.out.mono ?_
           rintro e w1 ⟨rfl,q,rfl⟩
           obtain ⟨c3,f3⟩:=HC3.out q
           obtain ⟨S1,q1,k1,s1⟩:=HMV.out q
           have HQ1:=Lib.hid q1
           have HK1:=Lib.hid (zak.trans ((zak.refl S w).drewN q) k1 (fun _ h=>.inl h))
           have HS1:=Lib.hid s1
           clear q1 k1 s1
           go_wp2_with fail
           refine (HIX.out _).mono ?_
           rintro e w2 ⟨rfl,rfl⟩
           rw [show ((k:Int)+1)=((k+1:Nat):Int) from rfl]
           generalize (w.drewN q).setCell ⟨p,3,none⟩ (.int .i64 ((k+1:Nat):Int))=w2 at *
           clear c3 f3
           go_wp2_with fail
           refine (HWB.out _ _ HQ1.out).mono ?_
           rintro e w3 ⟨rfl,hn⟩
           have HN:=Lib.hid hn
           clear hn
           go_wp2
           go_ret
           exact zbx HV.out (zan.trans HK1.out HS1.out HN.out)
 · have hall:∀d:UInt8,(c=110∧d=10)∨(c=114∧d=13)∨(c=116∧d=9)∨(c=98∧d=8)∨(c=102∧d=12)→V=some (out++[d],k+1):=by
     rintro d (⟨rfl,rfl⟩|⟨rfl,rfl⟩|⟨rfl,rfl⟩|⟨rfl,rfl⟩|⟨rfl,rfl⟩)
     all_goals exact hE _ rfl
   have HALL:=Lib.hid hall
   have HWB:=Lib.hid (fun W S1 (h:ScQ W S1 p X out (k+1)) (d:UInt8)=>zaU h d (d.toNat:Int) rfl (by omega))
   clear hall hE
   rcases hlit with rfl|rfl|rfl|rfl|rfl
   · have hIX:=hSI2 110
     rw [show Lib.indexByte [110,114,116,98,102] 110=0 from rfl] at hIX
     have HIX:=Lib.hid hIX
     have HP:=Lib.hid hP
     clear hIX hSI2 hP
     go_enter Tryz.func171,Tryz.ntmps171
     go_wp2_with fail
     refine HP.out.mono ?_
     rintro e w1 ⟨rfl,q,rfl⟩
     obtain ⟨c3,f3⟩:=HC3.out q
     obtain ⟨S1,q1,k1,s1⟩:=HMV.out q
     have HQ1:=Lib.hid q1
     have HK1:=Lib.hid (zak.trans ((zak.refl S w).drewN q) k1 (fun _ h=>.inl h))
     have HS1:=Lib.hid s1
     clear q1 k1 s1
     go_wp2_with fail
     refine (HIX.out _).mono ?_
     rintro e w2 ⟨rfl,rfl⟩
     rw [show ((k:Int)+1)=((k+1:Nat):Int) from rfl]
     generalize (w.drewN q).setCell ⟨p,3,none⟩ (.int .i64 ((k+1:Nat):Int))=w2 at *
     clear c3 f3
     go_wp2_with fail
     go_still_tail 5,(by kernel_rfl)
     go_wp2_with fail
     refine (HWB.out _ _ (HQ1.out.drewN 1) 10).mono ?_
     rintro e w3 ⟨rfl,hn⟩
     have HN:=Lib.hid hn
     clear hn
     go_wp2
     go_ret
     exact zbx (HALL.out 10 (by simp)) (zan.trans (HK1.out.drewN 1) HS1.out HN.out)
   · have hIX:=hSI2 114
     rw [show Lib.indexByte [110,114,116,98,102] 114=1 from rfl] at hIX
     have HIX:=Lib.hid hIX
     have HP:=Lib.hid hP
     clear hIX hSI2 hP
     go_enter Tryz.func171,Tryz.ntmps171
     go_wp2_with fail
     refine HP.out.mono ?_
     rintro e w1 ⟨rfl,q,rfl⟩
     obtain ⟨c3,f3⟩:=HC3.out q
     obtain ⟨S1,q1,k1,s1⟩:=HMV.out q
     have HQ1:=Lib.hid q1
     have HK1:=Lib.hid (zak.trans ((zak.refl S w).drewN q) k1 (fun _ h=>.inl h))
     have HS1:=Lib.hid s1
     clear q1 k1 s1
     go_wp2_with fail
     refine (HIX.out _).mono ?_
     rintro e w2 ⟨rfl,rfl⟩
     rw [show ((k:Int)+1)=((k+1:Nat):Int) from rfl]
     generalize (w.drewN q).setCell ⟨p,3,none⟩ (.int .i64 ((k+1:Nat):Int))=w2 at *
     clear c3 f3
     go_wp2_with fail
     go_still_tail 5,(by kernel_rfl)
     go_wp2_with fail
     refine (HWB.out _ _ (HQ1.out.drewN 1) 13).mono ?_
     rintro e w3 ⟨rfl,hn⟩
     have HN:=Lib.hid hn
     clear hn
     go_wp2
     go_ret
     exact zbx (HALL.out 13 (by simp)) (zan.trans (HK1.out.drewN 1) HS1.out HN.out)
   · have hIX:=hSI2 116
     rw [show Lib.indexByte [110,114,116,98,102] 116=2 from rfl] at hIX
     have HIX:=Lib.hid hIX
     have HP:=Lib.hid hP
     clear hIX hSI2 hP
     go_enter Tryz.func171,Tryz.ntmps171
     go_wp2_with fail
     refine HP.out.mono ?_
     rintro e w1 ⟨rfl,q,rfl⟩
     obtain ⟨c3,f3⟩:=HC3.out q
     obtain ⟨S1,q1,k1,s1⟩:=HMV.out q
     have HQ1:=Lib.hid q1
     have HK1:=Lib.hid (zak.trans ((zak.refl S w).drewN q) k1 (fun _ h=>.inl h))
     have HS1:=Lib.hid s1
     clear q1 k1 s1
     go_wp2_with fail
     refine (HIX.out _).mono ?_
     rintro e w2 ⟨rfl,rfl⟩
     rw [show ((k:Int)+1)=((k+1:Nat):Int) from rfl]
     generalize (w.drewN q).setCell ⟨p,3,none⟩ (.int .i64 ((k+1:Nat):Int))=w2 at *
     clear c3 f3
     go_wp2_with fail
     go_still_tail 5,(by kernel_rfl)
     go_wp2_with fail
     refine (HWB.out _ _ (HQ1.out.drewN 1) 9).mono ?_
     rintro e w3 ⟨rfl,hn⟩
     have HN:=Lib.hid hn
     clear hn
     go_wp2
     go_ret
     exact zbx (HALL.out 9 (by simp)) (zan.trans (HK1.out.drewN 1) HS1.out HN.out)
   · have hIX:=hSI2 98
     rw [show Lib.indexByte [110,114,116,98,102] 98=3 from rfl] at hIX
     have HIX:=Lib.hid hIX
     have HP:=Lib.hid hP
     clear hIX hSI2 hP
     go_enter Tryz.func171,Tryz.ntmps171
     go_wp2_with fail
     refine HP.out.mono ?_
     rintro e w1 ⟨rfl,q,rfl⟩
     obtain ⟨c3,f3⟩:=HC3.out q
     obtain ⟨S1,q1,k1,s1⟩:=HMV.out q
     have HQ1:=Lib.hid q1
     have HK1:=Lib.hid (zak.trans ((zak.refl S w).drewN q) k1 (fun _ h=>.inl h))
     have HS1:=Lib.hid s1
     clear q1 k1 s1
     go_wp2_with fail
     refine (HIX.out _).mono ?_
     rintro e w2 ⟨rfl,rfl⟩
     rw [show ((k:Int)+1)=((k+1:Nat):Int) from rfl]
     generalize (w.drewN q).setCell ⟨p,3,none⟩ (.int .i64 ((k+1:Nat):Int))=w2 at *
     clear c3 f3
     go_wp2_with fail
     go_still_tail 5,(by kernel_rfl)
     go_wp2_with fail
     refine (HWB.out _ _ (HQ1.out.drewN 1) 8).mono ?_
     rintro e w3 ⟨rfl,hn⟩
     have HN:=Lib.hid hn
     clear hn
     go_wp2
     go_ret
     exact zbx (HALL.out 8 (by simp)) (zan.trans (HK1.out.drewN 1) HS1.out HN.out)
   · have hIX:=hSI2 102
     rw [show Lib.indexByte [110,114,116,98,102] 102=4 from rfl] at hIX
     have HIX:=Lib.hid hIX
     have HP:=Lib.hid hP
     clear hIX hSI2 hP
     go_enter Tryz.func171,Tryz.ntmps171
     go_wp2_with fail
     refine HP.out.mono ?_
     rintro e w1 ⟨rfl,q,rfl⟩
     obtain ⟨c3,f3⟩:=HC3.out q
     obtain ⟨S1,q1,k1,s1⟩:=HMV.out q
     have HQ1:=Lib.hid q1
     have HK1:=Lib.hid (zak.trans ((zak.refl S w).drewN q) k1 (fun _ h=>.inl h))
     have HS1:=Lib.hid s1
     clear q1 k1 s1
     go_wp2_with fail
     refine (HIX.out _).mono ?_
     rintro e w2 ⟨rfl,rfl⟩
     rw [show ((k:Int)+1)=((k+1:Nat):Int) from rfl]
     generalize (w.drewN q).setCell ⟨p,3,none⟩ (.int .i64 ((k+1:Nat):Int))=w2 at *
     clear c3 f3
     go_wp2_with fail
     go_still_tail 5,(by kernel_rfl)
     go_wp2_with fail
     refine (HWB.out _ _ (HQ1.out.drewN 1) 12).mono ?_
     rintro e w3 ⟨rfl,hn⟩
     have HN:=Lib.hid hn
     clear hn
     go_wp2
     go_ret
     exact zbx (HALL.out 12 (by simp)) (zan.trans (HK1.out.drewN 1) HS1.out HN.out)
end Go.Proofs.YtkhcjoomijkfbaaGreatDoor
namespace Go.Proofs.YtkhcjoomijkfbaaGreatDoor
open Go
theorem jump_mono {P:Program} {Q:Exit→Act→World→Prop} {a:Act} {w:World} {c:Code} {l:Nat} {J J':Act→World→Prop} (h:c.wp P (Exit.jump l J Q) a w) (hJ:∀a w,J a w→J' a w):c.wp P (Exit.jump l J' Q) a w:=by
 refine wp_mono h ?_
 intro e a' w' hq
 cases e with
 | goto l'=>exact ⟨hq.1,hJ _ _ hq.2⟩
 | normal=>exact hq
 | exit id=>exact hq
 | ret=>exact hq
 | panic ch=>exact hq
 | outgrown=>exact hq
theorem zcq {P:Program} {Q:Exit→Act→World→Prop} {a:Act} {w:World} {c body:Code} (l:Nat) (I:Nat→Act→World→Prop) (hf:findLabel c l=some (Code.skip.seq body))
   (first:(∀n a w,I n a w→body.wp P (Exit.jump l (fun a w=>∃n,I n a w) Q) a w)→c.wp P (Exit.jump l (fun a w=>∃n,I n a w) Q) a w)
   (pass:∀n a w,I n a w→body.wp P (Exit.jump l (fun a' w'=>∃n',n'<n∧I n' a' w') Q) a w):(Code.scope c).wp P Q a w:=by
 refine wp_scope_jumps l (fun a w=>∃n,I n a w) (fun a w=>leastOf (fun n=>I n a w)) hf (first fun n a w hI=>jump_mono (pass n a w hI) fun a w ⟨n',_,h⟩=>⟨n',h⟩) ?_
 intro a w hI
 refine wp_seq (wp_skip ?_)
 refine wp_mono (pass _ a w (leastOf_spec hI).1) ?_
 intro e a' w' hq
 cases e with
 | goto l' =>
   obtain ⟨h1,n',hlt,hI'⟩:=hq
   exact ⟨h1,⟨n',hI'⟩,Nat.lt_of_le_of_lt ((leastOf_spec ⟨n',hI'⟩).2 n' hI') hlt⟩
 | normal=>exact hq
 | exit id=>exact hq
 | ret=>exact hq
 | panic ch=>exact hq
 | outgrown=>exact hq
end Go.Proofs.YtkhcjoomijkfbaaGreatDoor
namespace Go.Proofs.YtkhcjoomijkfbaaGreatDoor
open Go.RowKit
def TxtEnd (w:World) (S:Nat→Prop) (p:Nat) (X:Src) (V:Option (List UInt8×List UInt8)) (e:Ending) (w':World):Prop :=
 zak S w w'∧match V with
 | none=>e=.returned (.tuple #[.agg (valC 0 0 zba),.int .i64 (za1 X.last)])
 | some (x,t)=>e=.returned (.tuple #[.agg (valC 4 0 (mkB x)),.int .i64 0])∧t.length≤X.bs.length∧w'.cell? ⟨p,3,none⟩=some (.int .i64 ((X.bs.length-t.length:Nat):Int))
theorem textV_nil (last:Bool) (D:Nat) (out:List UInt8):zbb last D out []=none:=by rw [zbb]
theorem textV_esc (last:Bool) (D:Nat) (out:List UInt8) (t:List UInt8):zbb last D out (92::t)=match escV last t with|none=>none|some (x,k)=>zbb last D (out++x) (t.drop k):=by rw [zbb];rfl
theorem textV_nl (last:Bool) (D:Nat) (out:List UInt8) (t:List UInt8):zbb last D out (13::t)=match zdI last t with|none=>none|some k=>zbb last D (out++[10]) (t.drop k):=by rw [zbb];rfl
theorem textV_in (last:Bool) (D:Nat) (out:List UInt8) (t:List UInt8):zbb last D out (40::t)=zbb last (D+1) (out++[40]) t:=by rw [zbb];rfl
theorem textV_out (last:Bool) (D:Nat) (out:List UInt8) (t:List UInt8):zbb last D out (41::t)=if D=1 then some (out,t) else zbb last (D-1) (out++[41]) t:=by rw [zbb];rfl
theorem zfU (last:Bool) (D:Nat) (out:List UInt8) (c:UInt8) (t:List UInt8) (h1:c≠92) (h2:c≠13) (h3:c≠40) (h4:c≠41):zbb last D out (c::t)=zbb last D (out++[c]) t:=by
 rw [zbb,if_neg h1,if_neg h2,if_neg h3,if_neg h4]
structure TxtAt (W0:World) (S:Nat→Prop) (p:Nat) (X:Src) (V:Option (List UInt8×List UInt8)) (D k:Nat) (out:List UInt8) (w':World):Prop where
 d1:1≤D
 d2:D≤k
 o:out.length<k
 le:k≤X.bs.length
 sc:zan W0 S p X out k w'
 v:V=zbb X.last D out (X.bs.drop k)
def TxtI (W0:World) (S:Nat→Prop) (p:Nat) (X:Src) (V:Option (List UInt8×List UInt8)) (r:Nat) (m:Nat) (a:Act) (w':World):Prop :=
 ∃(D k:Nat) (out:List UInt8) (u5 u6 u7 u8 u9 u10 u11 u12 u13 u14 u15 u16 u17 u18 u19 u20 u21 u22 u23 u24 u25 u26 u27 u28 u29 u30 u31 u32 u33 u34 u35 u36 u37 u38 u39 u40 u41 u42 u43 u44 u45 u46 u47 u48 u49 u50 u51 u52 u53 u54 u55 u56 u57 u58 u59 u60 u61:Value),m=X.bs.length-k∧Hid (TxtAt W0 S p X V D k out w')∧a={ tmps:=#[.pointer (some ⟨p,0,none⟩),undef,.pointer (some ⟨r,0,none⟩),.int .i64 0,.int .i64 D,u5,u6,u7,u8,u9,u10,u11,u12,u13,u14,u15,u16,u17,u18,u19,u20,u21,u22,u23,u24,u25,u26,u27,u28,u29,u30,u31,u32,u33,u34,u35,u36,u37,u38,u39,u40,u41,u42,u43,u44,u45,u46,u47,u48,u49,u50,u51,u52,u53,u54,u55,u56,u57,u58,u59,u60,u61],defers:=[] }
theorem za6 {S:Nat→Prop} {w W:World} (h:zak S w W) {r:Nat} (hr:w.heap.size≤r) (y0 y1 y2 y3:Value) :
   zak S w ((((W.setCell ⟨r,0,none⟩ y0).setCell ⟨r,1,none⟩ y1).setCell ⟨r,2,none⟩ y2).setCell ⟨r,3,none⟩ y3) :=
 (((h.setCell (.inr hr) _).setCell (.inr hr) _).setCell (.inr hr) _).setCell (.inr hr) _
theorem zaO {W:World} {b r:Nat} (hb:b≠r) (y0 y1 y2 y3:Value) :
   ((((W.setCell ⟨r,0,none⟩ y0).setCell ⟨r,1,none⟩ y1).setCell ⟨r,2,none⟩ y2).setCell ⟨r,3,none⟩ y3).heap[b]?=W.heap[b]?:=by
 rw [heap_setCell_other _ _ _ _ hb,heap_setCell_other _ _ _ _ hb,heap_setCell_other _ _ _ _ hb,heap_setCell_other _ _ _ _ hb]
theorem zf9 {w w':World} {S:Nat→Prop} {p:Nat} {X:Src} {V:Option (List UInt8×List UInt8)} (hV:V=none) (hk:zak S w w'):TxtEnd w S p X V (.returned (.tuple #[.agg (valC 0 0 zba),.int .i64 (za1 X.last)])) w':=by
 subst hV;exact ⟨hk,rfl⟩
theorem txt_some {w w':World} {S:Nat→Prop} {p:Nat} {X:Src} {V:Option (List UInt8×List UInt8)} {x t:List UInt8} (hV:V=some (x,t)) (hk:zak S w w') (ht:t.length≤X.bs.length)
   (hc:w'.cell? ⟨p,3,none⟩=some (.int .i64 ((X.bs.length-t.length:Nat):Int))):TxtEnd w S p X V (.returned (.tuple #[.agg (valC 4 0 (mkB x)),.int .i64 0])) w':=by
 subst hV;exact ⟨hk,rfl,ht,hc⟩
theorem esc_len (X:Src) (out:List UInt8) (k:Nat) (o2:List UInt8) (k2:Nat) (h:zcm X out k=some (o2,k2)):o2.length≤out.length+1∧k<k2:=by
 unfold zcm at h
 rw [Option.map_eq_some_iff] at h
 obtain ⟨⟨x,j⟩,hx,he⟩:=h
 simp only [Prod.mk.injEq] at he
 obtain ⟨rfl,rfl⟩:=he
 have:x.length≤1∧1≤j:=by
   cases hd:X.bs.drop k with
   | nil=>rw [hd] at hx;simp [escV] at hx
   | cons c t =>
     rw [hd] at hx
     rcases esc_idx c with ⟨-,n1,n2,n3,n4,n5⟩|rfl|rfl|rfl|rfl|rfl
     · rw [zet _ _ _ n1 n2 n3 n4 n5] at hx
       split at hx
       · rw [octV_go,Option.map_map,Option.map_eq_some_iff] at hx
         obtain ⟨y,-,hy⟩:=hx
         simp only [Function.comp,Prod.mk.injEq] at hy
         obtain ⟨rfl,rfl⟩:=hy
         exact ⟨by simp,by omega⟩
       · split at hx
         · simp at hx;obtain ⟨rfl,rfl⟩:=hx;simp
         · split at hx
           · rw [Option.map_eq_some_iff] at hx
             obtain ⟨y,-,hy⟩:=hx
             simp only [Prod.mk.injEq] at hy
             obtain ⟨rfl,rfl⟩:=hy
             exact ⟨by simp,by omega⟩
           · simp at hx;obtain ⟨rfl,rfl⟩:=hx;simp
     all_goals (simp [escV] at hx;obtain ⟨rfl,rfl⟩:=hx;simp)
 refine ⟨by rw [List.length_append];omega,by omega⟩
set_option maxHeartbeats 16000000 in
theorem text_any {w:World} {S:Nat→Prop} {p:Nat} {X:Src} {k:Nat} (h:ScQ w S p X [] k) (hk:1≤k) :
   Calls Tryz.prog 139 #[.pointer (some ⟨p,0,none⟩)] w (TxtEnd w S p X (zbb X.last 1 [] (X.bs.drop k))):=by
 obtain ⟨V,hV⟩:∃V,V=zbb X.last 1 [] (X.bs.drop k):=⟨_,rfl⟩
 rw [←hV]
 obtain ⟨r,hr⟩:∃r,r=w.heap.size:=⟨_,rfl⟩
 have hsm:X.bs.length≤400000:=by obtain ⟨_,_,h⟩:=h;exact h.small
 have hSr:¬S r:=by obtain ⟨_,_,h⟩:=h;intro e;have:=(h.lt r e).2;omega
 have hle:k≤X.bs.length:=by obtain ⟨_,_,h⟩:=h;exact h.le
 have HBX:=Lib.hid (show (w.alloc (.cells #[.int .i64 0,.int .i64 0,.string ⟨#[]⟩,.slice none 0 0] 48)).heap[r]?=some (.cells #[.int .i64 0,.int .i64 0,.string ⟨#[]⟩,.slice none 0 0] 48 (0,0)) from zac _ hr)
 have HK0:=Lib.hid (show zak S w (w.alloc (.cells #[.int .i64 0,.int .i64 0,.string ⟨#[]⟩,.slice none 0 0] 48)) from (zak.refl S w).alloc _)
 have hq0:=h.keep (zam w (.cells #[.int .i64 0,.int .i64 0,.string ⟨#[]⟩,.slice none 0 0] 48))
 have HAT:=Lib.hid (show TxtAt (w.alloc (.cells #[.int .i64 0,.int .i64 0,.string ⟨#[]⟩,.slice none 0 0] 48)) S p X V 1 k [] _ from ⟨by omega,hk,by simp;omega,hle,zan.refl hq0,hV⟩)
 have HR:=Lib.hid hr
 have HRS:=Lib.hid hSr
 have HSP:=Lib.hid (show S p from (let ⟨_,_,h⟩:=h;h.own))
 have HRG:=Lib.hid (show w.heap.size≤r by omega)
 clear hV hr hSr h hk hq0
 go_enter Tryz.func139,Tryz.ntmps139
 go_wp2
 rw [←HR.out]
 generalize w.alloc (.cells #[.int .i64 0,.int .i64 0,.string ⟨#[]⟩,.slice none 0 0] 48)=W0 at *
 refine zcq 0 (TxtI W0 S p X V r) rfl ?first ?pass
 case first =>
   intro hpass
   have HPASS:=Lib.hid hpass
   clear hpass
   go_wp2
   refine wp_label ?_
   rename_i K hK
   exact hK _ _ (HPASS.out _ _ _ ⟨1,k,[],_,_,_,_,_,_,_,_,_,_,_,_,_,_,_,_,_,_,_,_,_,_,_,_,_,_,_,_,_,_,_,_,_,_,_,_,_,_,_,_,_,_,_,_,_,_,_,_,_,_,_,_,_,_,_,_,_,rfl,HAT,rfl⟩)
 case pass =>
   rintro m a w' ⟨D,k,out,u5,u6,u7,u8,u9,u10,u11,u12,u13,u14,u15,u16,u17,u18,u19,u20,u21,u22,u23,u24,u25,u26,u27,u28,u29,u30,u31,u32,u33,u34,u35,u36,u37,u38,u39,u40,u41,u42,u43,u44,u45,u46,u47,u48,u49,u50,u51,u52,u53,u54,u55,u56,u57,u58,u59,u60,u61,hm,HA,rfl⟩
   obtain ⟨S1,hq1,hk1,hs1⟩:=HA.out.sc
   have hd1:=HA.out.d1
   have hd2:=HA.out.d2
   have ho:=HA.out.o
   have hkl:=HA.out.le
   have HV:=Lib.hid HA.out.v
   have HQ1:=Lib.hid hq1
   have HK1:=Lib.hid hk1
   have HS1:=Lib.hid hs1
   have HB1:=Lib.hid (hk1.obj HBX.out HRS.out)
   have HM:=Lib.hid hm
   have hP:=zcL hq1
   unfold zes u8C at hP
   clear hk1 hs1 hm HAT HA
   by_cases hkn:k<X.bs.length
   case neg =>
     rw [if_neg hkn] at hP
     have HP:=Lib.hid hP
     have HNONE:=Lib.hid (show V=none by rw [HV.out,za9 hkn];exact textV_nil _ _ _)
     have HO:=Lib.hid (fun q=>zdN (hq1.drewN q))
     clear hP hq1 hkn
     go_wp2_with fail
     refine HP.out.mono ?_
     rintro e w1 ⟨rfl,q,rfl⟩
     go_wp2_with fail
     refine (HO.out q).mono ?_
     rintro e w2 ⟨rfl,rfl⟩
     have HB2:=Lib.hid (show (w'.drewN q).heap[r]?=_ from HB1.out)
     obtain ⟨⟨k0,k1,k2,k3⟩,f0,f1,f2,f3⟩:=zae HB2.out
     have HK2:=Lib.hid (zak.trans HK0.out (zak.trans HK1.out ((zak.refl S1 w').drewN q) HS1.out) (fun _ h=>.inl h))
     generalize w'.drewN q=w2 at *
     have HB9:=HB2
     have HK9:=HK2
     obtain ⟨⟨k0,k1,k2,k3⟩,f0,f1,f2,f3⟩:=zae HB9.out
     go_wp2
     simp only [Exit.jump]
     refine bodyPost_ret (zaa rfl _ _ r 48 _ (0,0) _ rfl (set4 HB9.out _ _ _ _) Tryz.underlying48 rfl zal _ rfl) rfl ?_
     exact zf9 HNONE.out (za6 HK9.out HRG.out _ _ _ _)
   case pos =>
     rw [if_pos hkn] at hP
     have hv:=HV.out
     rw [zaw hkn] at hv
     have HMV:=Lib.hid (fun q=>(let ⟨_,_,h1⟩:=hq1.drewN q;h1.move (k+1) (by omega) (by omega)))
     have HC3:=Lib.hid (fun q=>(let ⟨_,_,h1⟩:=hq1.drewN q;(And.intro h1.cells.2.2.2.1 (h1.free 3))))
     have HP:=Lib.hid hP
     obtain ⟨c,hc⟩:∃c,c=X.bs.getD k 0:=⟨_,rfl⟩
     rw [←hc] at HP hv
     clear hP hc hq1
     by_cases h92:c=92
     · subst h92
       rw [textV_esc] at hv
       have HVE:=Lib.hid hv
       clear hv
       go_wp2_with fail
       refine HP.out.mono ?_
       rintro e w1 ⟨rfl,q,rfl⟩
       obtain ⟨c3,f3⟩:=HC3.out q
       obtain ⟨S2,q2,k2,s2⟩:=HMV.out q
       have HQ2:=Lib.hid q2
       have HK2:=Lib.hid (zak.trans HK1.out (zak.trans ((zak.refl S1 w').drewN q) k2 (fun _ h=>.inl h)) HS1.out)
       have HS2:=Lib.hid (fun b (hb:S2 b)=>(s2 b hb).elim (HS1.out b) (fun h=>Or.inr (Nat.le_trans HK1.out.size h)))
       clear q2 k2 s2
       go_wp2_with fail
       rw [show ((k:Int)+1)=((k+1:Nat):Int) from rfl]
       generalize (w'.drewN q).setCell ⟨p,3,none⟩ (.int .i64 ((k+1:Nat):Int))=w2 at *
       clear c3 f3
       have HO:=Lib.hid (escape_any HQ2.out (by omega))
       go_wp2_with fail
       refine HO.out.mono ?_
       rintro e w3 hstep
       have HST:=Lib.hid hstep
       clear hstep
       cases hES:zcm X out (k+1) with
       | none =>
         rw [hES] at HST
         obtain ⟨rfl,o2,k2,hn⟩:=HST.out
         have HN9:=Lib.hid (zan.trans HK2.out HS2.out hn)
         have HNONE:=Lib.hid (show V=none by
           unfold zcm at hES
           rw [Option.map_eq_none_iff] at hES
           rw [HVE.out,hES])
         clear HST hn hES
         obtain ⟨S9,hq9,hk9,hs9⟩:=HN9.out
         have HQ9:=Lib.hid hq9
         have HB9:=Lib.hid (hk9.obj HBX.out HRS.out)
         have HK9:=Lib.hid (zak.trans HK0.out hk9 (fun _ h=>.inl h))
         have HOP:=Lib.hid (zdN hq9)
         clear hq9 hk9 hs9
         go_wp2_with fail
         refine (HOP.out).mono ?_
         rintro e w9 ⟨rfl,rfl⟩
         obtain ⟨⟨k0,k1,k2,k3⟩,f0,f1,f2,f3⟩:=zae HB9.out
         go_wp2
         simp only [Exit.jump]
         refine bodyPost_ret (zaa rfl _ _ r 48 _ (0,0) _ rfl (set4 HB9.out _ _ _ _) Tryz.underlying48 rfl zal _ rfl) rfl ?_
         exact zf9 HNONE.out (za6 HK9.out HRG.out _ _ _ _)
       | some ok =>
         obtain ⟨o2,k2⟩:=ok
         rw [hES] at HST
         obtain ⟨rfl,hn⟩:=HST.out
         have hel:=esc_len X out (k+1) o2 k2 hES
         have HN8:=Lib.hid (zan.trans HK2.out HS2.out hn)
         have hkl2:k2≤X.bs.length:=by obtain ⟨_,⟨_,_,h⟩,_⟩:=hn;exact h.le
         have HVV:=Lib.hid (show V=zbb X.last D o2 (X.bs.drop k2) by
           unfold zcm at hES
           rw [Option.map_eq_some_iff] at hES
           obtain ⟨⟨x,j⟩,e1,e2⟩:=hES
           simp only [Prod.mk.injEq] at e2
           obtain ⟨rfl,rfl⟩:=e2
           rw [HVE.out,e1]
           simp only
           rw [List.drop_drop])
         clear HST hn hES
         go_wp2
         go_step3
         exact ⟨rfl,X.bs.length-k2,by have:=HM.out;omega,D,k2,o2,_,_,_,_,_,_,_,_,_,_,_,_,_,_,_,_,_,_,_,_,_,_,_,_,_,_,_,_,_,_,_,_,_,_,_,_,_,_,_,_,_,_,_,_,_,_,_,_,_,_,_,_,_,_,_,_,_,rfl,Lib.hid ⟨by omega,by omega,by omega,hkl2,HN8.out,HVV.out⟩,rfl⟩
     have h92d:((c.toNat:Int)==92)=false:=by rw [beq_eq_false_iff_ne];intro e;exact h92 (UInt8.toNat_inj.1 (Int.ofNat_inj.1 e))
     by_cases h13:c=13
     · subst h13
       rw [textV_nl] at hv
       have HVE:=Lib.hid hv
       clear hv h92 h92d
       go_wp2_with fail
       refine HP.out.mono ?_
       rintro e w1 ⟨rfl,q,rfl⟩
       obtain ⟨c3,f3⟩:=HC3.out q
       obtain ⟨S2,q2,k2,s2⟩:=HMV.out q
       have HQ2:=Lib.hid q2
       have HK2:=Lib.hid (zak.trans HK1.out (zak.trans ((zak.refl S1 w').drewN q) k2 (fun _ h=>.inl h)) HS1.out)
       have HS2:=Lib.hid (fun b (hb:S2 b)=>(s2 b hb).elim (HS1.out b) (fun h=>Or.inr (Nat.le_trans HK1.out.size h)))
       clear q2 k2 s2
       go_wp2_with fail
       rw [show ((k:Int)+1)=((k+1:Nat):Int) from rfl]
       generalize (w'.drewN q).setCell ⟨p,3,none⟩ (.int .i64 ((k+1:Nat):Int))=w2 at *
       clear c3 f3
       have HO:=Lib.hid (line_any HQ2.out)
       go_wp2_with fail
       refine HO.out.mono ?_
       rintro e w3 hstep
       have HST:=Lib.hid hstep
       clear hstep
       cases hES:zdI X.last (X.bs.drop (k+1)) with
       | none =>
         rw [hES] at HST
         obtain ⟨rfl,o2,k2,hn⟩:=HST.out
         have HN9:=Lib.hid (zan.trans HK2.out HS2.out hn)
         have HNONE:=Lib.hid (show V=none by rw [HVE.out,hES])
         clear HST hn hES
         obtain ⟨S9,hq9,hk9,hs9⟩:=HN9.out
         have HQ9:=Lib.hid hq9
         have HB9:=Lib.hid (hk9.obj HBX.out HRS.out)
         have HK9:=Lib.hid (zak.trans HK0.out hk9 (fun _ h=>.inl h))
         have HOP:=Lib.hid (zdN hq9)
         clear hq9 hk9 hs9
         go_wp2_with fail
         refine (HOP.out).mono ?_
         rintro e w9 ⟨rfl,rfl⟩
         obtain ⟨⟨k0,k1,k2,k3⟩,f0,f1,f2,f3⟩:=zae HB9.out
         go_wp2
         simp only [Exit.jump]
         refine bodyPost_ret (zaa rfl _ _ r 48 _ (0,0) _ rfl (set4 HB9.out _ _ _ _) Tryz.underlying48 rfl zal _ rfl) rfl ?_
         exact zf9 HNONE.out (za6 HK9.out HRG.out _ _ _ _)
       | some j =>
         rw [hES] at HST
         obtain ⟨rfl,hn⟩:=HST.out
         have HN9:=Lib.hid (zan.trans HK2.out HS2.out hn)
         have hkl2:k+1+j≤X.bs.length:=by obtain ⟨_,⟨_,_,h⟩,_⟩:=hn;exact h.le
         have HVV:=Lib.hid (show V=zbb X.last D (out++[10]) (X.bs.drop (k+1+j)) by
           rw [HVE.out,hES]
           simp only
           rw [List.drop_drop])
         have hD0:((D:Int)==0)=false:=by rw [beq_eq_false_iff_ne];omega
         clear HST hn hES
         obtain ⟨S9,hq9,hk9,hs9⟩:=HN9.out
         have HK9:=Lib.hid hk9
         have HS9:=Lib.hid hs9
         have HWB:=Lib.hid (zaU hq9 10 10 rfl (by omega))
         clear hq9 hk9 hs9
         go_wp2_with fail
         refine HWB.out.mono ?_
         rintro e w8 ⟨rfl,hn8⟩
         have HN8:=Lib.hid (zan.trans HK9.out HS9.out hn8)
         clear hn8
         go_wp2
         go_step3
         exact ⟨rfl,X.bs.length-(k+1+j),by have:=HM.out;omega,D,(k+1+j),(out++[10]),_,_,_,_,_,_,_,_,_,_,_,_,_,_,_,_,_,_,_,_,_,_,_,_,_,_,_,_,_,_,_,_,_,_,_,_,_,_,_,_,_,_,_,_,_,_,_,_,_,_,_,_,_,_,_,_,_,rfl,Lib.hid ⟨by omega,by omega,by simp;omega,by omega,HN8.out,HVV.out⟩,rfl⟩
     have h13d:((c.toNat:Int)==13)=false:=by rw [beq_eq_false_iff_ne];intro e;exact h13 (UInt8.toNat_inj.1 (Int.ofNat_inj.1 e))
     by_cases h40:c=40
     · subst h40
       rw [textV_in] at hv
       have HVV:=Lib.hid hv
       have hD0:((D:Int)+1==0)=false:=by rw [beq_eq_false_iff_ne];omega
       clear hv h92 h92d h13 h13d
       go_wp2_with fail
       refine HP.out.mono ?_
       rintro e w1 ⟨rfl,q,rfl⟩
       obtain ⟨c3,f3⟩:=HC3.out q
       obtain ⟨S2,q2,k2,s2⟩:=HMV.out q
       have HQ2:=Lib.hid q2
       have HK2:=Lib.hid (zak.trans HK1.out (zak.trans ((zak.refl S1 w').drewN q) k2 (fun _ h=>.inl h)) HS1.out)
       have HS2:=Lib.hid (fun b (hb:S2 b)=>(s2 b hb).elim (HS1.out b) (fun h=>Or.inr (Nat.le_trans HK1.out.size h)))
       clear q2 k2 s2
       go_wp2_with fail
       rw [show ((k:Int)+1)=((k+1:Nat):Int) from rfl]
       generalize (w'.drewN q).setCell ⟨p,3,none⟩ (.int .i64 ((k+1:Nat):Int))=w2 at *
       clear c3 f3
       have HN9:=Lib.hid (zan.trans HK2.out HS2.out (zan.refl HQ2.out))
       obtain ⟨S9,hq9,hk9,hs9⟩:=HN9.out
       have HK9:=Lib.hid hk9
       have HS9:=Lib.hid hs9
       have HWB:=Lib.hid (zaU hq9 40 40 rfl (by omega))
       clear hq9 hk9 hs9
       go_wp2_with fail
       refine HWB.out.mono ?_
       rintro e w8 ⟨rfl,hn8⟩
       have HN8:=Lib.hid (zan.trans HK9.out HS9.out hn8)
       clear hn8
       go_wp2
       go_step3
       exact ⟨rfl,X.bs.length-(k+1),by have:=HM.out;omega,(D+1),(k+1),(out++[40]),_,_,_,_,_,_,_,_,_,_,_,_,_,_,_,_,_,_,_,_,_,_,_,_,_,_,_,_,_,_,_,_,_,_,_,_,_,_,_,_,_,_,_,_,_,_,_,_,_,_,_,_,_,_,_,_,_,rfl,Lib.hid ⟨by omega,by omega,by simp;omega,by omega,HN8.out,HVV.out⟩,rfl⟩
     have h40d:((c.toNat:Int)==40)=false:=by rw [beq_eq_false_iff_ne];intro e;exact h40 (UInt8.toNat_inj.1 (Int.ofNat_inj.1 e))
     by_cases h41:c=41
     · subst h41
       rw [textV_out] at hv
       clear h92 h92d h13 h13d h40 h40d
       by_cases hD:D=1
       · subst hD
         rw [if_pos rfl] at hv
         have HVV:=Lib.hid hv
         clear hv
         go_wp2_with fail
         refine HP.out.mono ?_
         rintro e w1 ⟨rfl,q,rfl⟩
         obtain ⟨c3,f3⟩:=HC3.out q
         obtain ⟨S2,q2,k2,s2⟩:=HMV.out q
         have HQ2:=Lib.hid q2
         have HK2:=Lib.hid (zak.trans HK1.out (zak.trans ((zak.refl S1 w').drewN q) k2 (fun _ h=>.inl h)) HS1.out)
         have HS2:=Lib.hid (fun b (hb:S2 b)=>(s2 b hb).elim (HS1.out b) (fun h=>Or.inr (Nat.le_trans HK1.out.size h)))
         clear q2 k2 s2
         go_wp2_with fail
         rw [show ((k:Int)+1)=((k+1:Nat):Int) from rfl]
         generalize (w'.drewN q).setCell ⟨p,3,none⟩ (.int .i64 ((k+1:Nat):Int))=w2 at *
         clear c3 f3
         have HO:=Lib.hid (zdY HQ2.out)
         have HB2:=Lib.hid (HK2.out.obj HBX.out HRS.out)
         go_wp2_with fail
         refine HO.out.mono ?_
         rintro e w3 ⟨rfl,hk3,hp3⟩
         have HRS2:=Lib.hid (show ¬S2 r from fun e=>(HS2.out r e).elim HRS.out (fun h=>by have:=(Array.getElem?_eq_some_iff.1 HBX.out).1;omega))
         have HB9:=Lib.hid (hk3.obj HB2.out HRS2.out)
         have HK9:=Lib.hid (zak.trans HK0.out (zak.trans HK2.out hk3 HS2.out) (fun _ h=>.inl h))
         have HP3:=Lib.hid hp3
         clear hk3 hp3
         obtain ⟨⟨k0,k1,k2,k3⟩,f0,f1,f2,f3⟩:=zae HB9.out
         go_wp2
         simp only [Exit.jump]
         refine bodyPost_ret (zaa rfl _ _ r 48 _ (0,0) _ rfl (set4 HB9.out _ _ _ _) Tryz.underlying48 rfl zal _ rfl) rfl ?_
         obtain ⟨ad9,v9,hsc⟩:=HQ2.out
         have hpr:p≠r:=fun e=>HRS.out (e▸HSP.out)
         refine txt_some HVV.out (za6 HK9.out HRG.out _ _ _ _) (by rw [List.length_drop];omega) ?_
         rw [cell_of_row _ p 3 (scV X ad9 v9 (k+1)) 171 (0,0) ((zaO hpr _ _ _ _).trans (HP3.out.trans hsc.blk)),List.length_drop,show X.bs.length-(X.bs.length-(k+1))=k+1 from by omega]
         rfl
       · rw [if_neg hD] at hv
         have HVV:=Lib.hid hv
         obtain ⟨E,rfl⟩:∃E,D=E+1:=⟨D-1,by omega⟩
         have hD0:((E:Int)==0)=false:=by rw [beq_eq_false_iff_ne];omega
         have hE1:1≤E:=by omega
         clear hv hD
         go_wp2_with fail
         refine HP.out.mono ?_
         rintro e w1 ⟨rfl,q,rfl⟩
         obtain ⟨c3,f3⟩:=HC3.out q
         obtain ⟨S2,q2,k2,s2⟩:=HMV.out q
         have HQ2:=Lib.hid q2
         have HK2:=Lib.hid (zak.trans HK1.out (zak.trans ((zak.refl S1 w').drewN q) k2 (fun _ h=>.inl h)) HS1.out)
         have HS2:=Lib.hid (fun b (hb:S2 b)=>(s2 b hb).elim (HS1.out b) (fun h=>Or.inr (Nat.le_trans HK1.out.size h)))
         clear q2 k2 s2
         go_wp2_with fail
         rw [show ((k:Int)+1)=((k+1:Nat):Int) from rfl]
         generalize (w'.drewN q).setCell ⟨p,3,none⟩ (.int .i64 ((k+1:Nat):Int))=w2 at *
         clear c3 f3
         have HN9:=Lib.hid (zan.trans HK2.out HS2.out (zan.refl HQ2.out))
         obtain ⟨S9,hq9,hk9,hs9⟩:=HN9.out
         have HK9:=Lib.hid hk9
         have HS9:=Lib.hid hs9
         have HWB:=Lib.hid (zaU hq9 41 41 rfl (by omega))
         clear hq9 hk9 hs9
         go_wp2_with fail
         refine HWB.out.mono ?_
         rintro e w8 ⟨rfl,hn8⟩
         have HN8:=Lib.hid (zan.trans HK9.out HS9.out hn8)
         clear hn8
         go_wp2
         go_step3
         exact ⟨rfl,X.bs.length-(k+1),by have:=HM.out;omega,E,(k+1),(out++[41]),_,_,_,_,_,_,_,_,_,_,_,_,_,_,_,_,_,_,_,_,_,_,_,_,_,_,_,_,_,_,_,_,_,_,_,_,_,_,_,_,_,_,_,_,_,_,_,_,_,_,_,_,_,_,_,_,_,rfl,Lib.hid ⟨by omega,by omega,by simp;omega,by omega,HN8.out,HVV.out⟩,rfl⟩
     have h41d:((c.toNat:Int)==41)=false:=by rw [beq_eq_false_iff_ne];intro e;exact h41 (UInt8.toNat_inj.1 (Int.ofNat_inj.1 e))
     rw [zfU _ _ _ _ _ h92 h13 h40 h41] at hv
     have HVV:=Lib.hid hv
     have hD0:((D:Int)==0)=false:=by rw [beq_eq_false_iff_ne];omega
     clear hv h92 h13 h40 h41
     go_wp2_with fail
     refine HP.out.mono ?_
     rintro e w1 ⟨rfl,q,rfl⟩
     obtain ⟨c3,f3⟩:=HC3.out q
     obtain ⟨S2,q2,k2,s2⟩:=HMV.out q
     have HQ2:=Lib.hid q2
     have HK2:=Lib.hid (zak.trans HK1.out (zak.trans ((zak.refl S1 w').drewN q) k2 (fun _ h=>.inl h)) HS1.out)
     have HS2:=Lib.hid (fun b (hb:S2 b)=>(s2 b hb).elim (HS1.out b) (fun h=>Or.inr (Nat.le_trans HK1.out.size h)))
     clear q2 k2 s2
     go_wp2_with fail
     rw [show ((k:Int)+1)=((k+1:Nat):Int) from rfl]
     generalize (w'.drewN q).setCell ⟨p,3,none⟩ (.int .i64 ((k+1:Nat):Int))=w2 at *
     clear c3 f3
     have HN9:=Lib.hid (zan.trans HK2.out HS2.out (zan.refl HQ2.out))
     obtain ⟨S9,hq9,hk9,hs9⟩:=HN9.out
     have HK9:=Lib.hid hk9
     have HS9:=Lib.hid hs9
     have HWB:=Lib.hid (zaU hq9 c _ rfl (by omega))
     clear hq9 hk9 hs9
     go_wp2_with fail
     refine HWB.out.mono ?_
     rintro e w8 ⟨rfl,hn8⟩
     have HN8:=Lib.hid (zan.trans HK9.out HS9.out hn8)
     clear hn8
     go_wp2
     go_step3
     exact ⟨rfl,X.bs.length-(k+1),by have:=HM.out;omega,D,(k+1),(out++[c]),_,_,_,_,_,_,_,_,_,_,_,_,_,_,_,_,_,_,_,_,_,_,_,_,_,_,_,_,_,_,_,_,_,_,_,_,_,_,_,_,_,_,_,_,_,_,_,_,_,_,_,_,_,_,_,_,_,rfl,Lib.hid ⟨by omega,by omega,by simp;omega,by omega,HN8.out,HVV.out⟩,rfl⟩
def HexEnd (w:World) (S:Nat→Prop) (p:Nat) (X:Src) (V:Int×List UInt8×List UInt8) (e:Ending) (w':World):Prop :=
 zak S w w'∧((V.1=1∧e=.returned (.tuple #[.agg (valC 0 0 zba),.int .i64 (za1 X.last)]))∨(V.1=11∧e=.returned (.tuple #[.agg (valC 0 0 zba),.int .i64 11])) ∨
   (V.1=0∧e=.returned (.tuple #[.agg (valC 4 0 (mkB V.2.1)),.int .i64 0])∧V.2.2.length≤X.bs.length∧w'.cell? ⟨p,3,none⟩=some (.int .i64 ((X.bs.length-V.2.2.length:Nat):Int))))
theorem hex_some {w w':World} {S:Nat→Prop} {p:Nat} {X:Src} {V:Int×List UInt8×List UInt8} {x t:List UInt8} (hV:V=(0,x,t)) (hk:zak S w w') (ht:t.length≤X.bs.length)
   (hc:w'.cell? ⟨p,3,none⟩=some (.int .i64 ((X.bs.length-t.length:Nat):Int))):HexEnd w S p X V (.returned (.tuple #[.agg (valC 4 0 (mkB x)),.int .i64 0])) w':=by
 subst hV;exact ⟨hk,.inr (.inr ⟨rfl,rfl,ht,hc⟩)⟩
theorem hex_open {w w':World} {S:Nat→Prop} {p:Nat} {X:Src} {V:Int×List UInt8×List UInt8} (hV:V=(1,[],[])) (hk:zak S w w'):HexEnd w S p X V (.returned (.tuple #[.agg (valC 0 0 zba),.int .i64 (za1 X.last)])) w':=by
 subst hV;exact ⟨hk,.inl ⟨rfl,rfl⟩⟩
theorem hex_form {w w':World} {S:Nat→Prop} {p:Nat} {X:Src} {V:Int×List UInt8×List UInt8} (hV:V=(11,[],[])) (hk:zak S w w'):HexEnd w S p X V (.returned (.tuple #[.agg (valC 0 0 zba),.int .i64 11])) w':=by
 subst hV;exact ⟨hk,.inr (.inl ⟨rfl,rfl⟩)⟩
structure HexAt (W0:World) (S:Nat→Prop) (p:Nat) (X:Src) (V:Int×List UInt8×List UInt8) (hf:Int) (k:Nat) (out:List UInt8) (w':World):Prop where
 h1:-1≤hf∧hf≤15
 o:out.length<k
 le:k≤X.bs.length
 sc:zan W0 S p X out k w'
 v:V=hexV out hf (X.bs.drop k)
def HexI (W0:World) (S:Nat→Prop) (p:Nat) (X:Src) (V:Int×List UInt8×List UInt8) (r:Nat) (m:Nat) (a:Act) (w':World):Prop :=
 ∃(hf:Int) (k:Nat) (out:List UInt8) (u5 u6 u7 u8 u9 u10 u11 u12 u13 u14 u15 u16 u17 u18 u19 u20 u21 u22 u23 u24 u25 u26 u27 u28 u29 u30 u31 u32 u33 u34 u35 u36 u37 u38 u39 u40 u41 u42 u43 u44 u45 u46 u47 u48 u49 u50 u51 u52 u53 u54 u55 u56 u57 u58 u59 u60 u61 u62 u63 u64 u65 u66 u67 u68 u69 u70 u71 u72 u73:Value),m=X.bs.length-k∧Hid (HexAt W0 S p X V hf k out w')∧a={ tmps:=#[.pointer (some ⟨p,0,none⟩),undef,.pointer (some ⟨r,0,none⟩),.int .i64 0,.int .i64 hf,u5,u6,u7,u8,u9,u10,u11,u12,u13,u14,u15,u16,u17,u18,u19,u20,u21,u22,u23,u24,u25,u26,u27,u28,u29,u30,u31,u32,u33,u34,u35,u36,u37,u38,u39,u40,u41,u42,u43,u44,u45,u46,u47,u48,u49,u50,u51,u52,u53,u54,u55,u56,u57,u58,u59,u60,u61,u62,u63,u64,u65,u66,u67,u68,u69,u70,u71,u72,u73],defers:=[] }
theorem byte_of (x:Int) (h0:0≤x) (h1:x≤255):x=((UInt8.ofNat x.toNat).toNat:Int):=by rw [UInt8.toNat_ofNat'];omega
set_option maxHeartbeats 16000000 in
theorem hexes_any {w:World} {S:Nat→Prop} {p:Nat} {X:Src} {k:Nat} (h:ScQ w S p X [] k) (hk:1≤k) :
   Calls Tryz.prog 170 #[.pointer (some ⟨p,0,none⟩)] w (HexEnd w S p X (hexV [] (-1) (X.bs.drop k))):=by
 obtain ⟨V,hV⟩:∃V,V=hexV [] (-1) (X.bs.drop k):=⟨_,rfl⟩
 rw [←hV]
 obtain ⟨r,hr⟩:∃r,r=w.heap.size:=⟨_,rfl⟩
 have hsm:X.bs.length≤400000:=by obtain ⟨_,_,h⟩:=h;exact h.small
 have hSr:¬S r:=by obtain ⟨_,_,h⟩:=h;intro e;have:=(h.lt r e).2;omega
 have hle:k≤X.bs.length:=by obtain ⟨_,_,h⟩:=h;exact h.le
 have HBX:=Lib.hid (show (w.alloc (.cells #[.int .i64 0,.int .i64 0,.string ⟨#[]⟩,.slice none 0 0] 48)).heap[r]?=some (.cells #[.int .i64 0,.int .i64 0,.string ⟨#[]⟩,.slice none 0 0] 48 (0,0)) from zac _ hr)
 have HK0:=Lib.hid (show zak S w (w.alloc (.cells #[.int .i64 0,.int .i64 0,.string ⟨#[]⟩,.slice none 0 0] 48)) from (zak.refl S w).alloc _)
 have hq0:=h.keep (zam w (.cells #[.int .i64 0,.int .i64 0,.string ⟨#[]⟩,.slice none 0 0] 48))
 have HAT:=Lib.hid (show HexAt (w.alloc (.cells #[.int .i64 0,.int .i64 0,.string ⟨#[]⟩,.slice none 0 0] 48)) S p X V (-1) k [] _ from ⟨by omega,by simp;omega,hle,zan.refl hq0,hV⟩)
 have HR:=Lib.hid hr
 have HRS:=Lib.hid hSr
 have HSP:=Lib.hid (show S p from (let ⟨_,_,h⟩:=h;h.own))
 have HRG:=Lib.hid (show w.heap.size≤r by omega)
 clear hV hr hSr h hk hq0
 go_enter Tryz.func170,Tryz.ntmps170
 go_wp2
 rw [←HR.out]
 generalize w.alloc (.cells #[.int .i64 0,.int .i64 0,.string ⟨#[]⟩,.slice none 0 0] 48)=W0 at *
 refine zcq 0 (HexI W0 S p X V r) rfl ?first ?pass
 case first =>
   intro hpass
   have HPASS:=Lib.hid hpass
   clear hpass
   go_wp2
   refine wp_label ?_
   rename_i K hK
   exact hK _ _ (HPASS.out _ _ _ ⟨-1,k,[],_,_,_,_,_,_,_,_,_,_,_,_,_,_,_,_,_,_,_,_,_,_,_,_,_,_,_,_,_,_,_,_,_,_,_,_,_,_,_,_,_,_,_,_,_,_,_,_,_,_,_,_,_,_,_,_,_,_,_,_,_,_,_,_,_,_,_,_,_,rfl,HAT,rfl⟩)
 case pass =>
   rintro m a w' ⟨hf,k,out,u5,u6,u7,u8,u9,u10,u11,u12,u13,u14,u15,u16,u17,u18,u19,u20,u21,u22,u23,u24,u25,u26,u27,u28,u29,u30,u31,u32,u33,u34,u35,u36,u37,u38,u39,u40,u41,u42,u43,u44,u45,u46,u47,u48,u49,u50,u51,u52,u53,u54,u55,u56,u57,u58,u59,u60,u61,u62,u63,u64,u65,u66,u67,u68,u69,u70,u71,u72,u73,hm,HA,rfl⟩
   obtain ⟨S1,hq1,hk1,hs1⟩:=HA.out.sc
   obtain ⟨hf0,hf1⟩:=HA.out.h1
   have ho:=HA.out.o
   have hkl:=HA.out.le
   have HV:=Lib.hid HA.out.v
   have HQ1:=Lib.hid hq1
   have HK1:=Lib.hid hk1
   have HS1:=Lib.hid hs1
   have HB1:=Lib.hid (hk1.obj HBX.out HRS.out)
   have HM:=Lib.hid hm
   have hP:=zcL hq1
   unfold zes u8C at hP
   clear hk1 hs1 hm HAT HA
   by_cases hkn:k<X.bs.length
   case neg =>
     rw [if_neg hkn] at hP
     have HP:=Lib.hid hP
     have HNONE:=Lib.hid (show V=(1,[],[]) by rw [HV.out,za9 hkn];rfl)
     have HO:=Lib.hid (fun q=>zdN (hq1.drewN q))
     clear hP hq1 hkn
     go_wp2_with fail
     refine HP.out.mono ?_
     rintro e w1 ⟨rfl,q,rfl⟩
     go_wp2_with fail
     refine (HO.out q).mono ?_
     rintro e w2 ⟨rfl,rfl⟩
     have HB9:=Lib.hid (show (w'.drewN q).heap[r]?=_ from HB1.out)
     have HK9:=Lib.hid (zak.trans HK0.out (zak.trans HK1.out ((zak.refl S1 w').drewN q) HS1.out) (fun _ h=>.inl h))
     generalize w'.drewN q=w2 at *
     obtain ⟨⟨k0,k1,k2,k3⟩,f0,f1,f2,f3⟩:=zae HB9.out
     go_wp2
     simp only [Exit.jump]
     refine bodyPost_ret (zaa rfl _ _ r 48 _ (0,0) _ rfl (set4 HB9.out _ _ _ _) Tryz.underlying48 rfl zal _ rfl) rfl ?_
     exact hex_open HNONE.out (za6 HK9.out HRG.out _ _ _ _)
   case pos =>
     rw [if_pos hkn] at hP
     have hv:=HV.out
     rw [zaw hkn,hexV] at hv
     have HMV:=Lib.hid (fun q=>(let ⟨_,_,h1⟩:=hq1.drewN q;h1.move (k+1) (by omega) (by omega)))
     have HC3:=Lib.hid (fun q=>(let ⟨_,_,h1⟩:=hq1.drewN q;(And.intro h1.cells.2.2.2.1 (h1.free 3))))
     have HP:=Lib.hid hP
     obtain ⟨c,hc⟩:∃c,c=X.bs.getD k 0:=⟨_,rfl⟩
     rw [←hc] at HP hv
     have HHX:=Lib.hid (fun W=>hex_any c W)
     have hsp:=fun W=>ze0 c.toNat W
     rw [←zfG] at hsp
     have hdb:=zfZ c
     clear hP hc hq1
     by_cases h62:c=62
     · subst h62
       rw [if_pos rfl] at hv
       rw [show hexD 62=-1 from rfl] at HHX
       clear hsp hdb
       by_cases hh:0≤hf
       · rw [if_pos hh] at hv
         have HVV:=Lib.hid hv
         have HBY:=Lib.hid (byte_of (16 * hf) (by omega) (by omega))
         clear hv
         go_wp2_with fail
         refine HP.out.mono ?_
         rintro e w1 ⟨rfl,q,rfl⟩
         obtain ⟨c3,f3⟩:=HC3.out q
         obtain ⟨S2,q2,k2,s2⟩:=HMV.out q
         have HQ2:=Lib.hid q2
         have HK2:=Lib.hid (zak.trans HK1.out (zak.trans ((zak.refl S1 w').drewN q) k2 (fun _ h=>.inl h)) HS1.out)
         have HS2:=Lib.hid (fun b (hb:S2 b)=>(s2 b hb).elim (HS1.out b) (fun h=>Or.inr (Nat.le_trans HK1.out.size h)))
         have HB2:=Lib.hid (HK2.out.obj HBX.out HRS.out)
         clear q2 k2 s2
         go_wp2_with fail
         rw [show ((k:Int)+1)=((k+1:Nat):Int) from rfl]
         generalize (w'.drewN q).setCell ⟨p,3,none⟩ (.int .i64 ((k+1:Nat):Int))=w2 at *
         clear c3 f3
         refine (HHX.out _).mono ?_
         rintro e w3 ⟨rfl,rfl⟩
         have HWB:=Lib.hid (zaU HQ2.out (UInt8.ofNat (16 * hf).toNat) (16 * hf) HBY.out (by omega))
         go_wp2_with fail
         refine HWB.out.mono ?_
         rintro e w4 ⟨rfl,hn8⟩
         obtain ⟨S4,q4,k4,s4⟩:=hn8
         have HQ4:=Lib.hid q4
         have HK4:=Lib.hid (zak.trans HK2.out k4 HS2.out)
         have HS4:=Lib.hid (fun b (hb:S4 b)=>(s4 b hb).elim (HS2.out b) (fun h=>Or.inr (Nat.le_trans HK2.out.size h)))
         have HB4:=Lib.hid (HK4.out.obj HBX.out HRS.out)
         clear q4 k4 s4
         have HO:=Lib.hid (zdY HQ4.out)
         go_wp2_with fail
         refine HO.out.mono ?_
         rintro e w5 ⟨rfl,hk3,hp3⟩
         have HRS2:=Lib.hid (show ¬S4 r from fun e=>(HS4.out r e).elim HRS.out (fun h=>by have:=(Array.getElem?_eq_some_iff.1 HBX.out).1;omega))
         have HB9:=Lib.hid (hk3.obj HB4.out HRS2.out)
         have HK9:=Lib.hid (zak.trans HK0.out (zak.trans HK4.out hk3 HS4.out) (fun _ h=>.inl h))
         have HP3:=Lib.hid hp3
         clear hk3 hp3
         obtain ⟨⟨k0,k1,k2,k3⟩,f0,f1,f2,f3⟩:=zae HB9.out
         go_wp2
         simp only [Exit.jump]
         refine bodyPost_ret (zaa rfl _ _ r 48 _ (0,0) _ rfl (set4 HB9.out _ _ _ _) Tryz.underlying48 rfl zal _ rfl) rfl ?_
         obtain ⟨ad9,v9,hsc⟩:=HQ4.out
         have hpr:p≠r:=fun e=>HRS.out (e▸HSP.out)
         refine hex_some HVV.out (za6 HK9.out HRG.out _ _ _ _) (by rw [List.length_drop];omega) ?_
         rw [cell_of_row _ p 3 (scV X ad9 v9 (k+1)) 171 (0,0) ((zaO hpr _ _ _ _).trans (HP3.out.trans hsc.blk)),List.length_drop,show X.bs.length-(X.bs.length-(k+1))=k+1 from by omega]
         rfl
       · rw [if_neg hh] at hv
         have HVV:=Lib.hid hv
         have hhd:decide (0≤hf)=false:=by simpa using hh
         clear hv hh
         go_wp2_with fail
         refine HP.out.mono ?_
         rintro e w1 ⟨rfl,q,rfl⟩
         obtain ⟨c3,f3⟩:=HC3.out q
         obtain ⟨S2,q2,k2,s2⟩:=HMV.out q
         have HQ2:=Lib.hid q2
         have HK2:=Lib.hid (zak.trans HK1.out (zak.trans ((zak.refl S1 w').drewN q) k2 (fun _ h=>.inl h)) HS1.out)
         have HS2:=Lib.hid (fun b (hb:S2 b)=>(s2 b hb).elim (HS1.out b) (fun h=>Or.inr (Nat.le_trans HK1.out.size h)))
         have HB2:=Lib.hid (HK2.out.obj HBX.out HRS.out)
         clear q2 k2 s2
         go_wp2_with fail
         rw [show ((k:Int)+1)=((k+1:Nat):Int) from rfl]
         generalize (w'.drewN q).setCell ⟨p,3,none⟩ (.int .i64 ((k+1:Nat):Int))=w2 at *
         clear c3 f3
         refine (HHX.out _).mono ?_
         rintro e w3 ⟨rfl,rfl⟩
         have HO:=Lib.hid (zdY HQ2.out)
         go_wp2_with fail
         refine HO.out.mono ?_
         rintro e w5 ⟨rfl,hk3,hp3⟩
         have HRS2:=Lib.hid (show ¬S2 r from fun e=>(HS2.out r e).elim HRS.out (fun h=>by have:=(Array.getElem?_eq_some_iff.1 HBX.out).1;omega))
         have HB9:=Lib.hid (hk3.obj HB2.out HRS2.out)
         have HK9:=Lib.hid (zak.trans HK0.out (zak.trans HK2.out hk3 HS2.out) (fun _ h=>.inl h))
         have HP3:=Lib.hid hp3
         clear hk3 hp3
         obtain ⟨⟨k0,k1,k2,k3⟩,f0,f1,f2,f3⟩:=zae HB9.out
         go_wp2
         simp only [Exit.jump]
         refine bodyPost_ret (zaa rfl _ _ r 48 _ (0,0) _ rfl (set4 HB9.out _ _ _ _) Tryz.underlying48 rfl zal _ rfl) rfl ?_
         obtain ⟨ad9,v9,hsc⟩:=HQ2.out
         have hpr:p≠r:=fun e=>HRS.out (e▸HSP.out)
         refine hex_some HVV.out (za6 HK9.out HRG.out _ _ _ _) (by rw [List.length_drop];omega) ?_
         rw [cell_of_row _ p 3 (scV X ad9 v9 (k+1)) 171 (0,0) ((zaO hpr _ _ _ _).trans (HP3.out.trans hsc.blk)),List.length_drop,show X.bs.length-(X.bs.length-(k+1))=k+1 from by omega]
         rfl
     have h62d:((c.toNat:Int)==62)=false:=by rw [beq_eq_false_iff_ne];intro e;exact h62 (UInt8.toNat_inj.1 (Int.ofNat_inj.1 e))
     rw [if_neg h62] at hv
     clear h62
     obtain ⟨sp,hsp2⟩:∃sp,isSp c=sp:=⟨_,rfl⟩
     rw [hsp2] at hv hsp
     have HSP2:=Lib.hid hsp
     clear hsp hsp2
     generalize hexD c=d at *
     cases sp
     case true =>
       rw [if_pos rfl] at hv
       have HVV:=Lib.hid hv
       clear hv
       go_wp2_with fail
       refine HP.out.mono ?_
       rintro e w1 ⟨rfl,q,rfl⟩
       obtain ⟨c3,f3⟩:=HC3.out q
       obtain ⟨S2,q2,k2,s2⟩:=HMV.out q
       have HQ2:=Lib.hid q2
       have HK2:=Lib.hid (zak.trans HK1.out (zak.trans ((zak.refl S1 w').drewN q) k2 (fun _ h=>.inl h)) HS1.out)
       have HS2:=Lib.hid (fun b (hb:S2 b)=>(s2 b hb).elim (HS1.out b) (fun h=>Or.inr (Nat.le_trans HK1.out.size h)))
       have HB2:=Lib.hid (HK2.out.obj HBX.out HRS.out)
       clear q2 k2 s2
       go_wp2_with fail
       rw [show ((k:Int)+1)=((k+1:Nat):Int) from rfl]
       generalize (w'.drewN q).setCell ⟨p,3,none⟩ (.int .i64 ((k+1:Nat):Int))=w2 at *
       clear c3 f3
       refine (HHX.out _).mono ?_
       rintro e w3 ⟨rfl,rfl⟩
       have HN:=Lib.hid (show zan W0 S p X out (k+1) w2 from zan.trans HK2.out HS2.out (zan.refl HQ2.out))
       go_wp2_with fail
       refine (HSP2.out _).mono ?_
       rintro e w3 ⟨rfl,rfl⟩
       go_wp2
       go_step3
       exact ⟨rfl,X.bs.length-(k+1),by have:=HM.out;omega,hf,k+1,out,_,_,_,_,_,_,_,_,_,_,_,_,_,_,_,_,_,_,_,_,_,_,_,_,_,_,_,_,_,_,_,_,_,_,_,_,_,_,_,_,_,_,_,_,_,_,_,_,_,_,_,_,_,_,_,_,_,_,_,_,_,_,_,_,_,_,_,_,_,rfl,Lib.hid ⟨⟨hf0,hf1⟩,by first|omega|(simp;omega),by omega,HN.out,HVV.out⟩,rfl⟩
     rw [if_neg (by decide)] at hv
     by_cases hd0:d<0
     · rw [if_pos hd0] at hv
       have HNONE:=Lib.hid hv
       clear hv
       go_wp2_with fail
       refine HP.out.mono ?_
       rintro e w1 ⟨rfl,q,rfl⟩
       obtain ⟨c3,f3⟩:=HC3.out q
       obtain ⟨S2,q2,k2,s2⟩:=HMV.out q
       have HQ2:=Lib.hid q2
       have HK2:=Lib.hid (zak.trans HK1.out (zak.trans ((zak.refl S1 w').drewN q) k2 (fun _ h=>.inl h)) HS1.out)
       have HS2:=Lib.hid (fun b (hb:S2 b)=>(s2 b hb).elim (HS1.out b) (fun h=>Or.inr (Nat.le_trans HK1.out.size h)))
       have HB2:=Lib.hid (HK2.out.obj HBX.out HRS.out)
       clear q2 k2 s2
       go_wp2_with fail
       rw [show ((k:Int)+1)=((k+1:Nat):Int) from rfl]
       generalize (w'.drewN q).setCell ⟨p,3,none⟩ (.int .i64 ((k+1:Nat):Int))=w2 at *
       clear c3 f3
       refine (HHX.out _).mono ?_
       rintro e w3 ⟨rfl,rfl⟩
       go_wp2_with fail
       refine (HSP2.out _).mono ?_
       rintro e w3 ⟨rfl,rfl⟩
       have HB9:=HB2
       have HK9:=Lib.hid (zak.trans HK0.out HK2.out (fun _ h=>.inl h))
       obtain ⟨⟨k0,k1,k2,k3⟩,f0,f1,f2,f3⟩:=zae HB9.out
       go_wp2
       simp only [Exit.jump]
       refine bodyPost_ret (zaa rfl _ _ r 48 _ (0,0) _ rfl (set4 HB9.out _ _ _ _) Tryz.underlying48 rfl zal _ rfl) rfl ?_
       exact hex_form HNONE.out (za6 HK9.out HRG.out _ _ _ _)
     rw [if_neg hd0] at hv
     have hd0d:decide (d<0)=false:=by simpa using hd0
     have hd1:0≤d:=by omega
     clear hd0
     by_cases hh:hf<0
     · rw [if_pos hh] at hv
       have HVV:=Lib.hid hv
       clear hv
       go_wp2_with fail
       refine HP.out.mono ?_
       rintro e w1 ⟨rfl,q,rfl⟩
       obtain ⟨c3,f3⟩:=HC3.out q
       obtain ⟨S2,q2,k2,s2⟩:=HMV.out q
       have HQ2:=Lib.hid q2
       have HK2:=Lib.hid (zak.trans HK1.out (zak.trans ((zak.refl S1 w').drewN q) k2 (fun _ h=>.inl h)) HS1.out)
       have HS2:=Lib.hid (fun b (hb:S2 b)=>(s2 b hb).elim (HS1.out b) (fun h=>Or.inr (Nat.le_trans HK1.out.size h)))
       have HB2:=Lib.hid (HK2.out.obj HBX.out HRS.out)
       clear q2 k2 s2
       go_wp2_with fail
       rw [show ((k:Int)+1)=((k+1:Nat):Int) from rfl]
       generalize (w'.drewN q).setCell ⟨p,3,none⟩ (.int .i64 ((k+1:Nat):Int))=w2 at *
       clear c3 f3
       refine (HHX.out _).mono ?_
       rintro e w3 ⟨rfl,rfl⟩
       have HN:=Lib.hid (show zan W0 S p X out (k+1) w2 from zan.trans HK2.out HS2.out (zan.refl HQ2.out))
       go_wp2_with fail
       refine (HSP2.out _).mono ?_
       rintro e w3 ⟨rfl,rfl⟩
       go_wp2
       go_step3
       exact ⟨rfl,X.bs.length-(k+1),by have:=HM.out;omega,d,k+1,out,_,_,_,_,_,_,_,_,_,_,_,_,_,_,_,_,_,_,_,_,_,_,_,_,_,_,_,_,_,_,_,_,_,_,_,_,_,_,_,_,_,_,_,_,_,_,_,_,_,_,_,_,_,_,_,_,_,_,_,_,_,_,_,_,_,_,_,_,_,rfl,Lib.hid ⟨⟨by omega,hdb.2⟩,by first|omega|(simp;omega),by omega,HN.out,HVV.out⟩,rfl⟩
     · rw [if_neg hh] at hv
       have HVV:=Lib.hid hv
       have hhd:decide (hf<0)=false:=by simpa using hh
       have hh1:0≤hf:=by omega
       have hdb2:=hdb.2
       have HBY:=Lib.hid (byte_of (16 * hf+d) (by omega) (by omega))
       clear hv hh hdb
       go_wp2_with fail
       refine HP.out.mono ?_
       rintro e w1 ⟨rfl,q,rfl⟩
       obtain ⟨c3,f3⟩:=HC3.out q
       obtain ⟨S2,q2,k2,s2⟩:=HMV.out q
       have HQ2:=Lib.hid q2
       have HK2:=Lib.hid (zak.trans HK1.out (zak.trans ((zak.refl S1 w').drewN q) k2 (fun _ h=>.inl h)) HS1.out)
       have HS2:=Lib.hid (fun b (hb:S2 b)=>(s2 b hb).elim (HS1.out b) (fun h=>Or.inr (Nat.le_trans HK1.out.size h)))
       have HB2:=Lib.hid (HK2.out.obj HBX.out HRS.out)
       clear q2 k2 s2
       go_wp2_with fail
       rw [show ((k:Int)+1)=((k+1:Nat):Int) from rfl]
       generalize (w'.drewN q).setCell ⟨p,3,none⟩ (.int .i64 ((k+1:Nat):Int))=w2 at *
       clear c3 f3
       refine (HHX.out _).mono ?_
       rintro e w3 ⟨rfl,rfl⟩
       go_wp2_with fail
       refine (HSP2.out _).mono ?_
       rintro e w3 ⟨rfl,rfl⟩
       have HWB:=Lib.hid (zaU HQ2.out (UInt8.ofNat (16 * hf+d).toNat) (16 * hf+d) HBY.out (by omega))
       go_wp2_with fail
       refine HWB.out.mono ?_
       rintro e w4 ⟨rfl,hn8⟩
       obtain ⟨S4,q4,k4,s4⟩:=hn8
       have HQ4:=Lib.hid q4
       have HK4:=Lib.hid (zak.trans HK2.out k4 HS2.out)
       have HS4:=Lib.hid (fun b (hb:S4 b)=>(s4 b hb).elim (HS2.out b) (fun h=>Or.inr (Nat.le_trans HK2.out.size h)))
       have HB4:=Lib.hid (HK4.out.obj HBX.out HRS.out)
       clear q4 k4 s4
       have HN:=Lib.hid (show zan W0 S p X _ (k+1) w4 from zan.trans HK4.out HS4.out (zan.refl HQ4.out))
       go_wp2
       go_step3
       exact ⟨rfl,X.bs.length-(k+1),by have:=HM.out;omega,-1,k+1,_,_,_,_,_,_,_,_,_,_,_,_,_,_,_,_,_,_,_,_,_,_,_,_,_,_,_,_,_,_,_,_,_,_,_,_,_,_,_,_,_,_,_,_,_,_,_,_,_,_,_,_,_,_,_,_,_,_,_,_,_,_,_,_,_,_,_,_,_,_,rfl,Lib.hid ⟨by omega,by first|omega|(simp;omega),by omega,HN.out,HVV.out⟩,rfl⟩
end Go.Proofs.YtkhcjoomijkfbaaGreatDoor
