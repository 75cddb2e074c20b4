/-
  Our texts Lm7 to Lex7, in one.
-/
import Derived.Test.YtkhcjoomijkfbaaGreatDoorPkT3
import Derived.BigQuiet
import Derived.Sort.AtCall
import Derived.Lib.SmallJoins
import Derived.Deep.Cut
import Derived.Test.YtkhcjoomijkfbaaGreatDoorProg
import Derived.StillTailTactics
import Derived.ScopeJumps
import Derived.WalkMore
import Derived.Deep.LoopGhost
set_option maxRecDepth 8000
set_option maxHeartbeats 8000000
namespace Go.Proofs.YtkhcjoomijkfbaaGreatDoor
open Go.RowKit
theorem wi_yes {n:Int} (h1:1≤n) (h2:n≤4096):wi n 1 4096=true:=by
 unfold wi
 rw [decide_eq_true h1,decide_eq_true h2];rfl
theorem zfN (n : Int) (h0 : 0 ≤ n) (h1 : n ≤ 2147483647) (W : World) (m : Nat) : Calls Tryz.prog 19 #[.int .i64 n] (W.drewN m) fun e w' => e = .returned (.string (mkB (padN n))) ∧ ∃ q, w' = W.drewN q :=
 (lpad_ok n h0 h1 (W.drewN m)).mono fun _ _ ⟨he,q,hq⟩=>⟨he,m+q,by rw [hq,World.drewN_drewN]⟩
theorem cells5s {w:World} {b:Nat} {x0 x1 x2 x3 x4:Value} {t:TypeId} (h:w.heap[b]?=some (.cells #[x0,x1,x2,x3,x4] t (0,0))) :
   w.cell? ⟨b,0,none⟩=some x0∧w.cell? ⟨b,1,none⟩=some x1∧w.cell? ⟨b,2,none⟩=some x2∧w.cell? ⟨b,3,none⟩=some x3∧w.cell? ⟨b,4,none⟩=some x4:=by
 refine ⟨?_,?_,?_,?_,?_⟩<;>(rw [cell_of_row w b _ _ _ _ h];rfl)
theorem conv_row {W:World} {T:List UInt8} (hT:T.length≤1000000):Row (Lib.bytesWorld W 5 (mkB T)) 1 (some ⟨W.heap.size,0,none⟩) T.length (grownCap W T.length 0 5) (T.map u8C):=by
 refine ⟨by simp,grownCap_ge _ _ _ _,grownCap_le_maxLen _ _ _ _ (by unfold maxLen;omega),fun h=>(by cases h),fun _=>⟨W.heap.size,0,rfl,by rw [Lib.bytesWorld_size];omega,fun j u hj=>?_⟩⟩
 rw [List.getElem?_map] at hj
 obtain ⟨x,hx,rfl⟩:=Option.map_eq_some_iff.1 hj
 obtain ⟨hl,he⟩:=List.getElem?_eq_some_iff.1 hx
 rw [Nat.zero_add,Lib.bytesWorld_cell W _ _ j (by rw [zaI];exact hl)]
 show some (Value.int .u8 (T.getD j 0).toNat)=some (u8C x)
 rw [List.getD_eq_getElem?_getD,hx];rfl
theorem mkB_addl (a b:List UInt8):mkB a++mkB b=mkB (a++b):=ByteArray.mk_append_mk a b
theorem lin_text (n:Int) (l:LinD):mkB (linB n l)=(mkB (decL n.toNat)++⟨#[32,48,32,111,98,106,10,60,60,47,76,105,110,101,97,114,105,122,101,100,32,49,47]⟩++⟨#[76]⟩++⟨#[32]⟩++mkB (padN l.len)++⟨#[47,72,32,91]⟩++mkB (padN l.at_)++⟨#[32]⟩++mkB (padN l.n)++⟨#[93]⟩ ++
   (⟨#[47]⟩++⟨#[79]⟩++⟨#[32]⟩++mkB (padN l.obj))++(⟨#[47]⟩++⟨#[69]⟩++⟨#[32]⟩++mkB (padN l.fin))++(⟨#[47]⟩++⟨#[78]⟩++⟨#[32]⟩++mkB (padN l.pages))++(⟨#[47]⟩++⟨#[84]⟩++⟨#[32]⟩++mkB (padN l.main)))++⟨#[62,62,10,101,110,100,111,98,106,10]⟩:=by
 have e:∀x:List UInt8,(⟨x.toArray⟩:ByteArray)=mkB x:=fun _=>rfl
 simp only [e,mkB_addl]
 unfold linB obj0 tx1 txH txO txE txN txT txX
 congr 1
 simp
def OkEnd (w:World) (n:Int) (l:LinD) (e:Ending) (w':World):Prop :=
 ∃g c,e=.returned (.tuple #[.slice (some ⟨g,0,none⟩) (linB n l).length c,.int .i64 0])∧Row w' 1 (some ⟨g,0,none⟩) (linB n l).length c ((linB n l).map u8C)∧w.heap.size≤g∧g<w'.heap.size∧Below w.heap.size w w'
def RoomAt (W:World) (g L c:Nat):Prop:=∀j,j<c-L→(W.cell? ⟨g,L+j,none⟩).isSome=true∧W.frozen? ⟨g,L+j,none⟩=false
theorem conv_room {W:World} {T:List UInt8}:RoomAt (Lib.bytesWorld W 5 (mkB T)) W.heap.size T.length (grownCap W T.length 0 5):=by
 have hcap:=grownCap_ge W T.length 0 5
 have hnew:=Lib.bytesWorld_at_new W 5 (mkB T)
 have hsz:(Lib.bytesCells W 5 (mkB T)).size=grownCap W T.length 0 5:=by
   unfold Lib.bytesCells
   rw [Array.size_append,Array.size_map,Array.size_replicate,zaI]
   show T.toArray.size+_=_
   rw [List.size_toArray];omega
 intro j hj
 constructor
 · unfold World.cell?
   rw [hnew]
   dsimp only
   rw [Array.getElem?_eq_getElem (by rw [hsz];omega)];rfl
 · unfold World.frozen?
   rw [hnew]
   dsimp only
   rw [hsz]
   simp only [Bool.and_eq_false_iff,decide_eq_false_iff_not]
   left;omega
def OkRoom (w:World) (n:Int) (l:LinD) (e:Ending) (w':World):Prop :=
 ∃g c,e=.returned (.tuple #[.slice (some ⟨g,0,none⟩) (linB n l).length c,.int .i64 0])∧Row w' 1 (some ⟨g,0,none⟩) (linB n l).length c ((linB n l).map u8C)∧RoomAt w' g (linB n l).length c∧w.heap.size≤g∧g<w'.heap.size∧Below w.heap.size w w'
theorem lprint_room {n:Int} {l:LinD} (h1:1≤n) (h2:n≤4096) (hl:zdN l=true) (w:World):Calls Tryz.prog 8 #[.int .i64 n,linA l] w (OkRoom w n l):=by
 have hw:=wi_yes h1 h2
 have HB:=Lib.hid (zah w (.cells #[.int .i64 l.len,.int .i64 l.at_,.int .i64 l.n,.int .i64 l.obj,.int .i64 l.fin,.int .i64 l.pages,.int .i64 l.main] 23))
 have HK:=Lib.hid (zac (w:=w) (b:=w.heap.size) (.cells #[.int .i64 l.len,.int .i64 l.at_,.int .i64 l.n,.int .i64 l.obj,.int .i64 l.fin,.int .i64 l.pages,.int .i64 l.main] 23) rfl)
 have hc:chkL l=0:=chkL_iff.2 hl
 have HC:=Lib.hid (fun W=>show Calls Tryz.prog 10 #[linA l] W (fun e w'=>e=.returned (.int .i64 0)∧Below W.heap.size W w') from (zdp l W).mono fun e w' ⟨he,hb⟩=>⟨by rw [he,hc],hb⟩)
 obtain ⟨l1,l2,l3,l4,l5,l6,l7,l8,l9,l10,l11,l12,l13⟩:=zdb.1 hl
 have P1:=Lib.hid (fun W m=>zfN l.len (by omega) (by omega) W m)
 have P2:=Lib.hid (fun W m=>zfN l.at_ (by omega) (by omega) W m)
 have P3:=Lib.hid (fun W m=>zfN l.n (by omega) (by omega) W m)
 have P4:=Lib.hid (fun W m=>zfN l.obj (by omega) (by omega) W m)
 have P5:=Lib.hid (fun W m=>zfN l.fin (by omega) (by omega) W m)
 have P6:=Lib.hid (fun W m=>zfN l.pages (by omega) (by omega) W m)
 have P7:=Lib.hid (fun W m=>zfN l.main (by omega) (by omega) W m)
 have HNO:=Lib.hid (fun W=>number_ok n h1 h2 W)
 have s0:(mkB (decL n.toNat)).size≤10:=by rw [zaI];exact Nat.le_trans (zaQ 9 n.toNat (by omega)) (by omega)
 have s1:(mkB (padN l.len)).size=10:=by rw [zaI];exact zaE (by omega) (by omega)
 have s2:(mkB (padN l.at_)).size=10:=by rw [zaI];exact zaE (by omega) (by omega)
 have s3:(mkB (padN l.n)).size=10:=by rw [zaI];exact zaE (by omega) (by omega)
 have s4:(mkB (padN l.obj)).size=10:=by rw [zaI];exact zaE (by omega) (by omega)
 have s5:(mkB (padN l.fin)).size=10:=by rw [zaI];exact zaE (by omega) (by omega)
 have s6:(mkB (padN l.pages)).size=10:=by rw [zaI];exact zaE (by omega) (by omega)
 have s7:(mkB (padN l.main)).size=10:=by rw [zaI];exact zaE (by omega) (by omega)
 obtain ⟨T,hT⟩:∃T,T=linB n l:=⟨_,rfl⟩
 unfold OkRoom
 rw [←hT]
 have hTl:T.length≤1000000:=by rw [hT,zhQ hl];have:=zaQ 9 n.toNat (by omega);omega
 have HTL:=Lib.hid hTl
 have hTX:=lin_text n l
 rw [←hT] at hTX
 clear hTl
 clear l1 l2 l3 l4 l5 l6 l7 l8 l9 l10 l11 l12 l13 h1 h2 hl hc hT
 unfold linA at HC ⊢
 generalize mkB (decL n.toNat)=N0 at *
 generalize mkB (padN l.len)=Q1 at *
 generalize mkB (padN l.at_)=Q2 at *
 generalize mkB (padN l.n)=Q3 at *
 generalize mkB (padN l.obj)=Q4 at *
 generalize mkB (padN l.fin)=Q5 at *
 generalize mkB (padN l.pages)=Q6 at *
 generalize mkB (padN l.main)=Q7 at *
 obtain ⟨a,b,c,d,e,f,g⟩:=l
 dsimp only at *
 go_enter Tryz.func8,Tryz.ntmps8
 go_upto_region 1 with fail
 obtain ⟨r,hr⟩:∃r,r=w.heap.size:=⟨_,rfl⟩
 rw [←hr] at HK ⊢
 clear hr
 generalize w.alloc _=W1 at *
 obtain ⟨c0,c1,c2,c3,c4,c5,c6⟩:=za4 HK.out
 go_wp2_with (go_at_call 15;refine (zeK _ _ _ _).mono ?_;rintro e w' ⟨rfl,rfl⟩)
 refine (HC.out _).mono ?_
 rintro e w2 ⟨rfl,hb2⟩
 have HB2:=Lib.hid (HB.out.trans (hb2.mono HB.out.size))
 have HK2:=Lib.hid (zab hb2 HK.out)
 clear hb2 c0 c1 c2 c3 c4 c5 c6 HB HK HC
 go_wp2_with fail
 refine (intOf29 n _).mono ?_
 rintro e w3 ⟨rfl,hb3⟩
 have HB3:=Lib.hid (HB2.out.trans (hb3.mono HB2.out.size))
 have HK3:=Lib.hid (zab hb3 HK2.out)
 clear hb3 HB2 HK2
 go_wp2_with fail
 refine (HNO.out _).mono ?_
 rintro e w4 ⟨rfl,hb4⟩
 have HB4:=Lib.hid (HB3.out.trans (hb4.mono HB3.out.size))
 have HK4:=Lib.hid (zab hb4 HK3.out)
 clear hb4 HB3 HK3 HNO
 go_wp2_with fail
 refine (names_any _).mono ?_
 rintro e w5 ⟨rfl,hb5⟩
 unfold nmA
 have hb6:=hb5.alloc hb5.size (.cells #[.string ⟨#[76]⟩,.string ⟨#[79]⟩,.string ⟨#[69]⟩,.string ⟨#[78]⟩,.string ⟨#[84]⟩] 50)
 have HB6:=Lib.hid (HB4.out.trans (hb6.mono HB4.out.size))
 have HK6:=Lib.hid (zab hb6 HK4.out)
 have HN6:=Lib.hid (zac (w:=w5) (b:=w5.heap.size) (.cells #[.string ⟨#[76]⟩,.string ⟨#[79]⟩,.string ⟨#[69]⟩,.string ⟨#[78]⟩,.string ⟨#[84]⟩] 50) rfl)
 clear hb5 hb6 HB4 HK4
 go_upto_region 8 with fail
 obtain ⟨m,hm⟩:∃m,m=w5.heap.size:=⟨_,rfl⟩
 rw [←hm] at HN6 ⊢
 clear hm
 generalize w5.alloc _=W6 at *
 obtain ⟨c0,c1,c2,c3,c4,c5,c6⟩:=za4 HK6.out
 obtain ⟨m0,m1,m2,m3,m4⟩:=cells5s HN6.out
 have q0:¬9223372036854775807<N0.size+23:=by omega
 have q1:¬9223372036854775807<N0.size+23+1:=by omega
 have q2:¬9223372036854775807<N0.size+23+1+1:=by omega
 have q3:¬9223372036854775807<N0.size+23+1+1+Q1.size:=by omega
 have q4:¬9223372036854775807<N0.size+23+1+1+Q1.size+4:=by omega
 have q5:¬9223372036854775807<N0.size+23+1+1+Q1.size+4+Q2.size:=by omega
 have q6:¬9223372036854775807<N0.size+23+1+1+Q1.size+4+Q2.size+1:=by omega
 have q7:¬9223372036854775807<N0.size+23+1+1+Q1.size+4+Q2.size+1+Q3.size:=by omega
 have q8:¬9223372036854775807<N0.size+23+1+1+Q1.size+4+Q2.size+1+Q3.size+1:=by omega
 obtain ⟨Z,hZ⟩:∃Z,Z=N0++⟨#[32,48,32,111,98,106,10,60,60,47,76,105,110,101,97,114,105,122,101,100,32,49,47]⟩++⟨#[76]⟩++⟨#[32]⟩++Q1++⟨#[47,72,32,91]⟩++Q2++⟨#[32]⟩++Q3++⟨#[93]⟩:=⟨_,rfl⟩
 have hZs:Z.size≤100:=by rw [hZ];rw [ByteArray.size_append,ByteArray.size_append,ByteArray.size_append,ByteArray.size_append,ByteArray.size_append,ByteArray.size_append,ByteArray.size_append,ByteArray.size_append,ByteArray.size_append,show (⟨#[32,48,32,111,98,106,10,60,60,47,76,105,110,101,97,114,105,122,101,100,32,49,47]⟩:ByteArray).size=23 from rfl,show (⟨#[76]⟩:ByteArray).size=1 from rfl,show (⟨#[32]⟩:ByteArray).size=1 from rfl,show (⟨#[47,72,32,91]⟩:ByteArray).size=4 from rfl,show (⟨#[93]⟩:ByteArray).size=1 from rfl];omega
 rw [←hZ] at hTX
 have HTX:=Lib.hid hTX
 have HZ:=Lib.hid hZ
 clear hTX hZ
 clear s1 s2 s3
 go_wp2_with fail
 go_quiet (first
   | (go_at_call_of 19 (Value.int .i64 a);exact P1.out _ _)
   | (go_at_call_of 19 (Value.int .i64 b);exact P2.out _ _)
   | (go_at_call_of 19 (Value.int .i64 c);exact P3.out _ _))
 rw [←HZ.out]
 clear q0 q1 q2 q3 q4 q5 q6 q7 q8 HZ P1 P2 P3 s0
 have hb7:=zad (Below.refl W6.heap.size W6) nq
 have HB7:=Lib.hid (HB6.out.trans (hb7.mono HB6.out.size))
 have HK7:=Lib.hid (zab hb7 HK6.out)
 have HN7:=Lib.hid (zab hb7 HN6.out)
 clear hb7 HB6 HK6 HN6 m0 m1 m2 m3 m4 c0 c1 c2 c3 c4 c5 c6
 generalize W6.drewN nq=W7 at *
 obtain ⟨c0,c1,c2,c3,c4,c5,c6⟩:=za4 HK7.out
 have hb8:=zah W7 (.cells #[.int .i64 0,.int .i64 d,.int .i64 e,.int .i64 f,.int .i64 g] 53)
 have HB8:=Lib.hid (HB7.out.trans (hb8.mono HB7.out.size))
 have HK8:=Lib.hid (zab hb8 HK7.out)
 have HN8:=Lib.hid (zab hb8 HN7.out)
 have HX8:=Lib.hid (zac (w:=W7) (b:=W7.heap.size) (.cells #[.int .i64 0,.int .i64 d,.int .i64 e,.int .i64 f,.int .i64 g] 53) rfl)
 clear hb8 HB7 HK7 HN7
 go_upto_region 10 with fail
 obtain ⟨x,hx⟩:∃x,x=W7.heap.size:=⟨_,rfl⟩
 rw [←hx] at HX8 ⊢
 clear hx c0 c1 c2 c3 c4 c5 c6
 generalize W7.alloc _=W8 at *
 obtain ⟨sk,hk1,hk2,hk3,hk4,hk5⟩:∃sk:Nat→ByteArray,sk 1=Z∧sk 2=sk 1++(⟨#[47]⟩++⟨#[79]⟩++⟨#[32]⟩++Q4)∧sk 3=sk 2++(⟨#[47]⟩++⟨#[69]⟩++⟨#[32]⟩++Q5)∧sk 4=sk 3++(⟨#[47]⟩++⟨#[78]⟩++⟨#[32]⟩++Q6)∧sk 5=sk 4++(⟨#[47]⟩++⟨#[84]⟩++⟨#[32]⟩++Q7) :=
   ⟨fun k=>match k with|1=>Z|2=>Z++(⟨#[47]⟩++⟨#[79]⟩++⟨#[32]⟩++Q4)|3=>Z++(⟨#[47]⟩++⟨#[79]⟩++⟨#[32]⟩++Q4)++(⟨#[47]⟩++⟨#[69]⟩++⟨#[32]⟩++Q5)|4=>Z++(⟨#[47]⟩++⟨#[79]⟩++⟨#[32]⟩++Q4)++(⟨#[47]⟩++⟨#[69]⟩++⟨#[32]⟩++Q5)++(⟨#[47]⟩++⟨#[78]⟩++⟨#[32]⟩++Q6)|_=>Z++(⟨#[47]⟩++⟨#[79]⟩++⟨#[32]⟩++Q4)++(⟨#[47]⟩++⟨#[69]⟩++⟨#[32]⟩++Q5)++(⟨#[47]⟩++⟨#[78]⟩++⟨#[32]⟩++Q6)++(⟨#[47]⟩++⟨#[84]⟩++⟨#[32]⟩++Q7),rfl,rfl,rfl,rfl,rfl⟩
 have z1:(⟨#[47]⟩:ByteArray).size=1:=rfl
 have z2:(⟨#[32]⟩:ByteArray).size=1:=rfl
 have z3:(⟨#[79]⟩:ByteArray).size=1:=rfl
 have z4:(⟨#[69]⟩:ByteArray).size=1:=rfl
 have z5:(⟨#[78]⟩:ByteArray).size=1:=rfl
 have z6:(⟨#[84]⟩:ByteArray).size=1:=rfl
 have y1:(sk 1).size≤100:=by rw [hk1];exact hZs
 have y2:(sk 2).size≤120:=by rw [hk2,ByteArray.size_append,ByteArray.size_append,ByteArray.size_append,ByteArray.size_append,z1,z2,z3];omega
 have y3:(sk 3).size≤140:=by rw [hk3,ByteArray.size_append,ByteArray.size_append,ByteArray.size_append,ByteArray.size_append,z1,z2,z4];omega
 have y4:(sk 4).size≤160:=by rw [hk4,ByteArray.size_append,ByteArray.size_append,ByteArray.size_append,ByteArray.size_append,z1,z2,z5];omega
 have y5:(sk 5).size≤180:=by rw [hk5,ByteArray.size_append,ByteArray.size_append,ByteArray.size_append,ByteArray.size_append,z1,z2,z6];omega
 have HT5:=Lib.hid (show mkB T=sk 5++⟨#[62,62,10,101,110,100,111,98,106,10]⟩ from by rw [HTX.out,hk5,hk4,hk3,hk2,hk1])
 have HK2:=Lib.hid hk2
 have HK3:=Lib.hid hk3
 have HK4:=Lib.hid hk4
 have HK5:=Lib.hid hk5
 rw [←hk1]
 clear hk1 hk2 hk3 hk4 hk5 HTX z1 z2 z3 z4 z5 z6 hZs
 go_wp2_with fail
 go_loopw [10,12] (fun vs vi wr=>∃k:Nat,vi=.int .i64 k∧vs=.string (sk k)∧1≤k∧k≤5∧Hid (Below W8.heap.size W8 wr)) (fun _ vi _=>5-(intOf vi).toNat)
 case atStart=>exact ⟨1,rfl,rfl,Nat.le_refl _,by omega,Lib.hid (Below.refl _ _)⟩
 case round =>
   obtain ⟨k,rfl,rfl,hk1,hk5,HW⟩:=hrel
   obtain ⟨m0,m1,m2,m3,m4⟩:=cells5s (zab HW.out HN8.out)
   obtain ⟨x0,x1,x2,x3,x4⟩:=cells5s (zab HW.out HX8.out)
   by_cases hke:k=5
   · subst hke
     have hcv:=fun (W:World) (s:ByteArray)=>Lib.run_convert_string_bytes (P:=Tryz.prog) W 9 24 5 s Tryz.underlying9 Tryz.underlying24 Tryz.underlying5
     have hm:¬9223372036854775807<(sk 5).size+10:=by omega
     have hd:decide (((5:Nat):Int)<5)=false:=rfl
     have HW2:=Lib.hid (HB8.out.trans (HW.out.mono HB8.out.size))
     clear y1 y2 y3 y4 y5 HK2 HK3 HK4 HK5 P4 P5 P6 P7 s4 s5 s6 s7 m0 m1 m2 m3 m4 x0 x1 x2 x3 x4 HN8 HX8 HK8 HW hk1 hk5
     have HSZ:=Lib.hid (show (sk 5).size+10=T.length from by have h:=congrArg ByteArray.size HT5.out;rw [zaI,ByteArray.size_append] at h;rw [h];rfl)
     go_wp2_with fail
     go_ret2
     rw [←HT5.out]
     exact ⟨wr.heap.size,grownCap wr T.length 0 5,by rw [←HSZ.out];rfl,conv_row HTL.out,conv_room,HW2.out.size,by rw [Lib.bytesWorld_size];omega,HW2.out.trans (Joins.below_bytesWorld _ _ _ _ HW2.out.size)⟩
   have hcs:k=1∨k=2∨k=3∨k=4:=by omega
   clear hk1 hk5 hke
   rcases hcs with rfl|rfl|rfl|rfl
   · have h1 : ¬ 9223372036854775807 < 1 + 1 := by omega
     have h2:¬9223372036854775807<1+1+1:=by omega
     have h3:¬9223372036854775807<1+1+1+Q4.size:=by omega
     have h4:¬9223372036854775807<2+1+Q4.size:=by omega
     have h5:¬9223372036854775807<3+Q4.size:=by omega
     have h6:¬9223372036854775807<(sk 1).size+(3+Q4.size):=by omega
     have h7:¬9223372036854775807<(sk 1).size+(1+1+1+Q4.size):=by omega
     clear y1 y2 y3 y4 y5 s4 s5 s6 s7
     go_wp2_with fail
     go_quiet ((go_at_call 19;exact P4.out _ _))
     go_wp2_with fail
     exact ⟨⟨2,rfl,by rw [HK2.out],by omega,by omega,Lib.hid (zad HW.out nq)⟩,by simp [intOf]⟩
   · have h1 : ¬ 9223372036854775807 < 1 + 1 := by omega
     have h2:¬9223372036854775807<1+1+1:=by omega
     have h3:¬9223372036854775807<1+1+1+Q5.size:=by omega
     have h4:¬9223372036854775807<2+1+Q5.size:=by omega
     have h5:¬9223372036854775807<3+Q5.size:=by omega
     have h6:¬9223372036854775807<(sk 2).size+(3+Q5.size):=by omega
     have h7:¬9223372036854775807<(sk 2).size+(1+1+1+Q5.size):=by omega
     clear y1 y2 y3 y4 y5 s4 s5 s6 s7
     go_wp2_with fail
     go_quiet ((go_at_call 19;exact P5.out _ _))
     go_wp2_with fail
     exact ⟨⟨3,rfl,by rw [HK3.out],by omega,by omega,Lib.hid (zad HW.out nq)⟩,by simp [intOf]⟩
   · have h1 : ¬ 9223372036854775807 < 1 + 1 := by omega
     have h2:¬9223372036854775807<1+1+1:=by omega
     have h3:¬9223372036854775807<1+1+1+Q6.size:=by omega
     have h4:¬9223372036854775807<2+1+Q6.size:=by omega
     have h5:¬9223372036854775807<3+Q6.size:=by omega
     have h6:¬9223372036854775807<(sk 3).size+(3+Q6.size):=by omega
     have h7:¬9223372036854775807<(sk 3).size+(1+1+1+Q6.size):=by omega
     clear y1 y2 y3 y4 y5 s4 s5 s6 s7
     go_wp2_with fail
     go_quiet ((go_at_call 19;exact P6.out _ _))
     go_wp2_with fail
     exact ⟨⟨4,rfl,by rw [HK4.out],by omega,by omega,Lib.hid (zad HW.out nq)⟩,by simp [intOf]⟩
   · have h1 : ¬ 9223372036854775807 < 1 + 1 := by omega
     have h2:¬9223372036854775807<1+1+1:=by omega
     have h3:¬9223372036854775807<1+1+1+Q7.size:=by omega
     have h4:¬9223372036854775807<2+1+Q7.size:=by omega
     have h5:¬9223372036854775807<3+Q7.size:=by omega
     have h6:¬9223372036854775807<(sk 4).size+(3+Q7.size):=by omega
     have h7:¬9223372036854775807<(sk 4).size+(1+1+1+Q7.size):=by omega
     clear y1 y2 y3 y4 y5 s4 s5 s6 s7
     go_wp2_with fail
     go_quiet ((go_at_call 19;exact P7.out _ _))
     go_wp2_with fail
     exact ⟨⟨5,rfl,by rw [HK5.out],by omega,by omega,Lib.hid (zad HW.out nq)⟩,by simp [intOf]⟩
theorem lprint_ok {n:Int} {l:LinD} (h1:1≤n) (h2:n≤4096) (hl:zdN l=true) (w:World):Calls Tryz.prog 8 #[.int .i64 n,linA l] w (OkEnd w n l) :=
 (lprint_room h1 h2 hl w).mono fun _ _ ⟨g,c,h,hr,_,r⟩=>⟨g,c,h,hr,r⟩
theorem rform_int (n : Int) (h1 : 1 ≤ n) (h2 : n ≤ 4096) (w : World) : Calls Tryz.prog 51 #[.agg #[.int .i64 2, .int .i64 n, .string ⟨#[]⟩, .slice none 0 0]] w fun e w' => e = .returned (.string (mkB (decL n.toNat))) ∧ Below w.heap.size w w' := by
 have HB:=Lib.hid (zah w (.cells #[.int .i64 2,.int .i64 n,.string ⟨#[]⟩,.slice none 0 0] 48))
 have HK:=Lib.hid (zac (w:=w) (b:=w.heap.size) (.cells #[.int .i64 2,.int .i64 n,.string ⟨#[]⟩,.slice none 0 0] 48) rfl)
 have HP := Lib.hid (fun W => show Calls Tryz.prog 88 #[.agg #[.int .i64 2, .int .i64 n, .string ⟨#[]⟩, .slice none 0 0]] W (fun e w' => e = .returned (.tuple #[.string (mkB (decL n.toNat)), .int .i64 0]) ∧ Below W.heap.size W w') from by
   have h:=rprint_any 2 n ⟨#[]⟩ none 0 0 W (by omega)
   have hv:zc7 2 n (zb3 ⟨#[]⟩ 0)=(decL n.toNat,0):=by
     rw [show zb3 ⟨#[]⟩ 0=true from rfl,zee (zeA h1 h2)]
     have hs:zb4 n=[]:=by unfold zb4;rw [if_neg (by omega)]
     have ha:absL 2 n.natAbs=decL n.toNat:=by unfold absL;rw [if_pos rfl,show n.natAbs=n.toNat by omega]
     rw [hs,ha];rfl
   unfold zdk at h
   rw [hv] at h
   exact h)
 clear h1 h2
 generalize mkB (decL n.toNat)=T at *
 go_enter Tryz.func51,Tryz.ntmps51
 go_upto_region 1 with fail
 generalize w.heap.size=r at HK ⊢
 generalize w.alloc _=W1 at *
 obtain ⟨⟨c0,c1,c2,c3⟩,-⟩:=zaf HK.out
 go_wp2_with (go_at_call 88;refine (HP.out _).mono ?_;rintro e w2 ⟨rfl,hb2⟩;have HB2:=Lib.hid (HB.out.trans (hb2.mono HB.out.size));clear hb2)
 go_ret
 exact ⟨rfl,HB2.out⟩
theorem rnumber29 (n : Int) (h1 : 1 ≤ n) (h2 : n ≤ 4096) (w : World) : Calls Tryz.prog 31 #[.int .i64 n] w fun e w' => e = .returned (.string (mkB (decL n.toNat))) ∧ Below w.heap.size w w' := by
 have HP:=Lib.hid (fun W=>rform_int n h1 h2 W)
 clear h1 h2
 generalize mkB (decL n.toNat)=T at *
 go_enter Tryz.func31,Tryz.ntmps31
 go_wp2_with (go_at_call 51;refine (HP.out _).mono ?_;rintro e w2 ⟨rfl,hb2⟩;have HB2:=Lib.hid hb2;clear hb2)
 go_ret
 exact ⟨rfl,HB2.out⟩
theorem zgw (n : Int) (h0 : 0 ≤ n) (h1 : n ≤ 2147483647) (w : World) : Calls Tryz.prog 32 #[.int .i64 n] w fun e w' => e = .returned (.string (mkB (padN n))) ∧ Below w.heap.size w w' := by
 have hp:=rpad_any n 10 w (by omega) (by omega) (by omega) (by omega)
 have hv:padV n 10=(padN n,0):=by
   have h:=zgo (N:=n.toNat) (d:=10) (by omega) (by omega) (by have:=zaQ 9 n.toNat (by omega);omega)
   rw [show ((n.toNat:Nat):Int)=n by omega] at h
   exact h
 unfold zf8 at hp
 rw [hv] at hp
 have HP:=Lib.hid hp
 have he:mkS (padN n)=mkB (padN n):=rfl
 dsimp only at HP
 rw [he] at HP
 generalize mkB (padN n)=T at *
 clear hp hv he h0 h1
 go_enter Tryz.func32,Tryz.ntmps32
 go_wp2_with (go_at_call 52;refine HP.out.mono ?_;rintro e w' ⟨rfl,q,rfl⟩)
 go_ret
 exact ⟨rfl,zad (Below.refl _ _) _⟩
theorem lin_text2 (n:Int) (l:LinD):mkB (linB n l)=mkB (decL n.toNat)++⟨#[32,48,32,111,98,106,10,60,60,47,76,105,110,101,97,114,105,122,101,100,32,49,47,76,32]⟩++mkB (padN l.len)++⟨#[47,72,32,91]⟩++mkB (padN l.at_)++⟨#[32]⟩++mkB (padN l.n)++⟨#[93,47,79,32]⟩++mkB (padN l.obj) ++
   ⟨#[47,69,32]⟩++mkB (padN l.fin)++⟨#[47,78,32]⟩++mkB (padN l.pages)++⟨#[47,84,32]⟩++mkB (padN l.main)++⟨#[62,62,10,101,110,100,111,98,106,10]⟩:=by
 have e:∀x:List UInt8,(⟨x.toArray⟩:ByteArray)=mkB x:=fun _=>rfl
 simp only [e,mkB_addl]
 unfold linB obj0 tx1 txH txO txE txN txT txX
 congr 1
 simp
def TxEnd (w:World) (T:List UInt8) (e:Ending) (w':World):Prop:=e=.returned (.string (mkB T))∧Below w.heap.size w w'
theorem rtext29 {n:Int} {l:LinD} (h1:1≤n) (h2:n≤4096) (hl:zdN l=true) (w:World):Calls Tryz.prog 20 #[.int .i64 n,linA l] w (TxEnd w (linB n l)):=by
 have HB:=Lib.hid (zah w (.cells #[.int .i64 l.len,.int .i64 l.at_,.int .i64 l.n,.int .i64 l.obj,.int .i64 l.fin,.int .i64 l.pages,.int .i64 l.main] 23))
 have HK:=Lib.hid (zac (w:=w) (b:=w.heap.size) (.cells #[.int .i64 l.len,.int .i64 l.at_,.int .i64 l.n,.int .i64 l.obj,.int .i64 l.fin,.int .i64 l.pages,.int .i64 l.main] 23) rfl)
 obtain ⟨l1,l2,l3,l4,l5,l6,l7,l8,l9,l10,l11,l12,l13⟩:=zdb.1 hl
 have P1:=Lib.hid (fun W=>zgw l.len (by omega) (by omega) W)
 have P2:=Lib.hid (fun W=>zgw l.at_ (by omega) (by omega) W)
 have P3:=Lib.hid (fun W=>zgw l.n (by omega) (by omega) W)
 have P4:=Lib.hid (fun W=>zgw l.obj (by omega) (by omega) W)
 have P5:=Lib.hid (fun W=>zgw l.fin (by omega) (by omega) W)
 have P6:=Lib.hid (fun W=>zgw l.pages (by omega) (by omega) W)
 have P7:=Lib.hid (fun W=>zgw l.main (by omega) (by omega) W)
 have HNO:=Lib.hid (fun W=>rnumber29 n h1 h2 W)
 have s0:(mkB (decL n.toNat)).size≤10:=by rw [zaI];exact Nat.le_trans (zaQ 9 n.toNat (by omega)) (by omega)
 have s1:(mkB (padN l.len)).size=10:=by rw [zaI];exact zaE (by omega) (by omega)
 have s2:(mkB (padN l.at_)).size=10:=by rw [zaI];exact zaE (by omega) (by omega)
 have s3:(mkB (padN l.n)).size=10:=by rw [zaI];exact zaE (by omega) (by omega)
 have s4:(mkB (padN l.obj)).size=10:=by rw [zaI];exact zaE (by omega) (by omega)
 have s5:(mkB (padN l.fin)).size=10:=by rw [zaI];exact zaE (by omega) (by omega)
 have s6:(mkB (padN l.pages)).size=10:=by rw [zaI];exact zaE (by omega) (by omega)
 have s7:(mkB (padN l.main)).size=10:=by rw [zaI];exact zaE (by omega) (by omega)
 have hTX:=lin_text2 n l
 unfold TxEnd
 rw [hTX]
 clear l1 l2 l3 l4 l5 l6 l7 l8 l9 l10 l11 l12 l13 h1 h2 hl hTX
 unfold linA
 generalize mkB (decL n.toNat)=N0 at *
 generalize mkB (padN l.len)=Q1 at *
 generalize mkB (padN l.at_)=Q2 at *
 generalize mkB (padN l.n)=Q3 at *
 generalize mkB (padN l.obj)=Q4 at *
 generalize mkB (padN l.fin)=Q5 at *
 generalize mkB (padN l.pages)=Q6 at *
 generalize mkB (padN l.main)=Q7 at *
 obtain ⟨a,b,c,d,e,f,g⟩:=l
 dsimp only at *
 have q0:¬9223372036854775807<N0.size+25:=by omega
 have q1:¬9223372036854775807<N0.size+25+Q1.size:=by omega
 have q2:¬9223372036854775807<N0.size+25+Q1.size+4:=by omega
 have q3:¬9223372036854775807<N0.size+25+Q1.size+4+Q2.size:=by omega
 have q4:¬9223372036854775807<N0.size+25+Q1.size+4+Q2.size+1:=by omega
 have q5:¬9223372036854775807<N0.size+25+Q1.size+4+Q2.size+1+Q3.size:=by omega
 have q6:¬9223372036854775807<N0.size+25+Q1.size+4+Q2.size+1+Q3.size+4:=by omega
 have q7:¬9223372036854775807<N0.size+25+Q1.size+4+Q2.size+1+Q3.size+4+Q4.size:=by omega
 have q8:¬9223372036854775807<N0.size+25+Q1.size+4+Q2.size+1+Q3.size+4+Q4.size+3:=by omega
 have q9:¬9223372036854775807<N0.size+25+Q1.size+4+Q2.size+1+Q3.size+4+Q4.size+3+Q5.size:=by omega
 have q10:¬9223372036854775807<N0.size+25+Q1.size+4+Q2.size+1+Q3.size+4+Q4.size+3+Q5.size+3:=by omega
 have q11:¬9223372036854775807<N0.size+25+Q1.size+4+Q2.size+1+Q3.size+4+Q4.size+3+Q5.size+3+Q6.size:=by omega
 have q12:¬9223372036854775807<N0.size+25+Q1.size+4+Q2.size+1+Q3.size+4+Q4.size+3+Q5.size+3+Q6.size+3:=by omega
 have q13:¬9223372036854775807<N0.size+25+Q1.size+4+Q2.size+1+Q3.size+4+Q4.size+3+Q5.size+3+Q6.size+3+Q7.size:=by omega
 have q14:¬9223372036854775807<N0.size+25+Q1.size+4+Q2.size+1+Q3.size+4+Q4.size+3+Q5.size+3+Q6.size+3+Q7.size+10:=by omega
 clear s0 s1 s2 s3 s4 s5 s6 s7
 go_enter Tryz.func20,Tryz.ntmps20
 go_upto_region 1 with fail
 obtain ⟨r,hr⟩:∃r,r=w.heap.size:=⟨_,rfl⟩
 rw [←hr] at HK ⊢
 clear hr
 generalize w.alloc _=W1 at *
 have k0:=fun q:zcr W1=>za4 (zab q.h HK.out)
 have j0:=fun q=>(k0 q).1
 have j1:=fun q=>(k0 q).2.1
 have j2:=fun q=>(k0 q).2.2.1
 have j3:=fun q=>(k0 q).2.2.2.1
 clear k0
 refine zcl (by kernel_rfl) (by kernel_rfl) ?_
 repeat (go_big_quiet_step (first
   | (go_at_call 31;with_reducible exact Calls.below_of (HNO.out _))
   | (go_at_call_of 32 (Value.int .i64 a);with_reducible exact Calls.below_of (P1.out _))
   | (go_at_call_of 32 (Value.int .i64 b);with_reducible exact Calls.below_of (P2.out _))
   | (go_at_call_of 32 (Value.int .i64 c);with_reducible exact Calls.below_of (P3.out _))
   | (go_at_call_of 32 (Value.int .i64 d);with_reducible exact Calls.below_of (P4.out _))))
 refine wpQuiet_nil ?_
 rintro W2 ⟨⟨_,hb2⟩,rfl⟩
 have HB2:=Lib.hid (HB.out.trans (hb2.mono HB.out.size))
 have HK2:=Lib.hid (zab hb2 HK.out)
 clear hb2 j0 j1 j2 j3 HB HK P1 P2 P3 P4 HNO
 have k0:=fun q:zcr W2=>za4 (zab q.h HK2.out)
 have j4:=fun q=>(k0 q).2.2.2.2.1
 have j5:=fun q=>(k0 q).2.2.2.2.2.1
 have j6:=fun q=>(k0 q).2.2.2.2.2.2
 clear k0
 go_upto_region 2 with fail
 refine zcl (by kernel_rfl) (by kernel_rfl) ?_
 repeat (go_big_quiet_step (first
   | (go_at_call_of 32 (Value.int .i64 e);with_reducible exact Calls.below_of (P5.out _))
   | (go_at_call_of 32 (Value.int .i64 f);with_reducible exact Calls.below_of (P6.out _))
   | (go_at_call_of 32 (Value.int .i64 g);with_reducible exact Calls.below_of (P7.out _))))
 refine wpQuiet_nil ?_
 rintro W3 ⟨⟨_,hb3⟩,rfl⟩
 have HB3:=Lib.hid (HB2.out.trans (hb3.mono HB2.out.size))
 clear hb3
 go_wp2_with fail
 go_ret
 exact ⟨rfl,HB3.out⟩
def pvC (v:PV) (sl:Value):List Value:=[.int .i64 v.kind,.int .i64 v.n,.string (mkB v.s),sl]
def pvA (v:PV) (sl:Value):Value:=.agg #[.int .i64 v.kind,.int .i64 v.n,.string (mkB v.s),sl]
mutual
def IsV (w:World) (F:Nat→Prop):PV→Value→Prop
 | .mk _ _ _ l,sl=>∃a cap cs,sl=.slice a l.length cap∧Row w 4 a l.length cap cs∧(0<l.length→∀x,a=some x→F x.block)∧IsVs w F l cs
def IsVs (w:World) (F:Nat→Prop):List PV→List Value→Prop
 | [],cs=>cs=[]
 | v::l,cs=>∃sl t,cs=pvC v sl++t∧IsV w F v sl∧IsVs w F l t
end
theorem IsV.mk {w:World} {F:Nat→Prop} {v:PV} {a:Option Addr} {cap:Nat} {cs:List Value} (hr:Row w 4 a v.l.length cap cs) (hF:0<v.l.length→∀x,a=some x→F x.block) (h:IsVs w F v.l cs):IsV w F v (.slice a v.l.length cap):=by
 cases v;exact ⟨a,cap,cs,rfl,hr,hF,h⟩
theorem IsV.out {w:World} {F:Nat→Prop} {v:PV} {sl:Value} (h:IsV w F v sl):∃a cap cs,sl=.slice a v.l.length cap∧Row w 4 a v.l.length cap cs∧(0<v.l.length→∀x,a=some x→F x.block)∧IsVs w F v.l cs:=by
 cases v;exact h
theorem IsV.leaf (w:World) (F:Nat→Prop) (v:PV) (h:v.l=[]):IsV w F v (.slice none 0 0):=by
 have:=IsV.mk (w:=w) (F:=F) (v:=v) (a:=none) (cap:=0) (cs:=[]) (by rw [h];exact Row.nil w 4) (by rw [h];intro h;cases h) (by rw [h];rfl)
 rw [h] at this;exact this
theorem IsVs.length {w:World} {F:Nat→Prop}:∀ {l:List PV} {cs:List Value},IsVs w F l cs→cs.length=l.length * 4
 | [],_,h=>by cases h;rfl
 | v::l,_,⟨sl,t,h,_,ht⟩=>by subst h;have:=IsVs.length ht;simp [pvC];omega
def zaU (F:Nat→Prop) (w w':World):Prop:=w.heap.size≤w'.heap.size∧∀b,b<w.heap.size→F b→w'.heap[b]?=w.heap[b]?
theorem Row.stays {F:Nat→Prop} {w w':World} {sz:Nat} {a:Option Addr} {n cap:Nat} {xs:List Value} (h:Row w sz a n cap xs) (hk:zaU F w w') (hne:0<n→∀x,a=some x→F x.block):Row w' sz a n cap xs:=by
 obtain ⟨h1,h2,h3,h4,h5⟩:=h
 refine ⟨h1,h2,h3,h4,fun hn=>?_⟩
 obtain ⟨b,off,ha,hlt,hc⟩:=h5 hn
 refine ⟨b,off,ha,Nat.lt_of_lt_of_le hlt hk.1,fun j u hj=>?_⟩
 rw [World.cell?_of_block (w:=w) (a:=⟨b,off+j,none⟩) (hk.2 b hlt (hne hn _ ha))]
 exact hc j u hj
mutual
theorem IsV.keep {w w':World} {F G:Nat→Prop} (hk:zaU F w w') (hG:∀b,F b→G b):∀(v:PV) {sl:Value},IsV w F v sl→IsV w' G v sl
 | .mk _ _ _ l,_,⟨a,cap,cs,h,hr,hF,hs⟩=>⟨a,cap,cs,h,hr.stays hk hF,fun h0 x hx=>hG _ (hF h0 x hx),IsVs.keep hk hG l hs⟩
theorem IsVs.keep {w w':World} {F G:Nat→Prop} (hk:zaU F w w') (hG:∀b,F b→G b):∀(l:List PV) {cs:List Value},IsVs w F l cs→IsVs w' G l cs
 | [],_,h=>h
 | v::l,_,⟨sl,t,h,hv,ht⟩=>⟨sl,t,h,IsV.keep hk hG v hv,IsVs.keep hk hG l ht⟩
end
theorem zaU.refl (F:Nat→Prop) (w:World):zaU F w w:=⟨Nat.le_refl _,fun _ _ _=>rfl⟩
theorem zaU.of_below {F:Nat→Prop} {w w':World} (h:Below w.heap.size w w'):zaU F w w':=⟨h.size,fun b hb _=>h.block b hb⟩
theorem zaU.of_keeps {F S:Nat→Prop} {w w':World} (h:Keeps S w w') (hn:∀b,F b→¬S b):zaU F w w':=⟨h.size,fun b hb hF=>h.block b hb (hn b hF)⟩
theorem zaU.trans {F:Nat→Prop} {a b c:World} (h:zaU F a b) (k:zaU F b c):zaU F a c:=⟨Nat.le_trans h.1 k.1,fun x hx hF=>(k.2 x (Nat.lt_of_lt_of_le hx h.1) hF).trans (h.2 x hx hF)⟩
theorem IsV.below {w w':World} {F:Nat→Prop} {v:PV} {sl:Value} (h:IsV w F v sl) (hb:Below w.heap.size w w'):IsV w' F v sl:=IsV.keep (zaU.of_below hb) (fun _ h=>h) v h
theorem IsVs.below {w w':World} {F:Nat→Prop} {l:List PV} {cs:List Value} (h:IsVs w F l cs) (hb:Below w.heap.size w w'):IsVs w' F l cs:=IsVs.keep (zaU.of_below hb) (fun _ h=>h) l h
theorem IsV.weaken {w:World} {F G:Nat→Prop} {v:PV} {sl:Value} (h:IsV w F v sl) (hG:∀b,F b→G b):IsV w G v sl:=IsV.keep (zaU.refl F w) hG v h
theorem IsVs.weaken {w:World} {F G:Nat→Prop} {l:List PV} {cs:List Value} (h:IsVs w F l cs) (hG:∀b,F b→G b):IsVs w G l cs:=IsVs.keep (zaU.refl F w) hG l h
theorem IsVs.append {w:World} {F:Nat→Prop}:∀ {l m:List PV} {cs ds:List Value},IsVs w F l cs→IsVs w F m ds→IsVs w F (l++m) (cs++ds)
 | [],_,_,_,h,hm=>by cases h;exact hm
 | v::l,_,_,_,⟨sl,t,h,hv,ht⟩,hm=>⟨sl,t++_,by subst h;simp,hv,IsVs.append ht hm⟩
theorem IsVs.one {w:World} {F:Nat→Prop} {v:PV} {sl:Value} (h:IsV w F v sl):IsVs w F [v] (pvC v sl):=⟨sl,[],by simp,h,rfl⟩
theorem IsVs.snoc {w:World} {F:Nat→Prop} {l:List PV} {cs:List Value} {v:PV} {sl:Value} (h:IsVs w F l cs) (hv:IsV w F v sl):IsVs w F (l++[v]) (cs++pvC v sl):=h.append (IsVs.one hv)
theorem IsVs.get {w:World} {F:Nat→Prop}:∀ {l:List PV} {cs:List Value},IsVs w F l cs→∀(k:Nat) (v:PV),l[k]?=some v→∃sl,IsV w F v sl∧cs[k * 4]?=some (.int .i64 v.kind)∧cs[k * 4+1]?=some (.int .i64 v.n)∧cs[k * 4+2]?=some (.string (mkB v.s))∧cs[k * 4+3]?=some sl
 | [],_,_,_,_,hk=>by simp at hk
 | x :: l, _, ⟨sl, t, h, hv, ht⟩, 0, v, hk => by
   simp at hk;subst hk h
   exact ⟨sl,hv,rfl,rfl,rfl,rfl⟩
 | x :: l, _, ⟨sl, t, h, hv, ht⟩, k + 1, v, hk => by
   subst h
   obtain ⟨s2,h1,h2,h3,h4,h5⟩:=ht.get k v (by simpa using hk)
   refine ⟨s2,h1,?_,?_,?_,?_⟩
   · rw [show (k+1) * 4=4+k * 4 by omega,List.getElem?_append_right (by simp [pvC])];simpa [pvC] using h2
   · rw [show (k+1) * 4+1=4+(k * 4+1) by omega,List.getElem?_append_right (by simp [pvC])];simpa [pvC] using h3
   · rw [show (k+1) * 4+2=4+(k * 4+2) by omega,List.getElem?_append_right (by simp [pvC])];simpa [pvC] using h4
   · rw [show (k+1) * 4+3=4+(k * 4+3) by omega,List.getElem?_append_right (by simp [pvC])];simpa [pvC] using h5
theorem IsV.at {w:World} {F:Nat→Prop} {v:PV} {a:Option Addr} {n cap:Nat} (h:IsV w F v (.slice a n cap)) (hn:0<n) :
   n=v.l.length∧n≤cap∧cap≤maxLen∧∃b off,a=some ⟨b,off,none⟩∧b<w.heap.size∧F b∧∀k x,v.l[k]?=some x→∃sl,IsV w F x sl∧w.cell? ⟨b,off+k * 4,none⟩=some (.int .i64 x.kind) ∧
     w.cell? ⟨b,off+k * 4+1,none⟩=some (.int .i64 x.n)∧w.cell? ⟨b,off+k * 4+2,none⟩=some (.string (mkB x.s))∧w.cell? ⟨b,off+k * 4+3,none⟩=some sl:=by
 obtain ⟨a',cap',cs,e,hr,hF,hs⟩:=h.out
 simp only [Value.slice.injEq] at e
 obtain ⟨rfl,rfl,rfl⟩:=e
 obtain ⟨b,off,rfl,hb,hc⟩:=hr.2.2.2.2 hn
 refine ⟨rfl,hr.2.1,hr.2.2.1,b,off,rfl,hb,hF hn _ rfl,fun k x hx=>?_⟩
 obtain ⟨sl,h1,h2,h3,h4,h5⟩:=hs.get k x hx
 exact ⟨sl,h1,hc _ _ h2,(Nat.add_assoc off (k * 4) 1).symm▸hc _ _ h3,(Nat.add_assoc off (k * 4) 2).symm▸hc _ _ h4,(Nat.add_assoc off (k * 4) 3).symm▸hc _ _ h5⟩
theorem IsV.len {w:World} {F:Nat→Prop} {v:PV} {sl:Value} (h:IsV w F v sl):∃a cap,sl=.slice a v.l.length cap∧v.l.length≤cap∧cap≤maxLen∧(a=none→cap=0):=by
 obtain ⟨a,cap,cs,e,hr,_⟩:=h.out
 exact ⟨a,cap,e,hr.2.1,hr.2.2.1,hr.2.2.2.1⟩
theorem zhf:∀a b:List UInt8,Op.bytesLess a b=sLt a b
 | [],[]=>rfl
 | [],_::_=>rfl
 | _::_,[]=>rfl
 | a :: l, b :: m => by
   simp only [Op.bytesLess,sLt]
   rw [zhf l m]
   by_cases h:a.toNat<b.toNat
   · rw [if_pos h]
     have:(a<b):=h
     simp [this]
   · rw [if_neg h]
     have h':¬(a<b):=h
     by_cases h2:b.toNat<a.toNat
     · rw [if_pos h2]
       have:(a==b)=false:=by rw [beq_eq_false_iff_ne];intro e;subst e;omega
       simp [h',this]
     · rw [if_neg h2]
       have:a=b:=UInt8.toNat_inj.1 (by omega)
       subst this
       simp
theorem zbB (l:List UInt8):(mkB l).toList=l:=by unfold mkB;exact ByteArray.toList_eq _
structure Box4 (w:World) (b:Nat) (v:PV) (sl:Value):Prop where
 blk:w.heap[b]?=some (.cells #[.int .i64 v.kind,.int .i64 v.n,.string (mkB v.s),sl] 48 (0,0))
theorem Box4.cells {w:World} {b:Nat} {v:PV} {sl:Value} (h:Box4 w b v sl):w.cell? ⟨b,0,none⟩=some (.int .i64 v.kind)∧w.cell? ⟨b,1,none⟩=some (.int .i64 v.n)∧w.cell? ⟨b,2,none⟩=some (.string (mkB v.s))∧w.cell? ⟨b,3,none⟩=some sl:=by
 refine ⟨?_,?_,?_,?_⟩
 · rw [cell_of_row w b 0 _ _ _ h.blk];rfl
 · rw [cell_of_row w b 1 _ _ _ h.blk];rfl
 · rw [cell_of_row w b 2 _ _ _ h.blk];rfl
 · rw [cell_of_row w b 3 _ _ _ h.blk];rfl
def anyF:Nat→Prop:=fun _=>True
theorem IsV.any {w:World} {F:Nat→Prop} {v:PV} {sl:Value} (h:IsV w F v sl):IsV w anyF v sl:=h.weaken fun _ _=>trivial
end Go.Proofs.YtkhcjoomijkfbaaGreatDoor
namespace Go.Proofs.YtkhcjoomijkfbaaGreatDoor
theorem rep_len (x:PV×PV):∀l,(repK x l).length=l.length
 | []=>rfl
 | y :: l => by
   unfold repK
   split
   · simp
   · simp [rep_len x l]
end Go.Proofs.YtkhcjoomijkfbaaGreatDoor
namespace Go.Proofs.YtkhcjoomijkfbaaGreatDoor
open Go.RowKit
theorem infoBuilder:(Tryz.prog.info? 141).map (·.size)=some 2:=by kernel_rfl
theorem liesBuilder:liesAt Tryz.prog Tryz.prog.depth 171 (5 / Tryz.prog.cellsOf 171) 0 141 1=true:=by kernel_rfl
theorem EByte:zfp Tryz.prog 24 5 (.int .u8 0) 1 1:=⟨Tryz.underlying24,by kernel_rfl,rfl,by omega⟩
theorem cellsByte:Tryz.prog.cellsOf 5=1:=by kernel_rfl
def Chk (w:World) (S:Nat→Prop) (p:Nat) (X:Src) (out:List UInt8) (k:Nat) (v:Value) (e:Ending) (w':World):Prop :=
 e=.returned (.tuple #[])∧IsSc w' S p X out k (.pointer (some ⟨p,0,none⟩)) v∧Keeps S w w'∧w'.heap.size=w.heap.size
theorem IsSc.mark {w:World} {S:Nat→Prop} {p:Nat} {X:Src} {out:List UInt8} {k:Nat} {ad v:Value} (h:IsSc w S p X out k ad v) :
   IsSc (w.setCell ⟨p,0,none⟩ (.pointer (some ⟨p,0,none⟩))) S p X out k (.pointer (some ⟨p,0,none⟩)) v:=by
 have hp:=(h.lt p h.own).2
 refine ⟨?_,.inr rfl,ownsRow_setCell_other h.row (a:=⟨p,0,none⟩) (fun e=>by have:=(h.row.lt p e).1;omega) _,h.at_,h.own,fun b hS=>by have:=h.lt b hS;simpa using this,?_,h.srcb,h.le,h.small,h.outl,h.nil_⟩
 · rw [heap_setCell_same _ _ 0 _ _ _ h.blk];rfl
 · exact h.src.keeps (S:=fun b=>b=p) ((Keeps.refl (fun b=>b=p) w).setCell (a:=⟨p,0,none⟩) (.inl rfl) _) (fun x hx e=>by have:=h.srcb x hx;omega)
set_option maxRecDepth 100000 in
theorem zie {w:World} {S:Nat→Prop} {p:Nat} {X:Src} {out:List UInt8} {k:Nat} {ad v:Value} (h:IsSc w S p X out k ad v) :
   Calls Tryz.prog 123 #[.pointer (some ⟨p,0,none⟩)] w (Chk w S p X out k v):=by
 obtain ⟨j,hj,hjs⟩:=Option.map_eq_some_iff.1 infoBuilder
 obtain ⟨c0,-⟩:=h.cells
 have hfz:=h.free 0
 have hsh:w.shape? p=some (171,5):=by have:=h.blk;simp [World.shape?,this,scV]
 rcases h.ad_ with rfl|rfl
 · have HM:=Lib.hid h.mark
   have HK:=Lib.hid ((Keeps.refl S w).setCell (a:=⟨p,0,none⟩) (.inl h.own) (.pointer (some ⟨p,0,none⟩)))
   clear h
   go_enter Tryz.func123,Tryz.ntmps123
   go_wp2
   rw [Lib.run_to_unsafe w ⟨p,0,none⟩ Tryz.underlying139 Tryz.underlying232 hj (by rw [hjs];decide) hsh (Nat.succ_pos 4)]
   simp only [Result.andThen]
   rw [Oper.upon_value]
   go_wp2
   rw [run_callFunc_extern Tryz.func155 (by kernel_rfl) (by kernel_rfl) (by kernel_rfl) (e:=Extern.AbiNoEscape.same) (by kernel_rfl)]
   rw [Lib.run_noEscape]
   simp only [Result.andThen]
   rw [Oper.upon_value]
   go_wp2
   rw [Lib.run_from_unsafe w ⟨p,0,none⟩ Tryz.underlying232 Tryz.underlying139 hj hsh liesBuilder]
   simp only [Result.andThen]
   rw [Oper.upon_value]
   go_wp2
   go_end0
   exact ⟨rfl,HM.out,HK.out,by simp⟩
 · have HM:=Lib.hid h
   clear h
   go_enter Tryz.func123,Tryz.ntmps123
   go_wp2
   rw [Lib.run_neq_ptr_same w _ Tryz.underlying139 hj]
   go_wp2
   go_end0
   exact ⟨rfl,HM.out,Keeps.refl _ _,rfl⟩
theorem IsSc.put {w w2:World} {S:Nat→Prop} {p:Nat} {X:Src} {out:List UInt8} {k:Nat} {v v':Value} (c:UInt8) (hk:out.length<k) (h:IsSc w S p X out k (.pointer (some ⟨p,0,none⟩)) v) (o:Obj)
   (hr:w2.ownsRow (p+1) 5 1 v' (out.length+1) (out.map u8C++[u8C c])) (hg:(w.alloc o).grownBy w2 v.ownBlock) (hn:zhX (w.alloc o) v v') :
   zaj w S p X (out++[c]) k (w2.setCell ⟨p,1,none⟩ v'):=by
 have hp:=(h.lt p h.own).2
 have hvb:∀b,v.ownBlock=some b→p<b:=fun b hb=>(h.row.lt b hb).1
 have h1:w2.heap[p]?=some (.cells (scV X (.pointer (some ⟨p,0,none⟩)) v k) 171 (0,0)) :=
   (hg.block p (by rw [zal];omega) (fun e=>by have:=hvb p e.symm;omega)).trans ((Below.heap_alloc w o p hp).trans h.blk)
 have hk1:Keeps S w w2:=((Keeps.refl S w).alloc o).grown hg (fun k hk=>.inl (h.at_ k hk))
 have hk2:=hk1.setCell (a:=⟨p,1,none⟩) (.inl h.own) v'
 have hsz:=hk2.size
 refine ⟨fun b=>S b∨(p≤b∧w.heap.size≤b∧b<(w2.setCell ⟨p,1,none⟩ v').heap.size),⟨.pointer (some ⟨p,0,none⟩),v',⟨?_,.inr rfl,?_,fun b hb=>?_,.inl h.own,fun b hb=>?_,?_,h.srcb,h.le,h.small,by simp;omega,fun e=>by simp at e⟩⟩,hk2,fun b hb=>?_⟩
 · rw [heap_setCell_same _ _ 1 _ _ _ h1];rfl
 · have := ownsRow_setCell_other hr (a := ⟨p, 1, none⟩) (fun e => by have := (hr.lt p e).1; omega) v'
   simpa using this
 · have hlt:=(hr.lt b hb)
   rcases hn b hb with h2|h2
   · exact .inl (h.at_ b h2)
   · rw [zal] at h2
     exact .inr ⟨by omega,by omega,by simpa using hlt.2⟩
 · rcases hb with hb|hb
   · have:=h.lt b hb;omega
   · exact ⟨hb.1,hb.2.2⟩
 · exact h.src.keeps hk2 (fun x hx e=>by have h1:=h.srcb x hx;have h2:=(h.lt x.block e).1;omega)
 · rcases hb with hb|hb
   · exact .inl hb
   · exact .inr hb.2.1
set_option maxRecDepth 100000 in
theorem zaC {w:World} {S:Nat→Prop} {p:Nat} {X:Src} {out:List UInt8} {k:Nat} (h:ScQ w S p X out k) (c:UInt8) (x:Int) (hx:x=(c.toNat:Int)) (hk:out.length<k) :
   Calls Tryz.prog 173 #[.pointer (some ⟨p,0,none⟩),.int .u8 x] w fun e w'=>e=.returned .nilIface∧zaj w S p X (out++[c]) k w':=by
 obtain ⟨ad,v,h⟩:=h
 have HC:=Lib.hid (zie h)
 unfold Chk at HC
 have hXC:Value.int .u8 x=u8C c:=by rw [hx];rfl
 have HX:=Lib.hid hXC
 have hsm:=h.small
 have hle:=h.le
 have hol:=h.outl
 clear h hx hXC
 go_enter Tryz.func173,Tryz.ntmps173
 go_wp2_with fail
 refine HC.out.mono ?_
 rintro e w1 ⟨rfl,h1,hk1,hs1⟩
 have H1:=Lib.hid h1
 have HK1:=Lib.hid hk1
 have HS1:=Lib.hid hs1
 obtain ⟨-,c1,-⟩:=h1.cells
 have hf1:=h1.free 1
 have hp1:=(h1.lt p h1.own).2
 clear h1 hk1 hs1
 go_wp2_with (at_builtin;refine zef EByte rfl (.tmp 11) (.tmp 13) rfl (p+1) _ out.length _ rfl (H1.out.row.alloc _) _ 1 _ _ rfl (zc2 _ _ _) (zeS rfl) (by unfold maxLen;omega) (by omega) (by rw [zal];omega) ?_;intro v' w2 hO2 hg2 hn2;obtain ⟨a',cap',hv',-⟩:=Row.of_owns hO2;subst hv';rw [HX.out] at hO2;have HN:=Lib.hid (H1.out.put c hk _ hO2 hg2 hn2);have hp2:p<w2.heap.size:=(by have:=hg2.size;rw [zal] at this;omega);have hfz2:w2.frozen? ⟨p,1,none⟩=false:=(frozen_of_row w2 p 1 _ _ ((hg2.block p (by rw [zal];omega) (fun e=>by have:=(H1.out.row.lt p e.symm).1;omega)).trans ((Below.heap_alloc w1 _ p hp1).trans H1.out.blk)));have hc2:w2.cell? ⟨p,1,none⟩=some v:=((cell_of_row w2 p 1 _ _ _ ((hg2.block p (by rw [zal];omega) (fun e=>by have:=(H1.out.row.lt p e.symm).1;omega)).trans ((Below.heap_alloc w1 _ p hp1).trans H1.out.blk))).trans rfl);clear hO2 hg2 hn2)
 go_ret
 exact ⟨rfl,zaj.trans HK1.out (fun b hb=>.inl hb) HN.out⟩
theorem zfl {S:Nat→Prop} {w:World} {a:Addr} (h:S a.block) (n:Nat):Keeps S w (w.freeze a n):=by
 unfold World.freeze
 split
 · exact Keeps.refl _ _
 · exact ⟨rfl, rfl, rfl, by simp, fun b _ hn => by
     simp only [Array.getElem?_modify]
     rw [if_neg (fun e:a.block=b=>hn (e▸h))]⟩
set_option maxRecDepth 100000 in
theorem zeP {w:World} {S:Nat→Prop} {p:Nat} {X:Src} {out:List UInt8} {k:Nat} (h:ScQ w S p X out k) :
   Calls Tryz.prog 84 #[.pointer (some ⟨p,0,none⟩)] w fun e w'=>e=.returned (.string (mkB out))∧Keeps S w w'∧w'.heap[p]?=w.heap[p]?:=by
 obtain ⟨ad,v,h⟩:=h
 obtain ⟨-,c1,-⟩:=h.cells
 by_cases h0:out=[]
 · have hv:=h.nil_ h0
   subst h0
   subst hv
   have hUS:=fun (W:World) (q:Option Addr)=>Lib.run_unsafeString_none (P:=Tryz.prog) W 197 3 9 q
   have c1':w.drew.cell? ⟨p,1,none⟩=some (.slice none 0 0):=c1
   have hSD:(Builtin.unsafeSliceData_ #[24] 197 #[.slice none 0 0]).run Tryz.prog w.drew=.ok (.pointer none) w.drew:=rfl
   have HK:=Lib.hid (show Keeps S w w.drew∧w.drew.heap[p]?=w.heap[p]? from ⟨(Keeps.refl S w).drewN 1,rfl⟩)
   clear h
   go_enter Tryz.func84,Tryz.ntmps84
   go_wp2
   go_region
   all_goals
     go_wp2
     go_ret
     exact ⟨rfl,HK.out⟩
 · have hl0 : out.length ≠ 0 := by simpa using h0
   obtain ⟨g,cap,cur,rfl,hbg,hg,hnc,hcm,hcs,htake⟩:∃g cap cur,v=.slice (some ⟨g,0,none⟩) out.length cap∧p+1≤g∧w.heap[g]?=some (.cells cur 5 (0,0))∧out.length≤cap∧cap≤maxLen∧cur.size=cap * 1∧cur.toList.take (out.length * 1)=out.map u8C:=by
     rcases h.row.2 with ⟨_,hz⟩|⟨g,cap,cur,hv,r⟩
     · exact absurd hz hl0
     · exact ⟨g,cap,cur,hv,r⟩
   have c1':w.drew.cell? ⟨p,1,none⟩=some (.slice (some ⟨g,0,none⟩) out.length cap):=c1
   have hSD:(Builtin.unsafeSliceData_ #[24] 197 #[.slice (some ⟨g,0,none⟩) out.length cap]).run Tryz.prog w.drew=.ok (.pointer (some ⟨g,0,none⟩)) w.drew :=
     Lib.run_unsafeSliceData_row _ _ _ _ _ _ (by omega)
   have hUS:(Builtin.unsafeString_ #[197,3] 9 #[.pointer (some ⟨g,0,none⟩),.int .i64 out.length]).run Tryz.prog w.drew=.ok (.string ⟨out.toArray⟩) (w.drew.freeze ⟨g,0,none⟩ out.length):=by
     refine Lib.run_unsafeString_row w.drew 197 3 9 5 Tryz.underlying197 cellsByte g cur.size (by have hg':w.drew.heap[g]?=some (.cells cur 5 (0,0)):=hg;simp [World.shape?,hg']) out h0 (by omega) (by unfold maxLen at hcm;omega) ?_
     intro j x hx
     exact h.row.cells (g:=g) rfl j (u8C x) (by simp [hx])
   have HK:=Lib.hid (show Keeps S w (w.drew.freeze ⟨g,0,none⟩ out.length)∧(w.drew.freeze ⟨g,0,none⟩ out.length).heap[p]?=w.heap[p]? from ⟨Keeps.trans ((Keeps.refl S w).drewN 1) (zfl (S:=S) (h.at_ g rfl) _) (fun _ hx=>.inl hx),((zfl (S:=fun b=>b=g) (w:=w.drew) (a:=⟨g,0,none⟩) rfl out.length).block p (h.lt p h.own).2 (fun e=>by omega)).trans rfl⟩)
   clear h htake hcs hg
   go_enter Tryz.func84,Tryz.ntmps84
   go_wp2
   go_region
   all_goals
     go_wp2
     go_ret
     exact ⟨rfl,HK.out⟩
def ze4 (w:World) (S:Nat→Prop) (p:Nat) (X:Src) (V:Option (List UInt8×Nat)) (e:Ending) (w':World):Prop :=
 match V with
 | none=>e=.returned (.bool false)∧∃out k,zaj w S p X out k w'
 | some (out,k)=>e=.returned (.bool true)∧zaj w S p X out k w'
theorem za6 {l:List UInt8} {k:Nat} (h:k<l.length):l.drop k=l.getD k 0::l.drop (k+1):=by rw [List.drop_eq_getElem_cons h];simp [List.getD,h]
theorem zcu {l:List UInt8} {k:Nat} (h:¬k<l.length):l.drop k=[]:=List.drop_of_length_le (by omega)
theorem zaj.drew {w:World} {S:Nat→Prop} {p:Nat} {X:Src} {out:List UInt8} {k:Nat} (q:Nat) {w':World} (h:zaj (w.drewN q) S p X out k w'):zaj w S p X out k w' :=
 zaj.trans ((Keeps.refl S w).drewN q) (fun _ h=>.inl h) h
theorem line_any {w:World} {S:Nat→Prop} {p:Nat} {X:Src} {out:List UInt8} {k:Nat} (h:ScQ w S p X out k) :
   Calls Tryz.prog 172 #[.pointer (some ⟨p,0,none⟩),.int .u8 13] w (ze4 w S p X ((zdE X.last (X.bs.drop k)).map fun j=>(out,k+j))):=by
 have hP:=zcY h
 obtain ⟨V,hV⟩:∃V,V=(zdE X.last (X.bs.drop k)).map fun j=>(out,k+j):=⟨_,rfl⟩
 rw [←hV]
 unfold zft at hP
 by_cases hk:k<X.bs.length
 · rw [if_pos hk] at hP
   rw [za6 hk] at hV
   simp only [zdE,Option.map_some] at hV
   have HQ:=Lib.hid h
   have HP:=Lib.hid hP
   have hsm:X.bs.length≤400000:=by obtain ⟨_,_,h⟩:=h;exact h.small
   unfold u8C at HP
   by_cases h10:X.bs.getD k 0=10
   · rw [if_pos h10] at hV
     have HV:=Lib.hid hV
     rw [h10] at HP
     clear hV hP h h10
     go_enter Tryz.func172,Tryz.ntmps172
     go_wp2_with fail
     refine HP.out.mono ?_
     rintro e w1 ⟨rfl,q,rfl⟩
     have h1:=HQ.out.drewN q
     obtain ⟨ad,v,h1⟩:=h1
     obtain ⟨-,-,-,c3,-⟩:=h1.cells
     have f3:=h1.free 3
     have HM:=Lib.hid (zaj.drew q (h1.move (k+1) (by omega) (by omega)))
     clear h1
     go_wp2
     go_ret
     rw [HV.out]
     exact ⟨rfl,HM.out⟩
   · rw [if_neg h10] at hV
     have HV:=Lib.hid hV
     have h10d:(((X.bs.getD k 0).toNat:Int)==10)=false:=by
       rw [beq_eq_false_iff_ne];intro e;exact h10 (UInt8.toNat_inj.1 (Int.ofNat_inj.1 e))
     generalize (X.bs.getD k 0).toNat=x at *
     clear hV hP h h10
     go_enter Tryz.func172,Tryz.ntmps172
     go_wp2_with fail
     refine HP.out.mono ?_
     rintro e w1 ⟨rfl,q,rfl⟩
     have HN:=Lib.hid (zaj.drew q (zaj.refl (HQ.out.drewN q)))
     go_wp2
     go_ret
     rw [HV.out]
     exact ⟨rfl,HN.out⟩
 · rw [if_neg hk] at hP
   rw [zcu hk] at hV
   simp only [zdE] at hV
   have HV:=Lib.hid hV
   have HQ:=Lib.hid h
   have HP:=Lib.hid hP
   clear hV hP h hk
   obtain ⟨l,hl⟩:∃l,X.last=l:=⟨_,rfl⟩
   rw [hl] at HV
   have HL:=Lib.hid hl
   clear hl
   cases l
   all_goals
     go_enter Tryz.func172,Tryz.ntmps172
     go_wp2_with fail
     refine HP.out.mono ?_
     rintro e w1 ⟨rfl,q,rfl⟩
     have h1:=HQ.out.drewN q
     have HN:=Lib.hid (zaj.drew q (zaj.refl h1))
     obtain ⟨ad,v,h1⟩:=h1
     obtain ⟨-,-,-,-,c4⟩:=h1.cells
     rw [HL.out] at c4
     clear h1
     go_wp2
     go_ret
     rw [HV.out]
   · exact ⟨rfl,_,_,HN.out⟩
   · exact ⟨rfl,HN.out⟩
def ze3 (last:Bool):Nat→Nat→List UInt8→Option (Nat×Nat)
 | 0,N,_=>some (N,0)
 | _+1,N,[]=>if last then some (N,0) else none
 | m+1,N,d::t=>if isOc d=true then (ze3 last m (8 * N+(d.toNat-48)) t).map (fun x=>(x.1,x.2+1)) else some (N,0)
theorem octV_go (last : Bool) (c : UInt8) (l : List UInt8) : octV last c l = (ze3 last 2 (c.toNat - 48) l).map fun x => (x.1, x.2 + 1) := by
 cases l with
 | nil=>cases last<;>rfl
 | cons d t =>
   by_cases hd:isOc d=true
   · cases t with
     | nil=>cases last<;>simp [octV,ze3,hd]
     | cons e u =>
       by_cases he:isOc e=true
       · simp [octV,ze3,hd,he]
       · simp [octV,ze3,hd,he]
   · simp [octV,ze3,hd]
theorem zep {c:UInt8}:isOc c=true↔48≤c.toNat∧c.toNat≤55:=by unfold isOc;simp
theorem zeD (N:Nat):IntKind.u8.wrap (N:Int)=((UInt8.ofNat N).toNat:Int):=by rw [IntKind.wrap_u8,UInt8.toNat_ofNat'];omega
theorem zhK {w w1 w2:World} {S S1:Nat→Prop} {p:Nat} {X:Src} {o2:List UInt8} {k2:Nat} (hk:Keeps S w w1) (hs:∀b,S1 b→S b∨w.heap.size≤b) (hN:zaj w1 S1 p X o2 k2 w2) (V:Option (List UInt8×Nat)) (hV:V=some (o2,k2)) :
   ze4 w S p X V (.returned (.bool true)) w2:=by
 subst hV
 exact ⟨rfl,zaj.trans hk hs hN⟩
theorem octal_any {w:World} {S:Nat→Prop} {p:Nat} {X:Src} {out:List UInt8} {k:Nat} (h:ScQ w S p X out k) (c:UInt8) (hc:isOc c=true) (hk:out.length<k) :
   Calls Tryz.prog 205 #[.pointer (some ⟨p,0,none⟩),.int .u8 c.toNat] w (ze4 w S p X ((ze3 X.last 2 (c.toNat-48) (X.bs.drop k)).map fun x=>(out++[UInt8.ofNat x.1],k+x.2))):=by
 obtain ⟨V,hV⟩:∃V,V=(ze3 X.last 2 (c.toNat-48) (X.bs.drop k)).map fun x=>(out++[UInt8.ofNat x.1],k+x.2):=⟨_,rfl⟩
 rw [←hV]
 have hc2:=zep.1 hc
 have HV:=Lib.hid hV
 have HN:=Lib.hid (zaj.refl h)
 have hsm:X.bs.length≤400000:=by obtain ⟨_,_,h⟩:=h;exact h.small
 obtain ⟨n0,hn0⟩:∃n0,n0=c.toNat-48:=⟨_,rfl⟩
 have hci:(c.toNat:Int)=(n0:Int)+48:=by omega
 have hn7:n0≤7:=by omega
 rw [←hn0] at HV
 rw [hci]
 clear hV h hc hc2 hn0 hci
 go_enter Tryz.func205,Tryz.ntmps205
 go_wp2
 go_loopw [5,6] (fun n i wr=>∃(j N k':Nat),j≤2∧n=.int .i64 N∧i=.int .i64 j∧N+1≤8 ^ (j+1)∧k≤k'∧Hid (zaj w S p X out k' wr)∧Hid (V=(ze3 X.last (2-j) N (X.bs.drop k')).map fun x=>(out++[UInt8.ofNat x.1],k'+x.2))) (fun _ i _=>2-(intOf i).toNat)
 case atStart=>exact ⟨0,n0,k,by omega,by go_num,rfl,by omega,Nat.le_refl _,HN,HV⟩
 case round =>
   obtain ⟨j,N,k',hj,rfl,rfl,hN,hkk,HS,HG⟩:=hrel
   obtain ⟨S1,hq1,hk1,hs1⟩:=HS.out
   have HQ1:=Lib.hid hq1
   have HK1:=Lib.hid hk1
   have HS1:=Lib.hid hs1
   have hP:=zcY hq1
   unfold zft u8C at hP
   have hN5:N≤511:=by
     have:j=0∨j=1∨j=2:=by omega
     rcases this with rfl|rfl|rfl<;>omega
   have HWB:=Lib.hid (fun (q:Nat) (x:Int) (hx:x=((UInt8.ofNat N).toNat:Int))=>zaC (hq1.drewN q) (UInt8.ofNat N) x hx (by omega))
   have HWB0:=Lib.hid (fun (x:Int) (hx:x=((UInt8.ofNat N).toNat:Int))=>zaC hq1 (UInt8.ofNat N) x hx (by omega))
   clear hq1 hk1 hs1
   by_cases hj2:j<2
   · obtain ⟨m, hm⟩ : ∃ m, 2 - j = m + 1 := ⟨1 - j, by omega⟩
     have hg:=HG.out
     rw [hm] at hg
     have HM:=Lib.hid hm
     have hjd:decide ((j:Int)<2)=true:=by simp;omega
     clear hm
     by_cases hk2:k'<X.bs.length
     · rw [if_pos hk2] at hP
       rw [za6 hk2,ze3] at hg
       by_cases hd:isOc (X.bs.getD k' 0)=true
       · have hd2:=zep.1 hd
         rw [if_pos hd] at hg
         have HP:=Lib.hid hP
         have HG2:=Lib.hid hg
         obtain ⟨d,hd3⟩:∃d,d=(X.bs.getD k' 0).toNat-48:=⟨_,rfl⟩
         have hdi:((X.bs.getD k' 0).toNat:Int)=(d:Int)+48:=by omega
         have hd7:d≤7:=by omega
         rw [hdi] at HP
         rw [←hd3] at HG2
         clear hg hP hd hd2 hd3 hdi
         go_wp2_with fail
         refine HP.out.mono ?_
         rintro e w1 ⟨rfl,q,rfl⟩
         have h1:=HQ1.out.drewN q
         obtain ⟨ad,v,h1⟩:=h1
         obtain ⟨-,-,-,c3,-⟩:=h1.cells
         have f3:=h1.free 3
         have HM3:=Lib.hid (zaj.trans HK1.out HS1.out (zaj.drew q (h1.move (k'+1) (by omega) (by omega))))
         clear h1
         go_wp2
         go_roundw
         case rel =>
           refine ⟨j+1,8 * N+d,k'+1,by omega,by go_num,by go_num,by rw [Nat.pow_succ];omega,by omega,HM3,Lib.hid ?_⟩
           rw [HG2.out,show 2-(j+1)=m from by have:=HM.out;omega,Option.map_map]
           congr 1
           funext x
           simp only [Function.comp]
           rw [show k'+1+x.2=k'+(x.2+1) from by omega]
         case measure=>simp [intOf];omega
       · rw [if_neg hd] at hg
         simp only [Option.map_some] at hg
         have HG2:=Lib.hid hg
         have HP:=Lib.hid hP
         have hd2:¬(48≤(X.bs.getD k' 0).toNat∧(X.bs.getD k' 0).toNat≤55):=fun e=>hd (zep.2 e)
         generalize (X.bs.getD k' 0).toNat=x at *
         by_cases hx:(x:Int)<48
         · have hxd : decide ((x : Int) < 48) = true := by simpa using hx
           clear hg hP hd hd2
           go_wp2_with fail
           refine HP.out.mono ?_
           rintro e w1 ⟨rfl,q,rfl⟩
           go_wp2_with fail
           refine (HWB.out q _ (zeD N)).mono ?_
           rintro e w2 ⟨rfl,hn2⟩
           have HN2:=Lib.hid hn2
           clear hn2
           go_wp2
           go_ret
           exact zhK ((HK1.out).drewN q) HS1.out HN2.out _ HG2.out
         · have hxd : decide ((x : Int) < 48) = false := by simpa using hx
           have hx2:decide ((55:Int)<x)=true:=by simp;omega
           clear hg hP hd hd2 hx
           go_wp2_with fail
           refine HP.out.mono ?_
           rintro e w1 ⟨rfl,q,rfl⟩
           go_wp2_with fail
           refine (HWB.out q _ (zeD N)).mono ?_
           rintro e w2 ⟨rfl,hn2⟩
           have HN2:=Lib.hid hn2
           clear hn2
           go_wp2
           go_ret
           exact zhK ((HK1.out).drewN q) HS1.out HN2.out _ HG2.out
     · rw [if_neg hk2] at hP
       rw [zcu hk2,ze3] at hg
       have HP:=Lib.hid hP
       have hlast:=fun (q:Nat)=>(let ⟨ad,v,h⟩:=HQ1.out.drewN q;h.cells.2.2.2.2)
       obtain ⟨l,hl⟩:∃l,X.last=l:=⟨_,rfl⟩
       rw [hl] at hg hlast
       have HL:=Lib.hid hlast
       have HG2:=Lib.hid hg
       clear hg hP hl hlast hk2
       cases l
       · go_wp2_with fail
         refine HP.out.mono ?_
         rintro e w1 ⟨rfl,q,rfl⟩
         have c4:=HL.out q
         have HN2:=Lib.hid (zaj.trans HK1.out HS1.out (zaj.drew q (zaj.refl (HQ1.out.drewN q))))
         go_wp2
         go_ret
         rw [HG2.out]
         exact ⟨rfl,_,_,HN2.out⟩
       · go_wp2_with fail
         refine HP.out.mono ?_
         rintro e w1 ⟨rfl,q,rfl⟩
         have c4:=HL.out q
         go_wp2_with fail
         refine (HWB.out q _ (zeD N)).mono ?_
         rintro e w2 ⟨rfl,hn2⟩
         have HN2:=Lib.hid hn2
         clear hn2
         go_wp2
         go_ret
         exact zhK ((HK1.out).drewN q) HS1.out HN2.out _ HG2.out
   · obtain rfl : j = 2 := by omega
     have hg:=HG.out
     rw [Nat.sub_self,ze3,Option.map_some] at hg
     have HG2:=Lib.hid hg
     clear hg hP
     go_wp2_with fail
     refine (HWB0.out _ (zeD N)).mono ?_
     rintro e w2 ⟨rfl,hn2⟩
     have HN2:=Lib.hid hn2
     clear hn2
     go_wp2
     go_ret
     exact zhK HK1.out HS1.out HN2.out _ HG2.out
def zcC (X:Src) (out:List UInt8) (k:Nat):Option (List UInt8×Nat):=(escV X.last (X.bs.drop k)).map fun x=>(out++x.1,k+x.2)
theorem esc_idx (c:UInt8):(Lib.indexByte [110,114,116,98,102] c=-1∧c≠110∧c≠114∧c≠116∧c≠98∧c≠102)∨(c=110∨c=114∨c=116∨c=98∨c=102):=by
 by_cases h:Lib.indexByte [110,114,116,98,102] c=-1
 · have:=zew _ _ h
   simp at this
   exact .inl ⟨h,this⟩
 · have hg:=Lib.indexByte_ge [110,114,116,98,102] c
   obtain ⟨i,hi⟩:=Int.eq_ofNat_of_zero_le (show 0≤Lib.indexByte [110,114,116,98,102] c by omega)
   obtain ⟨a,t,e,-,-⟩:=zeq _ _ _ hi
   have hm:c∈([110,114,116,98,102]:List UInt8):=by rw [e];simp
   simp at hm
   exact .inr hm
theorem escStep_of {X : Src} {out : List UInt8} {k : Nat} (hk : k < X.bs.length) (r : Option (List UInt8 × Nat)) (h : escV X.last (X.bs.getD k 0 :: X.bs.drop (k + 1)) = r) : zcC X out k = r.map fun x => (out ++ x.1, k + x.2) := by
 unfold zcC;rw [za6 hk,h]
theorem zhN (last:Bool) (c:UInt8) (t:List UInt8) (n1:c≠110) (n2:c≠114) (n3:c≠116) (n4:c≠98) (n5:c≠102):escV last (c::t) =
   if isOc c=true then (octV last c t).map (fun x=>([UInt8.ofNat x.1],x.2)) else if c=10 then some ([],1) else if c=13 then (zdE last t).map (fun k=>([],k+1)) else some ([c],1):=by
 simp only [escV]
 rw [if_neg n1,if_neg n2,if_neg n3,if_neg n4,if_neg n5]
theorem step_none {w w2:World} {S:Nat→Prop} {p:Nat} {X:Src} {V:Option (List UInt8×Nat)} (hV:V=none) (h:∃out k,zaj w S p X out k w2):ze4 w S p X V (.returned (.bool false)) w2:=by
 subst hV;exact ⟨rfl,h⟩
theorem zbt {w w2:World} {S:Nat→Prop} {p:Nat} {X:Src} {V:Option (List UInt8×Nat)} {o2:List UInt8} {k2:Nat} (hV:V=some (o2,k2)) (h:zaj w S p X o2 k2 w2):ze4 w S p X V (.returned (.bool true)) w2:=by
 subst hV;exact ⟨rfl,h⟩
theorem line_other (a : Value) (x : Int) (hx : (x != 13) = true) (w : World) : Calls Tryz.prog 172 #[a, .int .u8 x] w fun e w' => e = .returned (.bool true) ∧ w = w' := by
 go_enter Tryz.func172,Tryz.ntmps172
 go_wp2
 go_ret
 exact ⟨rfl,rfl⟩
theorem escape_any {w:World} {S:Nat→Prop} {p:Nat} {X:Src} {out:List UInt8} {k:Nat} (h:ScQ w S p X out k) (hok:out.length≤k) :
   Calls Tryz.prog 171 #[.pointer (some ⟨p,0,none⟩)] w (ze4 w S p X (zcC X out k)):=by
 obtain ⟨V,hV⟩:∃V,V=zcC X out k:=⟨_,rfl⟩
 rw [←hV]
 have hP:=zcY h
 unfold zft u8C at hP
 have hsm:X.bs.length≤400000:=by obtain ⟨_,_,h⟩:=h;exact h.small
 by_cases hk:k<X.bs.length
 case neg =>
   rw [if_neg hk] at hP
   have HP:=Lib.hid hP
   have HL:=Lib.hid (show V=none by rw [hV];unfold zcC;rw [zcu hk];rfl)
   have HQ:=Lib.hid h
   clear hV hP h hk
   go_enter Tryz.func171,Tryz.ntmps171
   go_wp2_with fail
   refine HP.out.mono ?_
   rintro e w1 ⟨rfl,q,rfl⟩
   have HN2:=Lib.hid (zaj.drew q (zaj.refl (HQ.out.drewN q)))
   go_wp2
   go_ret
   rw [HL.out]
   exact ⟨rfl,_,_,HN2.out⟩
 rw [if_pos hk] at hP
 have HMV:=Lib.hid (fun q=>(let ⟨_,_,h1⟩:=h.drewN q;h1.move (k+1) (by omega) (by omega)))
 have HC3:=Lib.hid (fun q=>(let ⟨_,_,h1⟩:=h.drewN q;(And.intro h1.cells.2.2.2.1 (h1.free 3))))
 have hSI:=fun (c:UInt8) W=>sidx2_any ⟨#[110,114,116,98,102]⟩ (c.toNat:Int) W
 have hSI2 : ∀ (c : UInt8) W, Calls Tryz.prog 158 #[.string ⟨#[110, 114, 116, 98, 102]⟩, .int .u8 c.toNat] W fun e w' => e = .returned (.int .i64 (Lib.indexByte [110, 114, 116, 98, 102] c)) ∧ W = w' := fun c W => by
   have:=hSI c W;rw [u8_back] at this;exact this
 have hE:=fun r hr=>hV.trans (escStep_of (X:=X) (out:=out) (k:=k) hk r hr)
 obtain ⟨c,hc⟩:∃c,c=X.bs.getD k 0:=⟨_,rfl⟩
 rw [←hc] at hP hE
 clear hSI hV hc
 rcases esc_idx c with ⟨hix,n1,n2,n3,n4,n5⟩|hlit
 · have hIX:=hSI2 c
   rw [hix] at hIX
   have HIX:=Lib.hid hIX
   have HP:=Lib.hid hP
   clear hIX hSI2 hP
   by_cases hoc:isOc c=true
   · have HV := Lib.hid (hE _ (show escV X.last (c :: X.bs.drop (k + 1)) = (octV X.last c (X.bs.drop (k + 1))).map fun x => ([UInt8.ofNat x.1], x.2) by
       rw [zhN _ _ _ n1 n2 n3 n4 n5,if_pos hoc]))
     have hoc2:=zep.1 hoc
     have h48:decide ((48:Int)≤c.toNat)=true:=by simp;omega
     have h55:decide ((c.toNat:Int)≤55)=true:=by simp;omega
     clear hE n1 n2 n3 n4 n5 hix hoc2
     go_enter Tryz.func171,Tryz.ntmps171
     go_wp2_with fail
     refine HP.out.mono ?_
     rintro e w1 ⟨rfl,q,rfl⟩
     obtain ⟨c3,f3⟩:=HC3.out q
     obtain ⟨S1,q1,k1,s1⟩:=HMV.out q
     have HQ1:=Lib.hid q1
     have HK1:=Lib.hid (Keeps.trans ((Keeps.refl S w).drewN q) k1 (fun _ h=>.inl h))
     have HS1:=Lib.hid s1
     clear q1 k1 s1
     go_wp2_with fail
     refine (HIX.out _).mono ?_
     rintro e w2 ⟨rfl,rfl⟩
     rw [show ((k:Int)+1)=((k+1:Nat):Int) from rfl]
     generalize (w.drewN q).setCell ⟨p,3,none⟩ (.int .i64 ((k+1:Nat):Int))=w2 at *
     clear c3 f3
     have HO:=Lib.hid (octal_any HQ1.out c hoc (by omega))
     go_wp2_with fail
     refine HO.out.mono ?_
     rintro e w3 hstep
     have HST:=Lib.hid hstep
     clear hstep
     have HG := Lib.hid (show V = (ze3 X.last 2 (c.toNat - 48) (X.bs.drop (k + 1))).map fun x => (out ++ [UInt8.ofNat x.1], k + 1 + x.2) by
       rw [HV.out,octV_go,Option.map_map,Option.map_map]
       congr 1
       funext x
       simp only [Function.comp]
       rw [show k+(x.2+1)=k+1+x.2 from by omega])
     rw [←HG.out] at HST
     cases hVV:V with
     | none =>
       rw [hVV] at HST
       obtain ⟨rfl,o2,k2,hn⟩:=HST.out
       have HN:=Lib.hid hn
       clear HST hn
       go_wp2
       go_ret
       exact step_none hVV ⟨o2,k2,zaj.trans HK1.out HS1.out HN.out⟩
     | some ok =>
       obtain ⟨o2,k2⟩:=ok
       rw [hVV] at HST
       obtain ⟨rfl,hn⟩:=HST.out
       have HN:=Lib.hid hn
       clear HST hn
       go_wp2
       go_ret
       exact zbt hVV (zaj.trans HK1.out HS1.out HN.out)
   · have hoc2 : ¬ (48 ≤ c.toNat ∧ c.toNat ≤ 55) := fun e => hoc (zep.2 e)
     by_cases h10:c=10
     · subst h10
       have HV:=Lib.hid (show V=some (out++[],k+1) from hE _ (show escV X.last (10::X.bs.drop (k+1))=some ([],1) from rfl))
       clear hE n1 n2 n3 n4 n5 hix hoc hoc2
       go_enter Tryz.func171,Tryz.ntmps171
       go_wp2_with fail
       refine HP.out.mono ?_
       rintro e w1 ⟨rfl,q,rfl⟩
       obtain ⟨c3,f3⟩:=HC3.out q
       obtain ⟨S1,q1,k1,s1⟩:=HMV.out q
       have HQ1:=Lib.hid q1
       have HK1:=Lib.hid (Keeps.trans ((Keeps.refl S w).drewN q) k1 (fun _ h=>.inl h))
       have HS1:=Lib.hid s1
       clear q1 k1 s1
       go_wp2_with fail
       refine (HIX.out _).mono ?_
       rintro e w2 ⟨rfl,rfl⟩
       rw [show ((k:Int)+1)=((k+1:Nat):Int) from rfl]
       generalize (w.drewN q).setCell ⟨p,3,none⟩ (.int .i64 ((k+1:Nat):Int))=w2 at *
       clear c3 f3
       go_wp2_with (go_at_call 172;refine (line_other _ _ rfl _).mono ?_;rintro e w3 ⟨rfl,rfl⟩)
       go_ret
       exact zbt (by rw [HV.out,List.append_nil]) (zaj.trans HK1.out HS1.out (zaj.refl HQ1.out))
     · by_cases h13:c=13
       · subst h13
         have HV:=Lib.hid (hE _ (show escV X.last (13::X.bs.drop (k+1))=(zdE X.last (X.bs.drop (k+1))).map fun j=>([],j+1) from rfl))
         clear hE n1 n2 n3 n4 n5 hix hoc hoc2 h10
         go_enter Tryz.func171,Tryz.ntmps171
         go_wp2_with fail
         refine HP.out.mono ?_
         rintro e w1 ⟨rfl,q,rfl⟩
         obtain ⟨c3,f3⟩:=HC3.out q
         obtain ⟨S1,q1,k1,s1⟩:=HMV.out q
         have HQ1:=Lib.hid q1
         have HK1:=Lib.hid (Keeps.trans ((Keeps.refl S w).drewN q) k1 (fun _ h=>.inl h))
         have HS1:=Lib.hid s1
         clear q1 k1 s1
         go_wp2_with fail
         refine (HIX.out _).mono ?_
         rintro e w2 ⟨rfl,rfl⟩
         rw [show ((k:Int)+1)=((k+1:Nat):Int) from rfl]
         generalize (w.drewN q).setCell ⟨p,3,none⟩ (.int .i64 ((k+1:Nat):Int))=w2 at *
         clear c3 f3
         have HO:=Lib.hid (line_any HQ1.out)
         go_wp2_with fail
         refine HO.out.mono ?_
         rintro e w3 hstep
         have HST:=Lib.hid hstep
         clear hstep
         have HG := Lib.hid (show V = (zdE X.last (X.bs.drop (k + 1))).map fun j => (out, k + 1 + j) by
           rw [HV.out,Option.map_map]
           congr 1
           funext x
           simp only [Function.comp,List.append_nil]
           rw [show k+(x+1)=k+1+x from by omega])
         rw [←HG.out] at HST
         cases hVV:V with
         | none =>
           rw [hVV] at HST
           obtain ⟨rfl,o2,k2,hn⟩:=HST.out
           have HN:=Lib.hid hn
           clear HST hn
           go_wp2
           go_ret
           exact step_none hVV ⟨o2,k2,zaj.trans HK1.out HS1.out HN.out⟩
         | some ok =>
           obtain ⟨o2,k2⟩:=ok
           rw [hVV] at HST
           obtain ⟨rfl,hn⟩:=HST.out
           have HN:=Lib.hid hn
           clear HST hn
           go_wp2
           go_ret
           exact zbt hVV (zaj.trans HK1.out HS1.out HN.out)
       · have HV := Lib.hid (show V = some (out ++ [c], k + 1) from hE (some ([c], 1)) (by rw [zhN _ _ _ n1 n2 n3 n4 n5, if_neg hoc, if_neg h10, if_neg h13]))
         have h10d:((c.toNat:Int)==10)=false:=by rw [beq_eq_false_iff_ne];intro e;exact h10 (UInt8.toNat_inj.1 (Int.ofNat_inj.1 e))
         have h13d:((c.toNat:Int)==13)=false:=by rw [beq_eq_false_iff_ne];intro e;exact h13 (UInt8.toNat_inj.1 (Int.ofNat_inj.1 e))
         have HWB:=Lib.hid (fun W S1 (h:ScQ W S1 p X out (k+1))=>zaC h c (c.toNat:Int) rfl (by omega))
         by_cases h48:(48:Int)≤c.toNat
         · have h48d : decide ((48 : Int) ≤ c.toNat) = true := by simpa using h48
           have h55d:decide ((c.toNat:Int)≤55)=false:=by simp;omega
           clear hE n1 n2 n3 n4 n5 hix hoc hoc2 h10 h13 h48
           generalize (c.toNat:Int)=x at *
           go_enter Tryz.func171,Tryz.ntmps171
           go_wp2_with fail
           refine HP.out.mono ?_
           rintro e w1 ⟨rfl,q,rfl⟩
           obtain ⟨c3,f3⟩:=HC3.out q
           obtain ⟨S1,q1,k1,s1⟩:=HMV.out q
           have HQ1:=Lib.hid q1
           have HK1:=Lib.hid (Keeps.trans ((Keeps.refl S w).drewN q) k1 (fun _ h=>.inl h))
           have HS1:=Lib.hid s1
           clear q1 k1 s1
           go_wp2_with fail
           refine (HIX.out _).mono ?_
           rintro e w2 ⟨rfl,rfl⟩
           rw [show ((k:Int)+1)=((k+1:Nat):Int) from rfl]
           generalize (w.drewN q).setCell ⟨p,3,none⟩ (.int .i64 ((k+1:Nat):Int))=w2 at *
           clear c3 f3
           go_wp2_with fail
           refine (HWB.out _ _ HQ1.out).mono ?_
           rintro e w3 ⟨rfl,hn⟩
           have HN:=Lib.hid hn
           clear hn
           go_wp2
           go_ret
           exact zbt HV.out (zaj.trans HK1.out HS1.out HN.out)
         · have h48d : decide ((48 : Int) ≤ c.toNat) = false := by simpa using h48
           clear hE n1 n2 n3 n4 n5 hix hoc hoc2 h10 h13 h48
           generalize (c.toNat:Int)=x at *
           go_enter Tryz.func171,Tryz.ntmps171
           go_wp2_with fail
           refine HP.out.mono ?_
           rintro e w1 ⟨rfl,q,rfl⟩
           obtain ⟨c3,f3⟩:=HC3.out q
           obtain ⟨S1,q1,k1,s1⟩:=HMV.out q
           have HQ1:=Lib.hid q1
           have HK1:=Lib.hid (Keeps.trans ((Keeps.refl S w).drewN q) k1 (fun _ h=>.inl h))
           have HS1:=Lib.hid s1
           clear q1 k1 s1
           go_wp2_with fail
           refine (HIX.out _).mono ?_
           rintro e w2 ⟨rfl,rfl⟩
           rw [show ((k:Int)+1)=((k+1:Nat):Int) from rfl]
           generalize (w.drewN q).setCell ⟨p,3,none⟩ (.int .i64 ((k+1:Nat):Int))=w2 at *
           clear c3 f3
           go_wp2_with fail
           refine (HWB.out _ _ HQ1.out).mono ?_
           rintro e w3 ⟨rfl,hn⟩
           have HN:=Lib.hid hn
           clear hn
           go_wp2
           go_ret
           exact zbt HV.out (zaj.trans HK1.out HS1.out HN.out)
 · have hall:∀d:UInt8,(c=110∧d=10)∨(c=114∧d=13)∨(c=116∧d=9)∨(c=98∧d=8)∨(c=102∧d=12)→V=some (out++[d],k+1):=by
     rintro d (⟨rfl,rfl⟩|⟨rfl,rfl⟩|⟨rfl,rfl⟩|⟨rfl,rfl⟩|⟨rfl,rfl⟩)
     all_goals exact hE _ rfl
   have HALL:=Lib.hid hall
   have HWB:=Lib.hid (fun W S1 (h:ScQ W S1 p X out (k+1)) (d:UInt8)=>zaC h d (d.toNat:Int) rfl (by omega))
   clear hall hE
   rcases hlit with rfl|rfl|rfl|rfl|rfl
   · have hIX:=hSI2 110
     rw [show Lib.indexByte [110,114,116,98,102] 110=0 from rfl] at hIX
     have HIX:=Lib.hid hIX
     have HP:=Lib.hid hP
     clear hIX hSI2 hP
     go_enter Tryz.func171,Tryz.ntmps171
     go_wp2_with fail
     refine HP.out.mono ?_
     rintro e w1 ⟨rfl,q,rfl⟩
     obtain ⟨c3,f3⟩:=HC3.out q
     obtain ⟨S1,q1,k1,s1⟩:=HMV.out q
     have HQ1:=Lib.hid q1
     have HK1:=Lib.hid (Keeps.trans ((Keeps.refl S w).drewN q) k1 (fun _ h=>.inl h))
     have HS1:=Lib.hid s1
     clear q1 k1 s1
     go_wp2_with fail
     refine (HIX.out _).mono ?_
     rintro e w2 ⟨rfl,rfl⟩
     rw [show ((k:Int)+1)=((k+1:Nat):Int) from rfl]
     generalize (w.drewN q).setCell ⟨p,3,none⟩ (.int .i64 ((k+1:Nat):Int))=w2 at *
     clear c3 f3
     go_wp2_with fail
     go_still_tail 5,(by kernel_rfl)
     go_wp2_with fail
     refine (HWB.out _ _ (HQ1.out.drewN 1) 10).mono ?_
     rintro e w3 ⟨rfl,hn⟩
     have HN:=Lib.hid hn
     clear hn
     go_wp2
     go_ret
     exact zbt (HALL.out 10 (by simp)) (zaj.trans (HK1.out.drewN 1) HS1.out HN.out)
   · have hIX:=hSI2 114
     rw [show Lib.indexByte [110,114,116,98,102] 114=1 from rfl] at hIX
     have HIX:=Lib.hid hIX
     have HP:=Lib.hid hP
     clear hIX hSI2 hP
     go_enter Tryz.func171,Tryz.ntmps171
     go_wp2_with fail
     refine HP.out.mono ?_
     rintro e w1 ⟨rfl,q,rfl⟩
     obtain ⟨c3,f3⟩:=HC3.out q
     obtain ⟨S1,q1,k1,s1⟩:=HMV.out q
     have HQ1:=Lib.hid q1
     have HK1:=Lib.hid (Keeps.trans ((Keeps.refl S w).drewN q) k1 (fun _ h=>.inl h))
     have HS1:=Lib.hid s1
     clear q1 k1 s1
     go_wp2_with fail
     refine (HIX.out _).mono ?_
     rintro e w2 ⟨rfl,rfl⟩
     rw [show ((k:Int)+1)=((k+1:Nat):Int) from rfl]
     generalize (w.drewN q).setCell ⟨p,3,none⟩ (.int .i64 ((k+1:Nat):Int))=w2 at *
     clear c3 f3
     go_wp2_with fail
     go_still_tail 5,(by kernel_rfl)
     go_wp2_with fail
     refine (HWB.out _ _ (HQ1.out.drewN 1) 13).mono ?_
     rintro e w3 ⟨rfl,hn⟩
     have HN:=Lib.hid hn
     clear hn
     go_wp2
     go_ret
     exact zbt (HALL.out 13 (by simp)) (zaj.trans (HK1.out.drewN 1) HS1.out HN.out)
   · have hIX:=hSI2 116
     rw [show Lib.indexByte [110,114,116,98,102] 116=2 from rfl] at hIX
     have HIX:=Lib.hid hIX
     have HP:=Lib.hid hP
     clear hIX hSI2 hP
     go_enter Tryz.func171,Tryz.ntmps171
     go_wp2_with fail
     refine HP.out.mono ?_
     rintro e w1 ⟨rfl,q,rfl⟩
     obtain ⟨c3,f3⟩:=HC3.out q
     obtain ⟨S1,q1,k1,s1⟩:=HMV.out q
     have HQ1:=Lib.hid q1
     have HK1:=Lib.hid (Keeps.trans ((Keeps.refl S w).drewN q) k1 (fun _ h=>.inl h))
     have HS1:=Lib.hid s1
     clear q1 k1 s1
     go_wp2_with fail
     refine (HIX.out _).mono ?_
     rintro e w2 ⟨rfl,rfl⟩
     rw [show ((k:Int)+1)=((k+1:Nat):Int) from rfl]
     generalize (w.drewN q).setCell ⟨p,3,none⟩ (.int .i64 ((k+1:Nat):Int))=w2 at *
     clear c3 f3
     go_wp2_with fail
     go_still_tail 5,(by kernel_rfl)
     go_wp2_with fail
     refine (HWB.out _ _ (HQ1.out.drewN 1) 9).mono ?_
     rintro e w3 ⟨rfl,hn⟩
     have HN:=Lib.hid hn
     clear hn
     go_wp2
     go_ret
     exact zbt (HALL.out 9 (by simp)) (zaj.trans (HK1.out.drewN 1) HS1.out HN.out)
   · have hIX:=hSI2 98
     rw [show Lib.indexByte [110,114,116,98,102] 98=3 from rfl] at hIX
     have HIX:=Lib.hid hIX
     have HP:=Lib.hid hP
     clear hIX hSI2 hP
     go_enter Tryz.func171,Tryz.ntmps171
     go_wp2_with fail
     refine HP.out.mono ?_
     rintro e w1 ⟨rfl,q,rfl⟩
     obtain ⟨c3,f3⟩:=HC3.out q
     obtain ⟨S1,q1,k1,s1⟩:=HMV.out q
     have HQ1:=Lib.hid q1
     have HK1:=Lib.hid (Keeps.trans ((Keeps.refl S w).drewN q) k1 (fun _ h=>.inl h))
     have HS1:=Lib.hid s1
     clear q1 k1 s1
     go_wp2_with fail
     refine (HIX.out _).mono ?_
     rintro e w2 ⟨rfl,rfl⟩
     rw [show ((k:Int)+1)=((k+1:Nat):Int) from rfl]
     generalize (w.drewN q).setCell ⟨p,3,none⟩ (.int .i64 ((k+1:Nat):Int))=w2 at *
     clear c3 f3
     go_wp2_with fail
     go_still_tail 5,(by kernel_rfl)
     go_wp2_with fail
     refine (HWB.out _ _ (HQ1.out.drewN 1) 8).mono ?_
     rintro e w3 ⟨rfl,hn⟩
     have HN:=Lib.hid hn
     clear hn
     go_wp2
     go_ret
     exact zbt (HALL.out 8 (by simp)) (zaj.trans (HK1.out.drewN 1) HS1.out HN.out)
   · have hIX:=hSI2 102
     rw [show Lib.indexByte [110,114,116,98,102] 102=4 from rfl] at hIX
     have HIX:=Lib.hid hIX
     have HP:=Lib.hid hP
     clear hIX hSI2 hP
     go_enter Tryz.func171,Tryz.ntmps171
     go_wp2_with fail
     refine HP.out.mono ?_
     rintro e w1 ⟨rfl,q,rfl⟩
     obtain ⟨c3,f3⟩:=HC3.out q
     obtain ⟨S1,q1,k1,s1⟩:=HMV.out q
     have HQ1:=Lib.hid q1
     have HK1:=Lib.hid (Keeps.trans ((Keeps.refl S w).drewN q) k1 (fun _ h=>.inl h))
     have HS1:=Lib.hid s1
     clear q1 k1 s1
     go_wp2_with fail
     refine (HIX.out _).mono ?_
     rintro e w2 ⟨rfl,rfl⟩
     rw [show ((k:Int)+1)=((k+1:Nat):Int) from rfl]
     generalize (w.drewN q).setCell ⟨p,3,none⟩ (.int .i64 ((k+1:Nat):Int))=w2 at *
     clear c3 f3
     go_wp2_with fail
     go_still_tail 5,(by kernel_rfl)
     go_wp2_with fail
     refine (HWB.out _ _ (HQ1.out.drewN 1) 12).mono ?_
     rintro e w3 ⟨rfl,hn⟩
     have HN:=Lib.hid hn
     clear hn
     go_wp2
     go_ret
     exact zbt (HALL.out 12 (by simp)) (zaj.trans (HK1.out.drewN 1) HS1.out HN.out)
end Go.Proofs.YtkhcjoomijkfbaaGreatDoor
namespace Go.Proofs.YtkhcjoomijkfbaaGreatDoor
open Go
theorem jump_mono {P:Program} {Q:Exit→Act→World→Prop} {a:Act} {w:World} {c:Code} {l:Nat} {J J':Act→World→Prop} (h:c.wp P (Exit.jump l J Q) a w) (hJ:∀a w,J a w→J' a w):c.wp P (Exit.jump l J' Q) a w:=by
 refine wp_mono h ?_
 intro e a' w' hq
 cases e with
 | goto l'=>exact ⟨hq.1,hJ _ _ hq.2⟩
 | normal=>exact hq
 | exit id=>exact hq
 | ret=>exact hq
 | panic ch=>exact hq
 | outgrown=>exact hq
theorem za9 {P:Program} {Q:Exit→Act→World→Prop} {a:Act} {w:World} {c body:Code} (l:Nat) (I:Nat→Act→World→Prop) (hf:findLabel c l=some (Code.skip.seq body))
   (first:(∀n a w,I n a w→body.wp P (Exit.jump l (fun a w=>∃n,I n a w) Q) a w)→c.wp P (Exit.jump l (fun a w=>∃n,I n a w) Q) a w)
   (pass:∀n a w,I n a w→body.wp P (Exit.jump l (fun a' w'=>∃n',n'<n∧I n' a' w') Q) a w):(Code.scope c).wp P Q a w:=by
 refine wp_scope_jumps l (fun a w=>∃n,I n a w) (fun a w=>leastOf (fun n=>I n a w)) hf (first fun n a w hI=>jump_mono (pass n a w hI) fun a w ⟨n',_,h⟩=>⟨n',h⟩) ?_
 intro a w hI
 refine wp_seq (wp_skip ?_)
 refine wp_mono (pass _ a w (leastOf_spec hI).1) ?_
 intro e a' w' hq
 cases e with
 | goto l' =>
   obtain ⟨h1,n',hlt,hI'⟩:=hq
   exact ⟨h1,⟨n',hI'⟩,Nat.lt_of_le_of_lt ((leastOf_spec ⟨n',hI'⟩).2 n' hI') hlt⟩
 | normal=>exact hq
 | exit id=>exact hq
 | ret=>exact hq
 | panic ch=>exact hq
 | outgrown=>exact hq
end Go.Proofs.YtkhcjoomijkfbaaGreatDoor
namespace Go.Proofs.YtkhcjoomijkfbaaGreatDoor
open Go.RowKit
def TxtEnd (w:World) (S:Nat→Prop) (p:Nat) (X:Src) (V:Option (List UInt8×List UInt8)) (e:Ending) (w':World):Prop :=
 Keeps S w w'∧match V with
 | none=>e=.returned (.tuple #[.agg (valC 0 0 zbU),.int .i64 (zbb X.last)])
 | some (x,t)=>e=.returned (.tuple #[.agg (valC 4 0 (mkB x)),.int .i64 0])∧t.length≤X.bs.length∧w'.cell? ⟨p,3,none⟩=some (.int .i64 ((X.bs.length-t.length:Nat):Int))
theorem textV_nil (last:Bool) (D:Nat) (out:List UInt8):zaX last D out []=none:=by rw [zaX]
theorem textV_esc (last:Bool) (D:Nat) (out:List UInt8) (t:List UInt8):zaX last D out (92::t)=match escV last t with|none=>none|some (x,k)=>zaX last D (out++x) (t.drop k):=by rw [zaX];rfl
theorem textV_nl (last:Bool) (D:Nat) (out:List UInt8) (t:List UInt8):zaX last D out (13::t)=match zdE last t with|none=>none|some k=>zaX last D (out++[10]) (t.drop k):=by rw [zaX];rfl
theorem textV_in (last:Bool) (D:Nat) (out:List UInt8) (t:List UInt8):zaX last D out (40::t)=zaX last (D+1) (out++[40]) t:=by rw [zaX];rfl
theorem textV_out (last:Bool) (D:Nat) (out:List UInt8) (t:List UInt8):zaX last D out (41::t)=if D=1 then some (out,t) else zaX last (D-1) (out++[41]) t:=by rw [zaX];rfl
theorem textV_byte (last:Bool) (D:Nat) (out:List UInt8) (c:UInt8) (t:List UInt8) (h1:c≠92) (h2:c≠13) (h3:c≠40) (h4:c≠41):zaX last D out (c::t)=zaX last D (out++[c]) t:=by
 rw [zaX,if_neg h1,if_neg h2,if_neg h3,if_neg h4]
structure TxtAt (W0:World) (S:Nat→Prop) (p:Nat) (X:Src) (V:Option (List UInt8×List UInt8)) (D k:Nat) (out:List UInt8) (w':World):Prop where
 d1:1≤D
 d2:D≤k
 o:out.length<k
 le:k≤X.bs.length
 sc:zaj W0 S p X out k w'
 v:V=zaX X.last D out (X.bs.drop k)
def TxtI (W0:World) (S:Nat→Prop) (p:Nat) (X:Src) (V:Option (List UInt8×List UInt8)) (r:Nat) (m:Nat) (a:Act) (w':World):Prop :=
 ∃(D k:Nat) (out:List UInt8) (u5 u6 u7 u8 u9 u10 u11 u12 u13 u14 u15 u16 u17 u18 u19 u20 u21 u22 u23 u24 u25 u26 u27 u28 u29 u30 u31 u32 u33 u34 u35 u36 u37 u38 u39 u40 u41 u42 u43 u44 u45 u46 u47 u48 u49 u50 u51 u52 u53 u54 u55 u56 u57 u58 u59 u60 u61:Value),m=X.bs.length-k∧Hid (TxtAt W0 S p X V D k out w')∧a={ tmps:=#[.pointer (some ⟨p,0,none⟩),undef,.pointer (some ⟨r,0,none⟩),.int .i64 0,.int .i64 D,u5,u6,u7,u8,u9,u10,u11,u12,u13,u14,u15,u16,u17,u18,u19,u20,u21,u22,u23,u24,u25,u26,u27,u28,u29,u30,u31,u32,u33,u34,u35,u36,u37,u38,u39,u40,u41,u42,u43,u44,u45,u46,u47,u48,u49,u50,u51,u52,u53,u54,u55,u56,u57,u58,u59,u60,u61],defers:=[] }
theorem zaJ {S:Nat→Prop} {w W:World} (h:Keeps S w W) {r:Nat} (hr:w.heap.size≤r) (y0 y1 y2 y3:Value) :
   Keeps S w ((((W.setCell ⟨r,0,none⟩ y0).setCell ⟨r,1,none⟩ y1).setCell ⟨r,2,none⟩ y2).setCell ⟨r,3,none⟩ y3) :=
 (((h.setCell (.inr hr) _).setCell (.inr hr) _).setCell (.inr hr) _).setCell (.inr hr) _
theorem za7 {W:World} {b r:Nat} (hb:b≠r) (y0 y1 y2 y3:Value) :
   ((((W.setCell ⟨r,0,none⟩ y0).setCell ⟨r,1,none⟩ y1).setCell ⟨r,2,none⟩ y2).setCell ⟨r,3,none⟩ y3).heap[b]?=W.heap[b]?:=by
 rw [heap_setCell_other _ _ _ _ hb,heap_setCell_other _ _ _ _ hb,heap_setCell_other _ _ _ _ hb,heap_setCell_other _ _ _ _ hb]
theorem zhl {w w':World} {S:Nat→Prop} {p:Nat} {X:Src} {V:Option (List UInt8×List UInt8)} (hV:V=none) (hk:Keeps S w w'):TxtEnd w S p X V (.returned (.tuple #[.agg (valC 0 0 zbU),.int .i64 (zbb X.last)])) w':=by
 subst hV;exact ⟨hk,rfl⟩
theorem txt_some {w w':World} {S:Nat→Prop} {p:Nat} {X:Src} {V:Option (List UInt8×List UInt8)} {x t:List UInt8} (hV:V=some (x,t)) (hk:Keeps S w w') (ht:t.length≤X.bs.length)
   (hc:w'.cell? ⟨p,3,none⟩=some (.int .i64 ((X.bs.length-t.length:Nat):Int))):TxtEnd w S p X V (.returned (.tuple #[.agg (valC 4 0 (mkB x)),.int .i64 0])) w':=by
 subst hV;exact ⟨hk,rfl,ht,hc⟩
theorem esc_len (X:Src) (out:List UInt8) (k:Nat) (o2:List UInt8) (k2:Nat) (h:zcC X out k=some (o2,k2)):o2.length≤out.length+1∧k<k2:=by
 unfold zcC at h
 rw [Option.map_eq_some_iff] at h
 obtain ⟨⟨x,j⟩,hx,he⟩:=h
 simp only [Prod.mk.injEq] at he
 obtain ⟨rfl,rfl⟩:=he
 have:x.length≤1∧1≤j:=by
   cases hd:X.bs.drop k with
   | nil=>rw [hd] at hx;simp [escV] at hx
   | cons c t =>
     rw [hd] at hx
     rcases esc_idx c with ⟨-,n1,n2,n3,n4,n5⟩|rfl|rfl|rfl|rfl|rfl
     · rw [zhN _ _ _ n1 n2 n3 n4 n5] at hx
       split at hx
       · rw [octV_go,Option.map_map,Option.map_eq_some_iff] at hx
         obtain ⟨y,-,hy⟩:=hx
         simp only [Function.comp,Prod.mk.injEq] at hy
         obtain ⟨rfl,rfl⟩:=hy
         exact ⟨by simp,by omega⟩
       · split at hx
         · simp at hx;obtain ⟨rfl,rfl⟩:=hx;simp
         · split at hx
           · rw [Option.map_eq_some_iff] at hx
             obtain ⟨y,-,hy⟩:=hx
             simp only [Prod.mk.injEq] at hy
             obtain ⟨rfl,rfl⟩:=hy
             exact ⟨by simp,by omega⟩
           · simp at hx;obtain ⟨rfl,rfl⟩:=hx;simp
     all_goals (simp [escV] at hx;obtain ⟨rfl,rfl⟩:=hx;simp)
 refine ⟨by rw [List.length_append];omega,by omega⟩
set_option maxHeartbeats 16000000 in
theorem text_any {w:World} {S:Nat→Prop} {p:Nat} {X:Src} {k:Nat} (h:ScQ w S p X [] k) (hk:1≤k) :
   Calls Tryz.prog 139 #[.pointer (some ⟨p,0,none⟩)] w (TxtEnd w S p X (zaX X.last 1 [] (X.bs.drop k))):=by
 obtain ⟨V,hV⟩:∃V,V=zaX X.last 1 [] (X.bs.drop k):=⟨_,rfl⟩
 rw [←hV]
 obtain ⟨r,hr⟩:∃r,r=w.heap.size:=⟨_,rfl⟩
 have hsm:X.bs.length≤400000:=by obtain ⟨_,_,h⟩:=h;exact h.small
 have hSr:¬S r:=by obtain ⟨_,_,h⟩:=h;intro e;have:=(h.lt r e).2;omega
 have hle:k≤X.bs.length:=by obtain ⟨_,_,h⟩:=h;exact h.le
 have HBX:=Lib.hid (show (w.alloc (.cells #[.int .i64 0,.int .i64 0,.string ⟨#[]⟩,.slice none 0 0] 48)).heap[r]?=some (.cells #[.int .i64 0,.int .i64 0,.string ⟨#[]⟩,.slice none 0 0] 48 (0,0)) from zac _ hr)
 have HK0:=Lib.hid (show Keeps S w (w.alloc (.cells #[.int .i64 0,.int .i64 0,.string ⟨#[]⟩,.slice none 0 0] 48)) from (Keeps.refl S w).alloc _)
 have hq0:=h.keep (zah w (.cells #[.int .i64 0,.int .i64 0,.string ⟨#[]⟩,.slice none 0 0] 48))
 have HAT:=Lib.hid (show TxtAt (w.alloc (.cells #[.int .i64 0,.int .i64 0,.string ⟨#[]⟩,.slice none 0 0] 48)) S p X V 1 k [] _ from ⟨by omega,hk,by simp;omega,hle,zaj.refl hq0,hV⟩)
 have HR:=Lib.hid hr
 have HRS:=Lib.hid hSr
 have HSP:=Lib.hid (show S p from (let ⟨_,_,h⟩:=h;h.own))
 have HRG:=Lib.hid (show w.heap.size≤r by omega)
 clear hV hr hSr h hk hq0
 go_enter Tryz.func139,Tryz.ntmps139
 go_wp2
 rw [←HR.out]
 generalize w.alloc (.cells #[.int .i64 0,.int .i64 0,.string ⟨#[]⟩,.slice none 0 0] 48)=W0 at *
 refine za9 0 (TxtI W0 S p X V r) rfl ?first ?pass
 case first =>
   intro hpass
   have HPASS:=Lib.hid hpass
   clear hpass
   go_wp2
   refine wp_label ?_
   rename_i K hK
   exact hK _ _ (HPASS.out _ _ _ ⟨1,k,[],_,_,_,_,_,_,_,_,_,_,_,_,_,_,_,_,_,_,_,_,_,_,_,_,_,_,_,_,_,_,_,_,_,_,_,_,_,_,_,_,_,_,_,_,_,_,_,_,_,_,_,_,_,_,_,_,_,rfl,HAT,rfl⟩)
 case pass =>
   rintro m a w' ⟨D,k,out,u5,u6,u7,u8,u9,u10,u11,u12,u13,u14,u15,u16,u17,u18,u19,u20,u21,u22,u23,u24,u25,u26,u27,u28,u29,u30,u31,u32,u33,u34,u35,u36,u37,u38,u39,u40,u41,u42,u43,u44,u45,u46,u47,u48,u49,u50,u51,u52,u53,u54,u55,u56,u57,u58,u59,u60,u61,hm,HA,rfl⟩
   obtain ⟨S1,hq1,hk1,hs1⟩:=HA.out.sc
   have hd1:=HA.out.d1
   have hd2:=HA.out.d2
   have ho:=HA.out.o
   have hkl:=HA.out.le
   have HV:=Lib.hid HA.out.v
   have HQ1:=Lib.hid hq1
   have HK1:=Lib.hid hk1
   have HS1:=Lib.hid hs1
   have HB1:=Lib.hid (hk1.obj HBX.out HRS.out)
   have HM:=Lib.hid hm
   have hP:=zcY hq1
   unfold zft u8C at hP
   clear hk1 hs1 hm HAT HA
   by_cases hkn:k<X.bs.length
   case neg =>
     rw [if_neg hkn] at hP
     have HP:=Lib.hid hP
     have HNONE:=Lib.hid (show V=none by rw [HV.out,zcu hkn];exact textV_nil _ _ _)
     have HO:=Lib.hid (fun q=>zd8 (hq1.drewN q))
     clear hP hq1 hkn
     go_wp2_with fail
     refine HP.out.mono ?_
     rintro e w1 ⟨rfl,q,rfl⟩
     go_wp2_with fail
     refine (HO.out q).mono ?_
     rintro e w2 ⟨rfl,rfl⟩
     have HB2:=Lib.hid (show (w'.drewN q).heap[r]?=_ from HB1.out)
     obtain ⟨⟨k0,k1,k2,k3⟩,f0,f1,f2,f3⟩:=zaf HB2.out
     have HK2:=Lib.hid (Keeps.trans HK0.out (Keeps.trans HK1.out ((Keeps.refl S1 w').drewN q) HS1.out) (fun _ h=>.inl h))
     generalize w'.drewN q=w2 at *
     have HB9:=HB2
     have HK9:=HK2
     obtain ⟨⟨k0,k1,k2,k3⟩,f0,f1,f2,f3⟩:=zaf HB9.out
     go_wp2
     simp only [Exit.jump]
     refine bodyPost_ret (zaa rfl _ _ r 48 _ (0,0) _ rfl (set4 HB9.out _ _ _ _) Tryz.underlying48 rfl zas _ rfl) rfl ?_
     exact zhl HNONE.out (zaJ HK9.out HRG.out _ _ _ _)
   case pos =>
     rw [if_pos hkn] at hP
     have hv:=HV.out
     rw [za6 hkn] at hv
     have HMV:=Lib.hid (fun q=>(let ⟨_,_,h1⟩:=hq1.drewN q;h1.move (k+1) (by omega) (by omega)))
     have HC3:=Lib.hid (fun q=>(let ⟨_,_,h1⟩:=hq1.drewN q;(And.intro h1.cells.2.2.2.1 (h1.free 3))))
     have HP:=Lib.hid hP
     obtain ⟨c,hc⟩:∃c,c=X.bs.getD k 0:=⟨_,rfl⟩
     rw [←hc] at HP hv
     clear hP hc hq1
     by_cases h92:c=92
     · subst h92
       rw [textV_esc] at hv
       have HVE:=Lib.hid hv
       clear hv
       go_wp2_with fail
       refine HP.out.mono ?_
       rintro e w1 ⟨rfl,q,rfl⟩
       obtain ⟨c3,f3⟩:=HC3.out q
       obtain ⟨S2,q2,k2,s2⟩:=HMV.out q
       have HQ2:=Lib.hid q2
       have HK2:=Lib.hid (Keeps.trans HK1.out (Keeps.trans ((Keeps.refl S1 w').drewN q) k2 (fun _ h=>.inl h)) HS1.out)
       have HS2:=Lib.hid (fun b (hb:S2 b)=>(s2 b hb).elim (HS1.out b) (fun h=>Or.inr (Nat.le_trans HK1.out.size h)))
       clear q2 k2 s2
       go_wp2_with fail
       rw [show ((k:Int)+1)=((k+1:Nat):Int) from rfl]
       generalize (w'.drewN q).setCell ⟨p,3,none⟩ (.int .i64 ((k+1:Nat):Int))=w2 at *
       clear c3 f3
       have HO:=Lib.hid (escape_any HQ2.out (by omega))
       go_wp2_with fail
       refine HO.out.mono ?_
       rintro e w3 hstep
       have HST:=Lib.hid hstep
       clear hstep
       cases hES:zcC X out (k+1) with
       | none =>
         rw [hES] at HST
         obtain ⟨rfl,o2,k2,hn⟩:=HST.out
         have HN9:=Lib.hid (zaj.trans HK2.out HS2.out hn)
         have HNONE:=Lib.hid (show V=none by
           unfold zcC at hES
           rw [Option.map_eq_none_iff] at hES
           rw [HVE.out,hES])
         clear HST hn hES
         obtain ⟨S9,hq9,hk9,hs9⟩:=HN9.out
         have HQ9:=Lib.hid hq9
         have HB9:=Lib.hid (hk9.obj HBX.out HRS.out)
         have HK9:=Lib.hid (Keeps.trans HK0.out hk9 (fun _ h=>.inl h))
         have HOP:=Lib.hid (zd8 hq9)
         clear hq9 hk9 hs9
         go_wp2_with fail
         refine (HOP.out).mono ?_
         rintro e w9 ⟨rfl,rfl⟩
         obtain ⟨⟨k0,k1,k2,k3⟩,f0,f1,f2,f3⟩:=zaf HB9.out
         go_wp2
         simp only [Exit.jump]
         refine bodyPost_ret (zaa rfl _ _ r 48 _ (0,0) _ rfl (set4 HB9.out _ _ _ _) Tryz.underlying48 rfl zas _ rfl) rfl ?_
         exact zhl HNONE.out (zaJ HK9.out HRG.out _ _ _ _)
       | some ok =>
         obtain ⟨o2,k2⟩:=ok
         rw [hES] at HST
         obtain ⟨rfl,hn⟩:=HST.out
         have hel:=esc_len X out (k+1) o2 k2 hES
         have HN8:=Lib.hid (zaj.trans HK2.out HS2.out hn)
         have hkl2:k2≤X.bs.length:=by obtain ⟨_,⟨_,_,h⟩,_⟩:=hn;exact h.le
         have HVV:=Lib.hid (show V=zaX X.last D o2 (X.bs.drop k2) by
           unfold zcC at hES
           rw [Option.map_eq_some_iff] at hES
           obtain ⟨⟨x,j⟩,e1,e2⟩:=hES
           simp only [Prod.mk.injEq] at e2
           obtain ⟨rfl,rfl⟩:=e2
           rw [HVE.out,e1]
           simp only
           rw [List.drop_drop])
         clear HST hn hES
         go_wp2
         go_step3
         exact ⟨rfl,X.bs.length-k2,by have:=HM.out;omega,D,k2,o2,_,_,_,_,_,_,_,_,_,_,_,_,_,_,_,_,_,_,_,_,_,_,_,_,_,_,_,_,_,_,_,_,_,_,_,_,_,_,_,_,_,_,_,_,_,_,_,_,_,_,_,_,_,_,_,_,_,rfl,Lib.hid ⟨by omega,by omega,by omega,hkl2,HN8.out,HVV.out⟩,rfl⟩
     have h92d:((c.toNat:Int)==92)=false:=by rw [beq_eq_false_iff_ne];intro e;exact h92 (UInt8.toNat_inj.1 (Int.ofNat_inj.1 e))
     by_cases h13:c=13
     · subst h13
       rw [textV_nl] at hv
       have HVE:=Lib.hid hv
       clear hv h92 h92d
       go_wp2_with fail
       refine HP.out.mono ?_
       rintro e w1 ⟨rfl,q,rfl⟩
       obtain ⟨c3,f3⟩:=HC3.out q
       obtain ⟨S2,q2,k2,s2⟩:=HMV.out q
       have HQ2:=Lib.hid q2
       have HK2:=Lib.hid (Keeps.trans HK1.out (Keeps.trans ((Keeps.refl S1 w').drewN q) k2 (fun _ h=>.inl h)) HS1.out)
       have HS2:=Lib.hid (fun b (hb:S2 b)=>(s2 b hb).elim (HS1.out b) (fun h=>Or.inr (Nat.le_trans HK1.out.size h)))
       clear q2 k2 s2
       go_wp2_with fail
       rw [show ((k:Int)+1)=((k+1:Nat):Int) from rfl]
       generalize (w'.drewN q).setCell ⟨p,3,none⟩ (.int .i64 ((k+1:Nat):Int))=w2 at *
       clear c3 f3
       have HO:=Lib.hid (line_any HQ2.out)
       go_wp2_with fail
       refine HO.out.mono ?_
       rintro e w3 hstep
       have HST:=Lib.hid hstep
       clear hstep
       cases hES:zdE X.last (X.bs.drop (k+1)) with
       | none =>
         rw [hES] at HST
         obtain ⟨rfl,o2,k2,hn⟩:=HST.out
         have HN9:=Lib.hid (zaj.trans HK2.out HS2.out hn)
         have HNONE:=Lib.hid (show V=none by rw [HVE.out,hES])
         clear HST hn hES
         obtain ⟨S9,hq9,hk9,hs9⟩:=HN9.out
         have HQ9:=Lib.hid hq9
         have HB9:=Lib.hid (hk9.obj HBX.out HRS.out)
         have HK9:=Lib.hid (Keeps.trans HK0.out hk9 (fun _ h=>.inl h))
         have HOP:=Lib.hid (zd8 hq9)
         clear hq9 hk9 hs9
         go_wp2_with fail
         refine (HOP.out).mono ?_
         rintro e w9 ⟨rfl,rfl⟩
         obtain ⟨⟨k0,k1,k2,k3⟩,f0,f1,f2,f3⟩:=zaf HB9.out
         go_wp2
         simp only [Exit.jump]
         refine bodyPost_ret (zaa rfl _ _ r 48 _ (0,0) _ rfl (set4 HB9.out _ _ _ _) Tryz.underlying48 rfl zas _ rfl) rfl ?_
         exact zhl HNONE.out (zaJ HK9.out HRG.out _ _ _ _)
       | some j =>
         rw [hES] at HST
         obtain ⟨rfl,hn⟩:=HST.out
         have HN9:=Lib.hid (zaj.trans HK2.out HS2.out hn)
         have hkl2:k+1+j≤X.bs.length:=by obtain ⟨_,⟨_,_,h⟩,_⟩:=hn;exact h.le
         have HVV:=Lib.hid (show V=zaX X.last D (out++[10]) (X.bs.drop (k+1+j)) by
           rw [HVE.out,hES]
           simp only
           rw [List.drop_drop])
         have hD0:((D:Int)==0)=false:=by rw [beq_eq_false_iff_ne];omega
         clear HST hn hES
         obtain ⟨S9,hq9,hk9,hs9⟩:=HN9.out
         have HK9:=Lib.hid hk9
         have HS9:=Lib.hid hs9
         have HWB:=Lib.hid (zaC hq9 10 10 rfl (by omega))
         clear hq9 hk9 hs9
         go_wp2_with fail
         refine HWB.out.mono ?_
         rintro e w8 ⟨rfl,hn8⟩
         have HN8:=Lib.hid (zaj.trans HK9.out HS9.out hn8)
         clear hn8
         go_wp2
         go_step3
         exact ⟨rfl,X.bs.length-(k+1+j),by have:=HM.out;omega,D,(k+1+j),(out++[10]),_,_,_,_,_,_,_,_,_,_,_,_,_,_,_,_,_,_,_,_,_,_,_,_,_,_,_,_,_,_,_,_,_,_,_,_,_,_,_,_,_,_,_,_,_,_,_,_,_,_,_,_,_,_,_,_,_,rfl,Lib.hid ⟨by omega,by omega,by simp;omega,by omega,HN8.out,HVV.out⟩,rfl⟩
     have h13d:((c.toNat:Int)==13)=false:=by rw [beq_eq_false_iff_ne];intro e;exact h13 (UInt8.toNat_inj.1 (Int.ofNat_inj.1 e))
     by_cases h40:c=40
     · subst h40
       rw [textV_in] at hv
       have HVV:=Lib.hid hv
       have hD0:((D:Int)+1==0)=false:=by rw [beq_eq_false_iff_ne];omega
       clear hv h92 h92d h13 h13d
       go_wp2_with fail
       refine HP.out.mono ?_
       rintro e w1 ⟨rfl,q,rfl⟩
       obtain ⟨c3,f3⟩:=HC3.out q
       obtain ⟨S2,q2,k2,s2⟩:=HMV.out q
       have HQ2:=Lib.hid q2
       have HK2:=Lib.hid (Keeps.trans HK1.out (Keeps.trans ((Keeps.refl S1 w').drewN q) k2 (fun _ h=>.inl h)) HS1.out)
       have HS2:=Lib.hid (fun b (hb:S2 b)=>(s2 b hb).elim (HS1.out b) (fun h=>Or.inr (Nat.le_trans HK1.out.size h)))
       clear q2 k2 s2
       go_wp2_with fail
       rw [show ((k:Int)+1)=((k+1:Nat):Int) from rfl]
       generalize (w'.drewN q).setCell ⟨p,3,none⟩ (.int .i64 ((k+1:Nat):Int))=w2 at *
       clear c3 f3
       have HN9:=Lib.hid (zaj.trans HK2.out HS2.out (zaj.refl HQ2.out))
       obtain ⟨S9,hq9,hk9,hs9⟩:=HN9.out
       have HK9:=Lib.hid hk9
       have HS9:=Lib.hid hs9
       have HWB:=Lib.hid (zaC hq9 40 40 rfl (by omega))
       clear hq9 hk9 hs9
       go_wp2_with fail
       refine HWB.out.mono ?_
       rintro e w8 ⟨rfl,hn8⟩
       have HN8:=Lib.hid (zaj.trans HK9.out HS9.out hn8)
       clear hn8
       go_wp2
       go_step3
       exact ⟨rfl,X.bs.length-(k+1),by have:=HM.out;omega,(D+1),(k+1),(out++[40]),_,_,_,_,_,_,_,_,_,_,_,_,_,_,_,_,_,_,_,_,_,_,_,_,_,_,_,_,_,_,_,_,_,_,_,_,_,_,_,_,_,_,_,_,_,_,_,_,_,_,_,_,_,_,_,_,_,rfl,Lib.hid ⟨by omega,by omega,by simp;omega,by omega,HN8.out,HVV.out⟩,rfl⟩
     have h40d:((c.toNat:Int)==40)=false:=by rw [beq_eq_false_iff_ne];intro e;exact h40 (UInt8.toNat_inj.1 (Int.ofNat_inj.1 e))
     by_cases h41:c=41
     · subst h41
       rw [textV_out] at hv
       clear h92 h92d h13 h13d h40 h40d
       by_cases hD:D=1
       · subst hD
         rw [if_pos rfl] at hv
         have HVV:=Lib.hid hv
         clear hv
         go_wp2_with fail
         refine HP.out.mono ?_
         rintro e w1 ⟨rfl,q,rfl⟩
         obtain ⟨c3,f3⟩:=HC3.out q
         obtain ⟨S2,q2,k2,s2⟩:=HMV.out q
         have HQ2:=Lib.hid q2
         have HK2:=Lib.hid (Keeps.trans HK1.out (Keeps.trans ((Keeps.refl S1 w').drewN q) k2 (fun _ h=>.inl h)) HS1.out)
         have HS2:=Lib.hid (fun b (hb:S2 b)=>(s2 b hb).elim (HS1.out b) (fun h=>Or.inr (Nat.le_trans HK1.out.size h)))
         clear q2 k2 s2
         go_wp2_with fail
         rw [show ((k:Int)+1)=((k+1:Nat):Int) from rfl]
         generalize (w'.drewN q).setCell ⟨p,3,none⟩ (.int .i64 ((k+1:Nat):Int))=w2 at *
         clear c3 f3
         have HO:=Lib.hid (zeP HQ2.out)
         have HB2:=Lib.hid (HK2.out.obj HBX.out HRS.out)
         go_wp2_with fail
         refine HO.out.mono ?_
         rintro e w3 ⟨rfl,hk3,hp3⟩
         have HRS2:=Lib.hid (show ¬S2 r from fun e=>(HS2.out r e).elim HRS.out (fun h=>by have:=(Array.getElem?_eq_some_iff.1 HBX.out).1;omega))
         have HB9:=Lib.hid (hk3.obj HB2.out HRS2.out)
         have HK9:=Lib.hid (Keeps.trans HK0.out (Keeps.trans HK2.out hk3 HS2.out) (fun _ h=>.inl h))
         have HP3:=Lib.hid hp3
         clear hk3 hp3
         obtain ⟨⟨k0,k1,k2,k3⟩,f0,f1,f2,f3⟩:=zaf HB9.out
         go_wp2
         simp only [Exit.jump]
         refine bodyPost_ret (zaa rfl _ _ r 48 _ (0,0) _ rfl (set4 HB9.out _ _ _ _) Tryz.underlying48 rfl zas _ rfl) rfl ?_
         obtain ⟨ad9,v9,hsc⟩:=HQ2.out
         have hpr:p≠r:=fun e=>HRS.out (e▸HSP.out)
         refine txt_some HVV.out (zaJ HK9.out HRG.out _ _ _ _) (by rw [List.length_drop];omega) ?_
         rw [cell_of_row _ p 3 (scV X ad9 v9 (k+1)) 171 (0,0) ((za7 hpr _ _ _ _).trans (HP3.out.trans hsc.blk)),List.length_drop,show X.bs.length-(X.bs.length-(k+1))=k+1 from by omega]
         rfl
       · rw [if_neg hD] at hv
         have HVV:=Lib.hid hv
         obtain ⟨E,rfl⟩:∃E,D=E+1:=⟨D-1,by omega⟩
         have hD0:((E:Int)==0)=false:=by rw [beq_eq_false_iff_ne];omega
         have hE1:1≤E:=by omega
         clear hv hD
         go_wp2_with fail
         refine HP.out.mono ?_
         rintro e w1 ⟨rfl,q,rfl⟩
         obtain ⟨c3,f3⟩:=HC3.out q
         obtain ⟨S2,q2,k2,s2⟩:=HMV.out q
         have HQ2:=Lib.hid q2
         have HK2:=Lib.hid (Keeps.trans HK1.out (Keeps.trans ((Keeps.refl S1 w').drewN q) k2 (fun _ h=>.inl h)) HS1.out)
         have HS2:=Lib.hid (fun b (hb:S2 b)=>(s2 b hb).elim (HS1.out b) (fun h=>Or.inr (Nat.le_trans HK1.out.size h)))
         clear q2 k2 s2
         go_wp2_with fail
         rw [show ((k:Int)+1)=((k+1:Nat):Int) from rfl]
         generalize (w'.drewN q).setCell ⟨p,3,none⟩ (.int .i64 ((k+1:Nat):Int))=w2 at *
         clear c3 f3
         have HN9:=Lib.hid (zaj.trans HK2.out HS2.out (zaj.refl HQ2.out))
         obtain ⟨S9,hq9,hk9,hs9⟩:=HN9.out
         have HK9:=Lib.hid hk9
         have HS9:=Lib.hid hs9
         have HWB:=Lib.hid (zaC hq9 41 41 rfl (by omega))
         clear hq9 hk9 hs9
         go_wp2_with fail
         refine HWB.out.mono ?_
         rintro e w8 ⟨rfl,hn8⟩
         have HN8:=Lib.hid (zaj.trans HK9.out HS9.out hn8)
         clear hn8
         go_wp2
         go_step3
         exact ⟨rfl,X.bs.length-(k+1),by have:=HM.out;omega,E,(k+1),(out++[41]),_,_,_,_,_,_,_,_,_,_,_,_,_,_,_,_,_,_,_,_,_,_,_,_,_,_,_,_,_,_,_,_,_,_,_,_,_,_,_,_,_,_,_,_,_,_,_,_,_,_,_,_,_,_,_,_,_,rfl,Lib.hid ⟨by omega,by omega,by simp;omega,by omega,HN8.out,HVV.out⟩,rfl⟩
     have h41d:((c.toNat:Int)==41)=false:=by rw [beq_eq_false_iff_ne];intro e;exact h41 (UInt8.toNat_inj.1 (Int.ofNat_inj.1 e))
     rw [textV_byte _ _ _ _ _ h92 h13 h40 h41] at hv
     have HVV:=Lib.hid hv
     have hD0:((D:Int)==0)=false:=by rw [beq_eq_false_iff_ne];omega
     clear hv h92 h13 h40 h41
     go_wp2_with fail
     refine HP.out.mono ?_
     rintro e w1 ⟨rfl,q,rfl⟩
     obtain ⟨c3,f3⟩:=HC3.out q
     obtain ⟨S2,q2,k2,s2⟩:=HMV.out q
     have HQ2:=Lib.hid q2
     have HK2:=Lib.hid (Keeps.trans HK1.out (Keeps.trans ((Keeps.refl S1 w').drewN q) k2 (fun _ h=>.inl h)) HS1.out)
     have HS2:=Lib.hid (fun b (hb:S2 b)=>(s2 b hb).elim (HS1.out b) (fun h=>Or.inr (Nat.le_trans HK1.out.size h)))
     clear q2 k2 s2
     go_wp2_with fail
     rw [show ((k:Int)+1)=((k+1:Nat):Int) from rfl]
     generalize (w'.drewN q).setCell ⟨p,3,none⟩ (.int .i64 ((k+1:Nat):Int))=w2 at *
     clear c3 f3
     have HN9:=Lib.hid (zaj.trans HK2.out HS2.out (zaj.refl HQ2.out))
     obtain ⟨S9,hq9,hk9,hs9⟩:=HN9.out
     have HK9:=Lib.hid hk9
     have HS9:=Lib.hid hs9
     have HWB:=Lib.hid (zaC hq9 c _ rfl (by omega))
     clear hq9 hk9 hs9
     go_wp2_with fail
     refine HWB.out.mono ?_
     rintro e w8 ⟨rfl,hn8⟩
     have HN8:=Lib.hid (zaj.trans HK9.out HS9.out hn8)
     clear hn8
     go_wp2
     go_step3
     exact ⟨rfl,X.bs.length-(k+1),by have:=HM.out;omega,D,(k+1),(out++[c]),_,_,_,_,_,_,_,_,_,_,_,_,_,_,_,_,_,_,_,_,_,_,_,_,_,_,_,_,_,_,_,_,_,_,_,_,_,_,_,_,_,_,_,_,_,_,_,_,_,_,_,_,_,_,_,_,_,rfl,Lib.hid ⟨by omega,by omega,by simp;omega,by omega,HN8.out,HVV.out⟩,rfl⟩
end Go.Proofs.YtkhcjoomijkfbaaGreatDoor
