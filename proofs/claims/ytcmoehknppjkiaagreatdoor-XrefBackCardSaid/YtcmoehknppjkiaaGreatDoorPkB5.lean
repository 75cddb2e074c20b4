/-
  Our texts SecM to LexL, in one.
-/
import Derived.Test.YtcmoehknppjkiaaGreatDoorPkB4
import Derived.Deep.QuietTactic
import Derived.BigQuiet
import Derived.Deep.LoopGhost
import Derived.Deep.CutBlock
set_option maxRecDepth 8000
set_option maxHeartbeats 8000000
namespace Go.Proofs.YtcmoehknppjkiaaGreatDoor
open Go.RowKit
def entC (e:Ent):List Value:=[.int .i64 e.at_,.int .i64 e.gen,.bool e.used]
def zcN (l:List Ent):List Value:=l.flatMap entC
def entA (e:Ent):Value:=.agg #[.int .i64 e.at_,.int .i64 e.gen,.bool e.used]
theorem zfd (l m:List Ent):zcN (l++m)=zcN l++zcN m:=by simp [zcN]
theorem entsC_get:∀(l:List Ent) (k:Nat) (e:Ent),l[k]?=some e->(zcN l)[k*3]?=some (.int .i64 e.at_)/\(zcN l)[k*3+1]?=some (.int .i64 e.gen)/\(zcN l)[k*3+2]?=some (.bool e.used)
 | [],k,e,h=>by simp at h
 | x::l,0,e,h=>by
  simp at h;subst h;exact ⟨rfl,rfl,rfl⟩
 | x::l,k+1,e,h=>by
  obtain ⟨h1,h2,h3⟩:=entsC_get l k e (by simpa using h);have hx:zcN (x::l)=.int .i64 x.at_::.int .i64 x.gen::.bool x.used::zcN l:=rfl;rw [hx,show (k+1)*3=k*3+1+1+1 by omega];simp only [List.getElem?_cons_succ];exact ⟨h1,h2,h3⟩
def IsE (w:World) (F:Nat->Prop) (es:List Ent) (v:Value):Prop:=∃a cap,v=.slice a es.length cap/\Row w 3 a es.length cap (zcN es)/\(0<es.length->∀x,a=some x->F x.block)
def IsGs (w:World) (F:Nat->Prop):List Grp->List Value->Prop
 | [],cs=>cs=[]
 | g::gs,cs=>∃v t,cs=.int .i64 g.first::v::t/\IsE w F g.es v/\IsGs w F gs t
def IsG (w:World) (F:Nat->Prop) (gs:List Grp) (v:Value):Prop:=∃a cap cs,v=.slice a gs.length cap/\Row w 2 a gs.length cap cs/\(0<gs.length->∀x,a=some x->F x.block)/\IsGs w F gs cs
theorem IsE.keep {w w':World} {F G:Nat->Prop} (hk:zaU F w w') (hG:∀b,F b->G b) {es:List Ent} {v:Value} (h:IsE w F es v):IsE w' G es v:=by
 obtain ⟨a,cap,e,hr,hF⟩:=h;exact ⟨a,cap,e,hr.stays hk hF,fun h0 x hx=>hG _ (hF h0 x hx)⟩
theorem IsGs.keep {w w':World} {F G:Nat->Prop} (hk:zaU F w w') (hG:∀b,F b->G b):∀ {gs:List Grp} {cs:List Value},IsGs w F gs cs->IsGs w' G gs cs
 | [],_,h=>h
 | _::_,_,⟨v,t,e,h1,h2⟩=>⟨v,t,e,h1.keep hk hG,IsGs.keep hk hG h2⟩
theorem IsG.keep {w w':World} {F G:Nat->Prop} (hk:zaU F w w') (hG:∀b,F b->G b) {gs:List Grp} {v:Value} (h:IsG w F gs v):IsG w' G gs v:=by
 obtain ⟨a,cap,cs,e,hr,hF,hs⟩:=h;exact ⟨a,cap,cs,e,hr.stays hk hF,fun h0 x hx=>hG _ (hF h0 x hx),hs.keep hk hG⟩
theorem IsE.below {w w':World} {F:Nat->Prop} {es:List Ent} {v:Value} (h:IsE w F es v) (hb:Below w.heap.size w w'):IsE w' F es v:=h.keep (zaU.of_below hb) (fun _ h=>h)
theorem IsGs.below {w w':World} {F:Nat->Prop} {gs:List Grp} {cs:List Value} (h:IsGs w F gs cs) (hb:Below w.heap.size w w'):IsGs w' F gs cs:=h.keep (zaU.of_below hb) (fun _ h=>h)
theorem IsG.below {w w':World} {F:Nat->Prop} {gs:List Grp} {v:Value} (h:IsG w F gs v) (hb:Below w.heap.size w w'):IsG w' F gs v:=h.keep (zaU.of_below hb) (fun _ h=>h)
theorem IsE.nil (w:World) (F:Nat->Prop):IsE w F [] (.slice none 0 0):=⟨none,0,rfl,Row.nil w 3,fun h=>by cases h⟩
theorem IsG.nil (w:World) (F:Nat->Prop):IsG w F [] (.slice none 0 0):=⟨none,0,[],rfl,Row.nil w 2,fun h=>(by cases h),rfl⟩
theorem IsGs.length {w:World} {F:Nat->Prop}:∀ {gs:List Grp} {cs:List Value},IsGs w F gs cs->cs.length=gs.length*2
 | [],_,h=>by cases h;rfl
 | _::_,_,⟨v,t,e,_,h2⟩=>by subst e;have:=IsGs.length h2;simp;omega
theorem IsGs.append {w:World} {F:Nat->Prop}:∀ {l m:List Grp} {cs ds:List Value},IsGs w F l cs->IsGs w F m ds->IsGs w F (l++m) (cs++ds)
 | [],_,_,_,h,hm=>by cases h;exact hm
 | _::_,_,_,_,⟨v,t,e,h1,h2⟩,hm=>⟨v,t++_,by subst e;rfl,h1,IsGs.append h2 hm⟩
theorem IsGs.snoc {w:World} {F:Nat->Prop} {gs:List Grp} {cs:List Value} (h:IsGs w F gs cs) {n:Int} {es:List Ent} {v:Value} (hv:IsE w F es v):IsGs w F (gs++[⟨n,es⟩]) (cs++[.int .i64 n,v]):=h.append ⟨v,[],rfl,hv,rfl⟩
theorem IsGs.get {w:World} {F:Nat->Prop}:∀ {gs:List Grp} {cs:List Value},IsGs w F gs cs->∀(k:Nat) (g:Grp),gs[k]?=some g->∃v,IsE w F g.es v/\cs[k*2]?=some (.int .i64 g.first)/\cs[k*2+1]?=some v
 | [],_,_,_,_,hk=>by simp at hk
 | x::l,_,⟨v,t,e,h1,h2⟩,0,g,hk=>by
  simp at hk;subst hk e;exact ⟨v,h1,rfl,rfl⟩
 | x::l,_,⟨v,t,e,h1,h2⟩,k+1,g,hk=>by
  subst e;obtain ⟨v2,h3,h4,h5⟩:=h2.get k g (by simpa using hk);refine ⟨v2,h3,?_,?_⟩
  ·rw [show (k+1)*2=k*2+1+1 by omega];simpa using h4
  ·rw [show (k+1)*2+1=k*2+1+1+1 by omega];simpa using h5
theorem IsE.len {w:World} {F:Nat->Prop} {es:List Ent} {v:Value} (h:IsE w F es v):∃a cap,v=.slice a es.length cap/\es.length<=cap/\cap<=maxLen/\(a=none->cap=0):=by
 obtain ⟨a,cap,e,hr,_⟩:=h;exact ⟨a,cap,e,hr.2.1,hr.2.2.1,hr.2.2.2.1⟩
theorem IsG.len {w:World} {F:Nat->Prop} {gs:List Grp} {v:Value} (h:IsG w F gs v):∃a cap,v=.slice a gs.length cap/\gs.length<=cap/\cap<=maxLen/\(a=none->cap=0):=by
 obtain ⟨a,cap,cs,e,hr,_⟩:=h;exact ⟨a,cap,e,hr.2.1,hr.2.2.1,hr.2.2.2.1⟩
theorem IsE.at {w:World} {F:Nat->Prop} {es:List Ent} {a:Option Addr} {n cap:Nat} (h:IsE w F es (.slice a n cap)) (hn:0<n) :
  n=es.length/\n<=cap/\cap<=maxLen/\∃b off,a=some ⟨b,off,none⟩/\b<w.heap.size/\F b/\∀k x,es[k]?=some x->w.cell? ⟨b,off+k*3,none⟩=some (.int .i64 x.at_) /\
   w.cell? ⟨b,off+k*3+1,none⟩=some (.int .i64 x.gen)/\w.cell? ⟨b,off+k*3+2,none⟩=some (.bool x.used):=by
 obtain ⟨a',cap',e,hr,hF⟩:=h;simp only [Value.slice.injEq] at e;obtain ⟨rfl,rfl,rfl⟩:=e;obtain ⟨b,off,rfl,hb,hc⟩:=hr.2.2.2.2 hn;refine ⟨rfl,hr.2.1,hr.2.2.1,b,off,rfl,hb,hF hn _ rfl,fun k x hx=>?_⟩;obtain ⟨h2,h3,h4⟩:=entsC_get es k x hx;exact ⟨hc _ _ h2,(Nat.add_assoc off (k*3) 1).symm▸hc _ _ h3,(Nat.add_assoc off (k*3) 2).symm▸hc _ _ h4⟩
theorem IsG.at {w:World} {F:Nat->Prop} {gs:List Grp} {a:Option Addr} {n cap:Nat} (h:IsG w F gs (.slice a n cap)) (hn:0<n) :
  n=gs.length/\n<=cap/\cap<=maxLen/\∃b off,a=some ⟨b,off,none⟩/\b<w.heap.size/\F b/\∀k x,gs[k]?=some x->∃v,IsE w F x.es v/\w.cell? ⟨b,off+k*2,none⟩=some (.int .i64 x.first) /\
   w.cell? ⟨b,off+k*2+1,none⟩=some v:=by
 obtain ⟨a',cap',cs,e,hr,hF,hs⟩:=h;simp only [Value.slice.injEq] at e;obtain ⟨rfl,rfl,rfl⟩:=e;obtain ⟨b,off,rfl,hb,hc⟩:=hr.2.2.2.2 hn;refine ⟨rfl,hr.2.1,hr.2.2.1,b,off,rfl,hb,hF hn _ rfl,fun k x hx=>?_⟩;obtain ⟨v,h1,h2,h3⟩:=hs.get k x hx;exact ⟨v,h1,hc _ _ h2,(Nat.add_assoc off (k*2) 1).symm▸hc _ _ h3⟩
def secC (s:Sec) (gv sl:Value):List Value:=gv::pvC s.tr sl
def secA (s:Sec) (gv sl:Value):Value:=.agg #[gv,.int .i64 s.tr.kind,.int .i64 s.tr.n,.string (mkB s.tr.s),sl]
def zcj (w:World) (F:Nat->Prop) (s:Sec) (gv sl:Value):Prop:=IsG w F s.gs gv/\IsV w F s.tr sl
theorem zcj.keep {w w':World} {F G:Nat->Prop} (hk:zaU F w w') (hG:∀b,F b->G b) {s:Sec} {gv sl:Value} (h:zcj w F s gv sl):zcj w' G s gv sl:=⟨h.1.keep hk hG,IsV.keep hk hG _ h.2⟩
theorem zcj.below {w w':World} {F:Nat->Prop} {s:Sec} {gv sl:Value} (h:zcj w F s gv sl) (hb:Below w.heap.size w w'):zcj w' F s gv sl:=h.keep (zaU.of_below hb) (fun _ h=>h)
theorem isSec_none (w:World) (F:Nat->Prop):zcj w F Sec.none (.slice none 0 0) (.slice none 0 0):=⟨IsG.nil w F,IsV.leaf w F _ rfl⟩
theorem zgz (x:Tk) (f t:Int) (w:World):Calls Tryz.prog 61 #[.agg (tokN x f t)] w fun e w'=>e=.returned (.bool (zaN x))/\Below w.heap.size w w':=by
 unfold tokN zaN;generalize x.kind=a0 at *;generalize x.vk=a1 at *;generalize x.vn=a2 at *;generalize mkB x.vs=s1 at *;generalize mkB x.s=s2 at *
 cases h0:(a0==1)
 ·go_enter Tryz.func61,Tryz.ntmps61
  go_wp2;go_ret;exact ⟨rfl,zai w _⟩
 ·go_enter Tryz.func61,Tryz.ntmps61
  go_wp2;go_ret;exact ⟨rfl,zai w _⟩
theorem zgy (x:Tk) (f t:Int) (w:World):Calls Tryz.prog 33 #[.agg (tokN x f t)] w fun e w'=>e=.returned (.bool (zaN x))/\Below w.heap.size w w':=by
 unfold tokN zaN;generalize x.kind=a0 at *;generalize x.vk=a1 at *;generalize x.vn=a2 at *;generalize mkB x.vs=s1 at *;generalize mkB x.s=s2 at *
 cases h0:(a0==1)
 ·go_enter Tryz.func33,Tryz.ntmps33
  go_wp2;go_ret;exact ⟨rfl,zai w _⟩
 ·go_enter Tryz.func33,Tryz.ntmps33
  go_wp2;go_ret;exact ⟨rfl,zai w _⟩
theorem fits_any (f n:Int) (w:World):Calls Tryz.prog 41 #[.int .i64 f,.int .i64 n] w fun e w'=>e=.returned (.bool (zdn f n))/\w=w':=by
 unfold zdn
 by_cases a1:0<=f
 ·by_cases a2:f<=4097
  ·by_cases a3:0<=n
   ·by_cases a4:n<=4097-f
    ·go_enter Tryz.func41,Tryz.ntmps41
     go_wp2;go_ret;exact ⟨by simp [a1,a2,a3,a4],rfl⟩
    ·go_enter Tryz.func41,Tryz.ntmps41
     go_wp2;go_ret;exact ⟨by simp [a4],rfl⟩
   ·go_enter Tryz.func41,Tryz.ntmps41
    go_wp2;go_ret;exact ⟨by simp;omega,rfl⟩
  ·go_enter Tryz.func41,Tryz.ntmps41
   go_wp2;go_ret;exact ⟨by simp;omega,rfl⟩
 ·go_enter Tryz.func41,Tryz.ntmps41
  go_wp2;go_ret;exact ⟨by simp;omega,rfl⟩
def dig1 (l:List UInt8) (most:Int):Int:=if (zaD l).2≠0\/most<(zaD l).1 then -1 else (zaD l).1
structure zaI (W:World) where
 w:World
 h:Below W.heap.size W w
instance zaI.there (W:World):Nonempty (zaI W):=⟨⟨W,Below.refl _ _⟩⟩
theorem zaX {P:Program} {id:Nat} {Q:Exit->Act->World->Prop} {a:Act} {W:World} {l:List Oper} (hm:P.follows .mixedOrders=true) (hB:Region.lexB .any l.toArray=true)
  (h:wpQuiet P l.toArray (fun w'=>∃p:zaI W,w'=p.w) (fun a'=>∀w',(∃p:zaI W,w'=p.w)->Q .normal a' w') l a):(Code.region id l.toArray true).wp P Q a W :=
 wp_region_quiet (C:=fun w'=>∃p:zaI W,w'=p.w) hm hB ⟨⟨W.drew,(Below.refl _ _).drew⟩,rfl⟩ (by simpa using h)
theorem Calls.below_of {P:Program} {f:FuncId} {args:Array Value} {W:World} {p:zaI W} {v:Value}
  (h:Calls P f args p.w fun e w'=>e=.returned v/\Below p.w.heap.size p.w w'):Calls P f args p.w fun e w''=>e=.returned v/\∃p':zaI W,w''=p'.w :=
 h.mono fun _ w' ⟨he,hb⟩=>⟨he,⟨w',p.h.trans (hb.mono p.h.size)⟩,rfl⟩
theorem zaI.cell {W:World} {b o:Nat} {v:Value} (hc:W.cell? ⟨b,o,none⟩=some v) (p:zaI W):p.w.cell? ⟨b,o,none⟩=some v:=cell?_keep p.h hc
theorem conv_rowX {w:World} {a:Option Addr} {cap:Nat} {bs:List UInt8} (hr:Row w 1 a bs.length cap (bs.map u8C)):(convert 28 9 (.slice a bs.length cap)).run Tryz.prog w=.ok (.string (mkB bs)) w:=by
 cases a with
 | none =>
  have h0:=hr.2.2.2.1 rfl;have h1:=hr.2.1;have ho:bs=[]:=List.eq_nil_of_length_eq_zero (by omega);subst ho;rw [h0];exact run_convert_bytes_string w 28 9 5 none 0 0 Tryz.underlying28 Tryz.underlying5 Tryz.underlying9
 | some x =>
  refine run_convert_bytes_back (P:=Tryz.prog) w 28 9 5 x cap bs Tryz.underlying28 Tryz.underlying5 Tryz.underlying9 (fun j hj=>?_);obtain ⟨b,o,hx,-,hc⟩:=hr.2.2.2.2 (by omega)
  cases hx
  rw [Addr.add_lit];exact hc j (u8C bs[j]) (by simp [hj])
theorem xdig_any {w:World} {a:Option Addr} {n cap:Nat} {l:List UInt8} (hr:Row w 1 a n cap (l.map u8C)) (hl:l.length=n) (most:Int) :
  Calls Tryz.prog 138 #[.slice a n cap,.int .i64 most] w fun e w'=>e=.returned (.int .i64 (dig1 l most))/\Below w.heap.size w w':=by
 subst hl;have Xq:=conv_rowX hr;have HD:=yb (zc0 (mkB l) w);rw [show bl (mkB l)=l from rfl] at HD;unfold dig1;generalize zaD l=V at *;obtain ⟨n,e⟩:=V;unfold DigEnd at HD;simp only at HD |-;clear hr;generalize l.length=L at *;generalize mkB l=s at *
 by_cases he:e=0
 ·subst he
  by_cases hn:most<n
  ·rw [yg (.inr hn)]
   go_enter Tryz.func138,Tryz.ntmps138
   go_wp2_with (go_at_call 168;refine HD.out.mono ?_;rintro e w' ⟨rfl,hb⟩;have HB:=yb hb;clear hb)
   go_ret;exact ⟨rfl,HB.out⟩
  ·rw [yh (by simpa using hn)]
   go_enter Tryz.func138,Tryz.ntmps138
   go_wp2_with (go_at_call 168;refine HD.out.mono ?_;rintro e w' ⟨rfl,hb⟩;have HB:=yb hb;clear hb)
   go_ret;exact ⟨rfl,HB.out⟩
 ·rw [yg (.inl he)]
  have e0:(e==0)=false:=by rw [yf];exact he
  have e1:(e != 0)=true:=by simp only [bne,e0,yj]
  clear he;go_enter Tryz.func138,Tryz.ntmps138
  go_wp2_with (go_at_call 168;refine HD.out.mono ?_;rintro e w' ⟨rfl,hb⟩;have HB:=yb hb;clear hb)
  go_ret;exact ⟨rfl,HB.out⟩
theorem set3a {w:World} {b:Nat} {x0 x1 x2:Value} {t:TypeId} (h:w.heap[b]?=some (.cells #[x0,x1,x2] t (0,0))) (y0 y1 y2:Value) :
  (((w.setCell ⟨b,0,none⟩ y0).setCell ⟨b,1,none⟩ y1).setCell ⟨b,2,none⟩ y2).heap[b]?=some (.cells #[y0,y1,y2] t (0,0)):=by
 rw [heap_setCell_same _ _ 2 _ _ _ (heap_setCell_same _ _ 1 _ _ _ (heap_setCell_same w _ 0 _ _ _ h))];rfl
theorem zcL {w:World} {b:Nat} {x0 x1 x2:Value} {t:TypeId} (h:w.heap[b]?=some (.cells #[x0,x1,x2] t (0,0))) :
  (w.cell? ⟨b,0,none⟩=some x0/\w.cell? ⟨b,1,none⟩=some x1/\w.cell? ⟨b,2,none⟩=some x2)/\(w.frozen? ⟨b,0,none⟩=false/\w.frozen? ⟨b,1,none⟩=false/\w.frozen? ⟨b,2,none⟩=false):=by
 refine ⟨⟨?_,?_,?_⟩,frozen_of_row w b 0 _ _ h,frozen_of_row w b 1 _ _ h,frozen_of_row w b 2 _ _ h⟩
 ·rw [cell_of_row w b 0 _ _ _ h];rfl
 ·rw [cell_of_row w b 1 _ _ _ h];rfl
 ·rw [cell_of_row w b 2 _ _ _ h];rfl
theorem zdZ {c d:UInt8} {n:Nat} (h:c.toNat=n) (hd:d.toNat=n):c=d:=UInt8.toNat_inj.1 (h.trans hd.symm)
theorem u8_beq (c d:UInt8) (n:Nat) (hd:d.toNat=n):(c==d)=((c.toNat:Int)==(n:Int)):=by
 by_cases h:c=d
 ·subst h;rw [hd];simp
 ·have h2:c.toNat≠n:=fun e=>h (zdZ e hd)
  rw [beq_eq_false_iff_ne.2 h,eq_comm,yf];omega
theorem zgZ {s:List UInt8} (h:true=(entS s).isNone):entS s=none:=by
 cases hs:entS s with
 | none=>rfl
 | some x=>rw [hs] at h;cases h
theorem zdB:(Tryz.prog.info? 45).map (·.size)=some 3:=by kernel_rfl
theorem skip_go {bs:List UInt8} {j:Nat} (hj:j<bs.length) (h:isSp (bs.getD j 0)=true):zc6 bs j=zc6 bs (j+1):=by
 unfold zc6;rw [zay hj,List.takeWhile_cons,yg h,List.length_cons];omega
theorem skip_stop {bs:List UInt8} {j:Nat} (hj:j<bs.length) (h:isSp (bs.getD j 0)=false):zc6 bs j=j:=by
 unfold zc6;rw [zay hj,List.takeWhile_cons,yh (by rw [h];decide)];rfl
theorem skip_end (bs:List UInt8):zc6 bs bs.length=bs.length:=by
 unfold zc6;rw [List.drop_length];rfl
theorem zeS {s:List UInt8} (h:dig1 (s.take 10) 2147483647<0\/dig1 ((s.drop 11).take 5) 65535<0\/s.getD 10 0≠32\/s.getD 16 0≠32\/(s.getD 17 0≠110/\s.getD 17 0≠102)\/(s.getD 18 0≠32/\s.getD 18 0≠10/\s.getD 18 0≠13)):entS s=none:=by
 unfold entS;rw [yg];rcases h with h|h|h|h|h|h
 ·left
  unfold dig1 at h
  split at h
  ·rename_i hq
   rcases hq with hq|hq
   ·exact hq
   ·have:=zdH (s.take 10)
    omega
  ·have:=zdH (s.take 10)
   omega
 ·unfold dig1 at h
  split at h
  ·rename_i hq
   rcases hq with hq|hq
   ·exact .inr (.inl hq)
   ·exact .inr (.inr (.inl hq))
  ·have:=zdH ((s.drop 11).take 5)
   omega
 ·exact .inr (.inr (.inr (.inl h)))
 ·exact .inr (.inr (.inr (.inr (.inl h))))
 ·exact .inr (.inr (.inr (.inr (.inr (.inl h)))))
 ·exact .inr (.inr (.inr (.inr (.inr (.inr h)))))
theorem zhR {w:World} {b o n cap:Nat} {bs:List UInt8} (h:Row w 1 (some ⟨b,o,none⟩) n cap (bs.map u8C)) (u m:Nat) (hm:u+m<=n):Row w 1 (some ⟨b,o+u,none⟩) m (cap-u) (((bs.drop u).take m).map u8C):=by
 obtain ⟨h1,h2,h3,-,h5⟩:=h;rw [List.length_map] at h1;refine ⟨by rw [List.length_map,List.length_take,ym];omega,by omega,by omega,fun h=>(by cases h),fun hm0=>?_⟩;obtain ⟨b',o',e,hb,hc⟩:=h5 (by omega)
 cases e
 refine ⟨b,o+u,rfl,hb,fun j x hj=>?_⟩;rw [Nat.add_assoc];refine hc _ _ ?_;rw [List.getElem?_map] at hj |-;rw [List.getElem?_take] at hj
 split at hj
 ·rw [List.getElem?_drop] at hj;exact hj
 ·cases hj
theorem entV_cut {bs:List UInt8} {yq:Bool} {k j:Nat} (h:zc6 bs k=j) (hl:bs.length<j+19):entV bs yq k=({},0,zbf yq):=by unfold entV;rw [h,yg hl]
theorem entV_bad {bs:List UInt8} {yq:Bool} {k j:Nat} (h:zc6 bs k=j) (hl:¬bs.length<j+19) (hs:entS ((bs.drop j).take 19)=none):entV bs yq k=({},0,20):=by unfold entV;rw [h,yh hl,hs]
theorem entV_ok {bs:List UInt8} {yq:Bool} {k j:Nat} (h:zc6 bs k=j) (hl:¬bs.length<j+19) {x:Ent} (hs:entS ((bs.drop j).take 19)=some x):entV bs yq k=(x,j+19,0):=by unfold entV;rw [h,yh hl,hs]
theorem ent_some {s:List UInt8} (h:false=(entS s).isNone):entS s=some { at_:=dig1 (s.take 10) 2147483647,gen:=dig1 ((s.drop 11).take 5) 65535,used:=s.getD 17 0==110 }:=by
 unfold entS at h |-
 split at h
 ·cases h
 ·rename_i hn
  rw [yh hn]
  have e1:¬((zaD (s.take 10)).2≠0\/2147483647<(zaD (s.take 10)).1):=by
   have:=zdH (s.take 10);rintro (h|h)
   ·exact hn (.inl h)
   ·omega
  have e2:¬((zaD ((s.drop 11).take 5)).2≠0\/65535<(zaD ((s.drop 11).take 5)).1):=by
   rintro (h|h)
   ·exact hn (.inr (.inl h))
   ·exact hn (.inr (.inr (.inl h)))
  unfold dig1;rw [yh e1,yh e2]
theorem ent_good {s:List UInt8} (h1:0<=dig1 (s.take 10) 2147483647) (h2:0<=dig1 ((s.drop 11).take 5) 65535) (h3:s.getD 10 0=32) (h4:s.getD 16 0=32) (h5:s.getD 17 0=110\/s.getD 17 0=102) (h6:s.getD 18 0=32\/s.getD 18 0=10\/s.getD 18 0=13) :
  entS s=some { at_:=dig1 (s.take 10) 2147483647,gen:=dig1 ((s.drop 11).take 5) 65535,used:=s.getD 17 0==110 }:=by
 unfold dig1 at *;have e1:¬((zaD (s.take 10)).2≠0\/2147483647<(zaD (s.take 10)).1):=by intro hn;rw [yg hn] at h1;exact absurd h1 (by decide)
 have e2:¬((zaD ((s.drop 11).take 5)).2≠0\/65535<(zaD ((s.drop 11).take 5)).1):=by intro hn;rw [yg hn] at h2;exact absurd h2 (by decide)
 rw [yh e1,yh e2];unfold entS;rw [yh];rintro (hn|hn|hn|hn|hn|hn|hn)
 ·exact e1 (.inl hn)
 ·exact e2 (.inl hn)
 ·exact e2 (.inr hn)
 ·exact hn h3
 ·exact hn h4
 ·rcases h5 with h|h
  ·exact hn.1 h
  ·exact hn.2 h
 ·rcases h6 with h|h|h
  ·exact hn.1 h
  ·exact hn.2.1 h
  ·exact hn.2.2 h
section
variable {w0 w w' : World} {p : Nat} {a : Option Addr} {cap : Nat} {bs : List UInt8} {yq : Bool} {at_ : Int}
theorem IsRd.set3r (h:IsRd w0 w p a cap bs yq at_) {r:Nat} (hr:p≠r) (h0:w0.heap.size<=r) (y0 y1 y2:Value):IsRd w0 (((w.setCell ⟨r,0,none⟩ y0).setCell ⟨r,1,none⟩ y1).setCell ⟨r,2,none⟩ y2) p a cap bs yq at_ :=
 ⟨by rw [heap_setCell_other _ _ _ _ hr,heap_setCell_other _ _ _ _ hr,heap_setCell_other _ _ _ _ hr];exact h.blk,h.new,h.row,((h.bel.setCell h0 _).setCell h0 _).setCell h0 _,h.small⟩
theorem zeX {S:Nat->Prop} {W:World} (h:zak S w W) {r:Nat} (hr:w.heap.size<=r) (y0 y1 y2:Value):zak S w (((W.setCell ⟨r,0,none⟩ y0).setCell ⟨r,1,none⟩ y1).setCell ⟨r,2,none⟩ y2) :=
 ((h.setCell (.inr hr) _).setCell (.inr hr) _).setCell (.inr hr) _
theorem xopen_any (h:IsRd w0 w p a cap bs yq at_):Calls Tryz.prog 137 #[.pointer (some ⟨p,0,none⟩)] w fun e w'=>e=.returned (.int .i64 (zbf yq))/\w=w':=by
 obtain ⟨⟨-,-,c2⟩,-⟩:=h.cells;clear h
 cases yq
 ·go_enter Tryz.func137,Tryz.ntmps137
  go_wp2;go_ret;exact ⟨rfl,rfl⟩
 ·go_enter Tryz.func137,Tryz.ntmps137
  go_wp2;go_ret;exact ⟨rfl,rfl⟩
def EntEnd (w0 w:World) (p:Nat) (a:Option Addr) (cap:Nat) (bs:List UInt8) (yq:Bool) (V:Ent×Nat×Int) (e:Ending) (w':World):Prop :=
 e=.returned (.tuple #[entA V.1,.int .i64 V.2.2])/\(∃at2:Int,IsRd w0 w' p a cap bs yq at2/\(V.2.2=0->at2=V.2.1))/\zak (fun b=>b=p) w w'
theorem xentry_any {k:Nat} (h:IsRd w0 w p a cap bs yq (k:Int)) (hk:k<=bs.length):Calls Tryz.prog 101 #[.pointer (some ⟨p,0,none⟩)] w (EntEnd w0 w p a cap bs yq (entV bs yq k)):=by
 obtain ⟨V,hV⟩:∃V,V=entV bs yq k:=⟨_,rfl⟩;rw [<-hV];have HV:=yb hV;have Yo:=h.small;have Xr:=h.row.2.1;have Zq:=h.row.i64c;have HR:=yb h;clear h hV;go_enter Tryz.func101,Tryz.ntmps101
 go_upto_block 0 with fail
 have Q6:=yb (zai w (.cells #[.int .i64 0,.int .i64 0,.bool false] 45));have YV:=yb (HR.out.mono Q6.out);obtain ⟨r,hr⟩:∃r,r=w.heap.size:=⟨_,rfl⟩;have Ze:=yb (zac (w:=w) (b:=r) (.cells #[.int .i64 0,.int .i64 0,.bool false] 45) hr);have hpr:p≠r:=by have:=HR.out.lt;omega
 have Qd:=yb hpr;have Q7:=yb (Nat.le_of_eq hr.symm);have Qt:=yb (Nat.le_trans HR.out.bel.size Q7.out);rw [<-hr];clear hr hpr;generalize w.alloc _=W1 at *;obtain ⟨J,hJ⟩:∃J,J=zc6 bs k:=⟨_,rfl⟩;have HJ:=yb hJ;clear hJ
 go_cut [] from 8 (fun wx=>∃j:Nat,k<=j/\j<=bs.length/\Hid (J=j)/\Hid (IsRd w0 wx p a cap bs yq (j:Int))/\Hid (zak (fun b=>b=p) W1 wx))
 case first =>
  go_wp2_with fail
  go_loopg [] (bs.length-k) (fun g wr=>∃j:Nat,g=bs.length-j/\k<=j/\j<=bs.length/\Hid (zc6 bs j=J)/\Hid (IsRd w0 wr p a cap bs yq (j:Int))/\Hid (zak (fun b=>b=p) W1 wr))
  case atStart=>exact ⟨k,rfl,yp _,hk,yb HJ.out.symm,YV,yb (zak.refl _ _)⟩
  case round =>
   obtain ⟨j,hg,ZO,hj,ZP,HI,ZQ⟩:=hrel;have HG:=yb hg;obtain ⟨⟨c0,c1,c2⟩,f0,f1,f2⟩:=HI.out.cells;clear hg;have Qn:(j:Int)<=400000:=by omega
   by_cases hjl:j<bs.length
   ·obtain ⟨b,off,rfl,-,Qa⟩:=HI.out.bytes.at 0 j hjl
    have QT:=Qa j hjl;unfold u8C at QT;have Zf:decide ((j:Int)<bs.length)=true:=by simp;omega
    have ZR:decide (j<bs.length)=true:=by simp;omega
    have Qj:=yb (fun W=>zec (bs.getD j 0).toNat W);rw [<-ze7] at Qj;have Qo:=yb (fun h=>skip_go (bs:=bs) hjl h);have Zr:=yb (fun h=>skip_stop (bs:=bs) hjl h);clear Qa;generalize bs.getD j 0=c at *;obtain ⟨sp,QU⟩:∃sp,isSp c=sp:=⟨_,rfl⟩;rw [QU] at Qj;have Yp:=yb QU;clear QU;generalize c.toNat=x at *
    cases sp
    ·go_wp2
     go_quiet ((go_at_call 136;exact (Qj.out _).mono fun _ _ ⟨he,hm⟩=>⟨he,_,hm.symm⟩))
     go_wp2_with fail
     go_meet
     exact ⟨j,ZO,hj,yb (ZP.out.symm.trans (Zr.out Yp.out)),yb (HI.out.mono (zag (Below.refl _ _) _)),yb (ZQ.out.drewN _)⟩
    ·go_wp2
     go_quiet ((go_at_call 136;exact (Qj.out _).mono fun _ _ ⟨he,hm⟩=>⟨he,_,hm.symm⟩))
     go_wp2
     go_roundg (bs.length-(j+1))
     case rel=>exact ⟨j+1,rfl,by omega,by omega,yb ((Qo.out Yp.out).symm.trans ZP.out),yb ((HI.out.mono (zag (Below.refl _ _) _)).setAt _),yb ((ZQ.out.drewN _).setCell (.inl rfl) _)⟩
     case measure=>have:=HG.out;omega
   ·have Yq:j=bs.length:=by omega
    have Q8:=yb (show J=j by rw [<-ZP.out,Yq];exact skip_end bs);have Zf:decide ((j:Int)<bs.length)=false:=ye (by omega);have ZR:decide (j<bs.length)=false:=ye (by omega);clear Yq;go_wp2
    go_quiet (fail)
    go_wp2_with fail
    go_meet
    exact ⟨j,ZO,hj,Q8,yb (HI.out.mono (zag (Below.refl _ _) _)),yb (ZQ.out.drewN _)⟩
 case rest =>
  obtain ⟨j,ZO,hj,Q8,Qk,QL⟩:=hcut;have Qn:(j:Int)<=400000:=by omega
  generalize wc=W2 at *;obtain ⟨⟨c0,c1,c2⟩,f0,f1,f2⟩:=Qk.out.cells;have Qu:=yb (QL.out.obj Ze.out (fun e=>Qd.out e.symm));have ZS:=yb (zak.trans (S:=fun b=>b=p) (zaz Q6.out) QL.out (fun x h=>.inl h));obtain ⟨⟨z0,z1,z2⟩,y0,y1,y2⟩:=zcL Qu.out
  by_cases hlen:bs.length<j+19
  ·have Qb:=yb (HV.out.trans (entV_cut (yq:=yq) (HJ.out.symm.trans Q8.out) hlen))
   have YW:decide ((bs.length:Int)-j<19)=true:=yd (by omega);have YX:=yb (fun q=>xopen_any (Qk.out.mono (zag (Below.refl _ _) q)));clear hlen;go_wp2
   go_quiet (fail)
   go_wp2_with (go_at_call 137;refine (YX.out _).mono ?_;rintro e w' ⟨rfl,rfl⟩)
   refine yi (zaa rfl _ _ r 45 _ (0,0) _ rfl (by exact set3a Qu.out _ _ _) Tryz.underlying45 rfl (by exact zdB) _ rfl) rfl ?_;rw [Qb.out];exact ⟨rfl,⟨_,(Qk.out.mono (zag (Below.refl _ _) _)).set3r Qd.out Qt.out _ _ _,fun h=>absurd h (zdi yq)⟩,zeX (ZS.out.drewN _) Q7.out _ _ _⟩
  ·have hjl:j<bs.length:=by omega
   have YW:decide ((bs.length:Int)-j<19)=false:=ye (by omega);have Zs:=Qk.out.bytes;obtain ⟨b2,off2,ha,-,Qa⟩:=Zs.at 0 j hjl;have YY:=yb (show ¬b2=p from fun e=>by have h1:b2<w0.heap.size:=Qk.out.row.lt (by omega) ⟨b2,off2,none⟩ ha;have h2:=Qk.out.new;omega);rw [ha] at c0 Zs;have ZT:j+19<=bs.length:=by omega
   have Yr:=yb (zhR Zs j 19 ZT);have Ys:=yb (show ((bs.drop j).take 19).length=19 by rw [List.length_take,ym];omega);have Zt:=yb (fun h=>HV.out.trans (entV_bad (yq:=yq) (HJ.out.symm.trans Q8.out) hlen h));have Zu:=yb (fun x h=>HV.out.trans (entV_ok (yq:=yq) (x:=x) (HJ.out.symm.trans Q8.out) hlen h));generalize (bs.drop j).take 19=s at *;clear Qa ha hlen Q8 HJ HV Zs;go_wp2
   go_quiet (fail)
   generalize nq=nqa;go_wp2
   go_quiet (fail)
   generalize nq=nqb;go_wp2;have e19:j+18+1-j=19:=by omega
   rw [e19];have Qg:=yb (Qk.out.mono (zag (zag (Below.refl _ _) nqa) nqb));have Q9:=yb ((ZS.out.drewN nqa).drewN nqb);have QV:=yb (zab (zag (zag (Below.refl W2.heap.size W2) nqa) nqb) Qu.out);have Zv:=yb (Yr.out.mono (zag (zag (Below.refl W2.heap.size W2) nqa) nqb));generalize (W2.drewN nqa).drewN nqb=W3 at *;clear Qk QL ZS Qu Yr c0 c1 c2 f0 f1 f2 z0 z1 z2 y0 y1 y2;have Xs:19<=cap-j:=by omega
   have Xt:((cap-j:Nat):Int)<=9223372036854775807:=by omega
   generalize cap-j=C at *;have ZU:=yb (zhR Zv.out 0 10 (by omega));have Yt:=yb (zhR Zv.out 11 5 (by omega));simp only [List.drop_zero,Nat.add_zero,Nat.sub_zero] at ZU;have ZV:=yb (fun q:zaI W3=>xdig_any (ZU.out.mono q.h) (by rw [List.length_take];have:=Ys.out;omega) 2147483647);have ZW:=yb (fun q:zaI W3=>xdig_any (Yt.out.mono q.h) (by rw [List.length_take,ym];have:=Ys.out;omega) 65535);obtain ⟨A,hA⟩:∃A,A=dig1 (s.take 10) 2147483647:=⟨_,rfl⟩;obtain ⟨G,hG⟩:∃G,G=dig1 ((s.drop 11).take 5) 65535:=⟨_,rfl⟩;rw [<-hA] at ZV;rw [<-hG] at ZW;have HA:=yb hA;have Zw:=yb hG;clear hA hG;refine zaX (by kernel_rfl) (by kernel_rfl) ?_
   repeat (go_big_quiet_step ((first
    |(go_at_call_of 138 (Value.slice (some ⟨b2,off2+j,none⟩) 10 C);with_reducible exact Calls.below_of (ZV.out _))
    |(go_at_call 138;with_reducible exact Calls.below_of (ZW.out _)))))
   refine wpQuiet_nil ?_;rintro W4 ⟨⟨w4,Qe⟩,hw⟩;replace hw:W4=w4:=hw;subst hw;have Qf:=yb (Qg.out.mono Qe);have QM:=yb (zak.trans Q9.out (zaz (S:=fun _=>False) Qe) (fun x h=>(by cases h)));have Qv:=yb (zab Qe QV.out);obtain ⟨_,_,ha,-,Qa⟩:=(Zv.out.mono Qe).at 0 0 (by decide)
   cases ha
   have QA:=Qa 10 (by decide);have QB:=Qa 16 (by decide);have QW:=Qa 17 (by decide);have QC:=Qa 18 (by decide);unfold u8C at QA QB QW QC;clear Qa Qe Qg Q9 QV Zv ZU Yt ZV ZW;obtain ⟨⟨c0,c1,c2⟩,f0,f1,f2⟩:=Qf.out.cells;obtain ⟨⟨z0,z1,z2⟩,y0,y1,y2⟩:=zcL Qv.out;obtain ⟨x10,QX⟩:∃x,(s.getD 10 0).toNat=x:=⟨_,rfl⟩;obtain ⟨x16,QY⟩:∃x,(s.getD 16 0).toNat=x:=⟨_,rfl⟩;obtain ⟨x17,QZ⟩:∃x,(s.getD 17 0).toNat=x:=⟨_,rfl⟩;obtain ⟨x18,Q0⟩:∃x,(s.getD 18 0).toNat=x:=⟨_,rfl⟩;rw [QX] at QA;rw [QY] at QB;rw [QZ] at QW;rw [Q0] at QC;have Zg:=yb QX;have Zh:=yb QY;have Qp:=yb QZ;have Qh:=yb Q0;clear QX QY QZ Q0;obtain ⟨bd,Yu⟩:∃bd,bd=(entS s).isNone:=⟨_,rfl⟩;have QD:=yb Yu;clear Yu
   go_upto_region 8 with fail
   go_cut [130] from 89 (fun v wx=>v=.bool bd/\wx=W4)
   case first =>
    clear c0 c1 c2 f0 f1 f2 z0 z1 z2 y0 y1 y2 Zt Zu
    by_cases hA0:A<0
    case pos =>
     obtain rfl:bd=true:=by rw [QD.out,zeS (.inl (by rw [<-HA.out];exact hA0))];rfl
     go_wp2_with fail
     go_meet
     exact ⟨rfl,rfl⟩
    by_cases hG0:G<0
    case pos =>
     obtain rfl:bd=true:=by rw [QD.out,zeS (.inr (.inl (by rw [<-Zw.out];exact hG0)))];rfl
     go_wp2_with fail
     go_meet
     exact ⟨rfl,rfl⟩
    by_cases h10:x10=32
    case neg =>
     obtain rfl:bd=true:=by rw [QD.out,zeS (.inr (.inr (.inl (fun e=>h10 (by rw [<-Zg.out,e];rfl)))))];rfl
     have e32:((x10:Int)==32)=false:=by rw [yf];omega
     have f32:((x10:Int) != 32)=true:=by simp only [bne,e32,yj]
     go_wp2_with fail
     go_meet
     exact ⟨rfl,rfl⟩
    subst h10
    by_cases h16:x16=32
    case neg =>
     obtain rfl:bd=true:=by rw [QD.out,zeS (.inr (.inr (.inr (.inl (fun e=>h16 (by rw [<-Zh.out,e];rfl))))))];rfl
     have e32:((x16:Int)==32)=false:=by rw [yf];omega
     have f32:((x16:Int) != 32)=true:=by simp only [bne,e32,yj]
     go_wp2_with fail
     go_meet
     exact ⟨rfl,rfl⟩
    subst h16
    by_cases h17:x17=110\/x17=102
    case neg =>
     obtain rfl:bd=true:=by rw [QD.out,zeS (.inr (.inr (.inr (.inr (.inl ⟨fun e=>h17 (.inl (by rw [<-Qp.out,e];rfl)),fun e=>h17 (.inr (by rw [<-Qp.out,e];rfl))⟩)))))];rfl
     have e110:((x17:Int)==110)=false:=by rw [yf];omega
     have f110:((x17:Int) != 110)=true:=by simp only [bne,e110,yj]
     have e102:((x17:Int)==102)=false:=by rw [yf];omega
     have f102:((x17:Int) != 102)=true:=by simp only [bne,e102,yj]
     go_wp2_with fail
     go_meet
     exact ⟨rfl,rfl⟩
    by_cases h18:x18=32\/x18=10\/x18=13
    case neg =>
     obtain rfl:bd=true:=by rw [QD.out,zeS (.inr (.inr (.inr (.inr (.inr (⟨fun e=>h18 (.inl (by rw [<-Qh.out,e];rfl)),fun e=>h18 (.inr (.inl (by rw [<-Qh.out,e];rfl))),fun e=>h18 (.inr (.inr (by rw [<-Qh.out,e];rfl)))⟩))))))];rfl
     have e32:((x18:Int)==32)=false:=by rw [yf];omega
     have f32:((x18:Int) != 32)=true:=by simp only [bne,e32,yj]
     have e10:((x18:Int)==10)=false:=by rw [yf];omega
     have f10:((x18:Int) != 10)=true:=by simp only [bne,e10,yj]
     have e13:((x18:Int)==13)=false:=by rw [yf];omega
     have f13:((x18:Int) != 13)=true:=by simp only [bne,e13,yj]
     rcases h17 with rfl|rfl
     all_goals (go_wp2_with fail;go_meet;exact ⟨rfl,rfl⟩)
    obtain rfl:bd=false:=by rw [QD.out,ent_good (by rw [<-HA.out];omega) (by rw [<-Zw.out];omega) (zdZ Zg.out rfl) (zdZ Zh.out rfl) (h17.imp (fun e=>zdZ (Qp.out.trans e) rfl) (fun e=>zdZ (Qp.out.trans e) rfl)) (h18.imp (fun e=>zdZ (Qh.out.trans e) rfl) (fun h=>h.imp (fun e=>zdZ (Qh.out.trans e) rfl) (fun e=>zdZ (Qh.out.trans e) rfl)))];rfl
    rcases h17 with rfl|rfl<;>rcases h18 with rfl|rfl|rfl
    all_goals (go_wp2_with fail;go_meet;exact ⟨rfl,rfl⟩)
   case rest =>
    obtain ⟨rfl,rfl⟩:=hcut
    cases bd
    case true =>
     have ZX:=yb (Zt.out (zgZ QD.out));clear Zt Zu QA QB QW QC;go_wp2;refine yi (zaa rfl _ _ r 45 _ (0,0) _ rfl (by exact set3a Qv.out _ _ _) Tryz.underlying45 rfl (by exact zdB) _ rfl) rfl ?_;rw [ZX.out];exact ⟨rfl,⟨_,Qf.out.set3r Qd.out Qt.out _ _ _,fun h=>(by cases h)⟩,zeX QM.out Q7.out _ _ _⟩
    have ZY:=yb (Zu.out _ (ent_some QD.out));rw [<-HA.out,<-Zw.out] at ZY;have HU:=yb (show (s.getD 17 0==110)=((x17:Int)==110) by rw [<-Qp.out];exact u8_beq _ 110 110 rfl);rw [HU.out] at ZY;have Xu:=YY.out;have Xv:¬r=p:=Ne.symm Qd.out;clear Zt Zu HU HA Zw QA QB QC;go_wp2;refine yi (zaa rfl _ _ r 45 _ (0,0) _ rfl (by exact set3a ((heap_setCell_other _ _ _ _ (show r≠(⟨p,1,none⟩:Addr).block from Ne.symm Qd.out)).trans Qv.out) _ _ _) Tryz.underlying45 rfl (by exact zdB) _ rfl) rfl ?_;rw [ZY.out];exact ⟨rfl,⟨_,(Qf.out.setAt _).set3r Qd.out Qt.out _ _ _,fun _=>rfl⟩,zeX (QM.out.setCell (a:=⟨p,1,none⟩) (.inl rfl) _) Q7.out _ _ _⟩
end
theorem own_new {P:Program} {w:World} {t ty e:TypeId} {z:Value} {size bytes:Nat} (T:zfo P t e z size bytes) {base:Nat} {v:Value} {n:Nat} {xs:List Value} (hown:w.ownsRow base e size v n xs)
  {a:Addr} {c:Nat} {news:List Value} (hl:news.length=1*size) (hnews:∀j u,news[j]?=some u->w.cell? (a.add j)=some u) (h1:∀u∈news,u.oneCell'=true) (h63:n+1<=maxLen) (hbytes:(n+1)*bytes<=140737488355328)
  {v':Value} {w':World} (hr:(Builtin.append_ #[t,t] ty #[v,.slice (some a) 1 c]).run P w=.ok v' w'):∀b,v'.ownBlock=some b->v.ownBlock=some b\/w.heap.size<=b:=by
 obtain ⟨i,hi,hz,hs,hb⟩:=info_parts T.info;subst hb;subst hs;have ZZ:n+1<=9223372036854775807:=by simp only [maxLen] at h63;omega
 intro b hb;rcases hown.2 with ⟨rfl,rfl⟩|⟨g,cap,cur,rfl,Xw,hg,Xx,Zq,YZ,Yv⟩
 ·rw [run_append_nil (P:=P) w t ty e i z T.und hi hz a 1 c news hl hnews (by omega) (by omega) (by omega)] at hr
  cases hr
  right
  simp [Value.ownBlock] at hb;omega
 ·by_cases hroom:n+1<=cap
  ·have Z0:n*i.size+news.length<=cur.size:=by rw [hl,YZ,<-Nat.add_mul];exact Nat.mul_le_mul_right _ hroom
   rw [run_append_room (P:=P) w t ty e i T.und hi g n cap cur hg a 1 c news hl hnews h1 hroom Z0] at hr
   cases hr
   left
   simpa [Value.ownBlock] using hb
  ·have Zi:∀j u,xs[j]?=some u->w.cell? ((⟨g,0,none⟩:Addr).add j)=some u:=hown.cells (g:=g) rfl
   rw [run_append_grow (P:=P) w t ty e i z T.und hi hz ⟨g,0,none⟩ n cap xs hown.1 Zi a 1 c news hl hnews (by omega) (by omega) (growslice_fits (by omega) hbytes)] at hr
   cases hr
   right
   simp [Value.ownBlock] at hb;omega
theorem zdI {P:Program} {w:World} {ops:Array Oper} {rest:List Oper} {o:Oper} {a:Act} {Q:Exit->Act->World->Prop} {t e:TypeId} {z:Value} {size bytes:Nat} (T:zfo P t e z size bytes)
  (hgd:o.guard=none) (s x:Operand) (ho:o.op=.call { callee:=.builtin .append,args:=#[s,x],argTypes:=#[t,t] })
  (base:Nat) (v:Value) (n:Nat) (xs:List Value) (hs:a.eval s=v) (hown:w.ownsRow base e size v n xs)
  (ad:Addr) (c:Nat) (news:List Value) (hx:a.eval x=.slice (some ad) 1 c) (hr:Row w size (some ad) 1 c news) (h1:∀u∈news,u.oneCell'=true)
  (h63:n+1<=maxLen) (hbytes:(n+1)*bytes<=140737488355328) (hbase:base<=w.heap.size)
  (h:∀v' w',w'.ownsRow base e size v' (n+1) (xs++news)->w.grownBy w' v.ownBlock->(∀b,v'.ownBlock=some b->v.ownBlock=some b\/w.heap.size<=b)->wpList P ops Q rest (a.put o.dst v') w'):wpList P ops Q (o::rest) a w:=by
 obtain ⟨i,hi,hz,Y0,hb⟩:=info_parts T.info;have hl:news.length=1*size:=hr.1
 have hnews:∀j u,news[j]?=some u->w.cell? (ad.add j)=some u:=fun j u hj=>by
  obtain ⟨b,off,Y1,_,hc⟩:=hr.2.2.2.2 (by omega);obtain rfl:=Option.some.inj Y1;rw [Addr.add_lit];exact hc j u hj
 obtain ⟨v',w',Zj,h2,h3,h4⟩:=run_append_own (P:=P) w base t o.type e i z size bytes T.und hi hz Y0 hb T.cells T.pos v n xs hown ad 1 c news hl hnews h1 h63 hbytes hbase;have h5:=own_new T hown hl hnews h1 h63 hbytes Zj;refine wpList_plain hgd fun K hK=>?_;unfold Oper.wp execOp;simp only [ho,resolve,invoke,builtin,Sem.run_bind,Sem.run_pure,Result.andThen_ok,List.map_toArray,List.map_cons,List.map_nil,hs,hx,Zj];exact hK _ _ (h v' w' h2 h3 h5)
theorem zfC (w:World) (cs:Array Value) (e:TypeId) (n:Nat) (hn:cs.size=n) {b:Nat} (hb:w.heap.size=b):Row (w.alloc (.cells cs e)) n (some ⟨b,0,none⟩) 1 1 cs.toList:=by
 subst hb
 exact ⟨by simp [hn],yp _,by simp [maxLen],fun h=>(by cases h),fun _=>⟨w.heap.size,0,rfl,by rw [zaq];omega,fun j u hj=>by
  rw [Nat.zero_add,cell_of_row _ _ _ _ _ _ (zac _ rfl)];simpa using hj⟩⟩
def grp1 (bs:List UInt8) (yq:Bool) (x:Tk) (k:Int):Grp×Int×Int :=
 if zaN x=false then (⟨0,[]⟩,0,20)
 else if (nxtV bs yq k).2.2.2≠0 then (⟨0,[]⟩,0,(nxtV bs yq k).2.2.2)
 else if zaN (nxtV bs yq k).1=false\/zdn x.vn (nxtV bs yq k).1.vn=false then (⟨0,[]⟩,0,20)
 else if (zcq bs yq (nxtV bs yq k).1.vn.toNat (nxtV bs yq k).2.2.1.toNat []).2.2≠0 then (⟨0,[]⟩,0,(zcq bs yq (nxtV bs yq k).1.vn.toNat (nxtV bs yq k).2.2.1.toNat []).2.2)
 else (⟨x.vn,(zcq bs yq (nxtV bs yq k).1.vn.toNat (nxtV bs yq k).2.2.1.toNat []).1⟩,(zcq bs yq (nxtV bs yq k).1.vn.toNat (nxtV bs yq k).2.2.1.toNat []).2.1,0)
theorem set2a {w:World} {b:Nat} {x0 x1:Value} {t:TypeId} (h:w.heap[b]?=some (.cells #[x0,x1] t (0,0))) (y0 y1:Value) :
  ((w.setCell ⟨b,0,none⟩ y0).setCell ⟨b,1,none⟩ y1).heap[b]?=some (.cells #[y0,y1] t (0,0)):=by
 rw [heap_setCell_same _ _ 1 _ _ _ (heap_setCell_same w _ 0 _ _ _ h)];rfl
theorem zbL {w:World} {b:Nat} {x0 x1:Value} {t:TypeId} (h:w.heap[b]?=some (.cells #[x0,x1] t (0,0))) :
  (w.cell? ⟨b,0,none⟩=some x0/\w.cell? ⟨b,1,none⟩=some x1)/\(w.frozen? ⟨b,0,none⟩=false/\w.frozen? ⟨b,1,none⟩=false):=by
 refine ⟨⟨?_,?_⟩,frozen_of_row w b 0 _ _ h,frozen_of_row w b 1 _ _ h⟩
 ·rw [cell_of_row w b 0 _ _ _ h];rfl
 ·rw [cell_of_row w b 1 _ _ _ h];rfl
theorem zeI:(Tryz.prog.info? 58).map (·.size)=some 2:=by kernel_rfl
theorem EEnt:zfo Tryz.prog 56 45 (.agg #[.int .i64 0,.int .i64 0,.bool false]) 3 24:=⟨Tryz.underlying56,by kernel_rfl,rfl,by omega⟩
theorem entV_le {bs:List UInt8} {yq:Bool} {k:Nat} (_hk:k<=bs.length) (_h:(entV bs yq k).2.2=0):(entV bs yq k).2.1<=bs.length:=by
 unfold entV
 split
 ·exact Nat.zero_le _
 ·split
  ·exact Nat.zero_le _
  ·show zc6 bs k+19<=_;omega
section
variable {w0 w w' : World} {p : Nat} {a : Option Addr} {cap : Nat} {bs : List UInt8} {yq : Bool} {at_ : Int}
theorem IsRd.set2r (h:IsRd w0 w p a cap bs yq at_) {r:Nat} (hr:p≠r) (h0:w0.heap.size<=r) (y0 y1:Value):IsRd w0 ((w.setCell ⟨r,0,none⟩ y0).setCell ⟨r,1,none⟩ y1) p a cap bs yq at_ :=
 ⟨by rw [heap_setCell_other _ _ _ _ hr,heap_setCell_other _ _ _ _ hr];exact h.blk,h.new,h.row,(h.bel.setCell h0 _).setCell h0 _,h.small⟩
theorem zgL {S:Nat->Prop} {W:World} (h:zak S w W) {r:Nat} (hr:w.heap.size<=r) (y0 y1:Value):zak S w ((W.setCell ⟨r,0,none⟩ y0).setCell ⟨r,1,none⟩ y1) :=
 (h.setCell (.inr hr) _).setCell (.inr hr) _
theorem IsRd.grown (h:IsRd w0 w p a cap bs yq at_) {row:Option Nat} (hg:w.grownBy w' row) (hr:∀b,row=some b->b≠p/\w0.heap.size<=b):IsRd w0 w' p a cap bs yq at_ :=
 ⟨(hg.block p h.lt (fun e=>(hr p e.symm).1 rfl)).trans h.blk,h.new,h.row,h.bel.grown hg h.bel.size (fun b hb=>(hr b hb).2),h.small⟩
theorem IsRd.set (h:IsRd w0 w p a cap bs yq at_) {r:Nat} (hr:p≠r) (h0:w0.heap.size<=r) (i:Nat) (y:Value):IsRd w0 (w.setCell ⟨r,i,none⟩ y) p a cap bs yq at_ :=
 ⟨by rw [heap_setCell_other _ _ _ _ hr];exact h.blk,h.new,h.row,h.bel.setCell h0 _,h.small⟩
structure GrM (w W:World) (r g:Nat) (n:Int) (es:List Ent) (sv:Value):Prop where
 blk:W.heap[g]?=some (.cells #[.int .i64 n,sv] 58 (0,0))
 res:W.heap[r]?=some (.cells #[.int .i64 0,.slice none 0 0] 58 (0,0))
 own:W.ownsRow w.heap.size 45 3 sv es.length (zcN es)
 kps:zak (fun b=>b=p) w W
 gne:w.heap.size<=g/\r≠g/\g≠p
theorem GrM.ne {W:World} {r g:Nat} {n:Int} {es:List Ent} {sv:Value} (h:GrM (p:=p) w W r g n es sv) {b:Nat} (hb:sv.ownBlock=some b):b≠g/\b≠r:=by
 obtain ⟨cs,hc⟩:=zaY h.own hb;exact ⟨zbj hc h.blk (by decide),zbj hc h.res (by decide)⟩
theorem GrM.on {W W':World} {r g:Nat} {n:Int} {es:List Ent} {sv:Value} (h:GrM (p:=p) w W r g n es sv) (hr:r≠p) (hp:p<w.heap.size) (hk:zak (fun b=>b=p) W W'):GrM (p:=p) w W' r g n es sv :=
 ⟨hk.obj h.blk h.gne.2.2,hk.obj h.res hr,zbd h.own fun b hb=>hk.block b (h.own.lt b hb).2 (by have:=(h.own.lt b hb).1;omega),h.kps.trans hk (fun x hx=>.inl hx),h.gne⟩
theorem GrM.atG {W W8:World} {o:Obj} {r g:Nat} {n:Int} {es:List Ent} {sv:Value} (h:GrM (p:=p) w W r g n es sv) (hg8:(W.alloc o).grownBy W8 sv.ownBlock):W8.heap[g]?=some (.cells #[.int .i64 n,sv] 58 (0,0)) :=
 (hg8.block g (by rw [zaq];have:=zam h.blk;omega) (fun e=>(h.ne e.symm).1 rfl)).trans (zal _ h.blk)
theorem GrM.app {W W8:World} {o:Obj} {r g:Nat} {n:Int} {es:List Ent} {sv:Value} (h:GrM (p:=p) w W r g n es sv) (hg8:(W.alloc o).grownBy W8 sv.ownBlock) {x:Ent} {v':Value} (hO:W8.ownsRow w.heap.size 45 3 v' (es.length+1) (zcN es++entC x)) :
  GrM (p:=p) w (W8.setCell ⟨g,1,none⟩ v') r g n (es++[x]) v':=by
 have hG:=h.atG hg8;refine ⟨by rw [heap_setCell_same _ g 1 _ _ _ hG];rfl,?_,?_,((h.kps.alloc o).grown hg8 (fun k hk=>.inr (h.own.lt k hk).1)).setCell (.inr h.gne.1) _,h.gne⟩
 ·rw [heap_setCell_other _ _ _ _ h.gne.2.1]
  exact (hg8.block r (by rw [zaq];have:=zam h.res;omega) (fun e=>(h.ne e.symm).2 rfl)).trans (zal _ h.res)
 ·have h2:zcN (es++[x])=zcN es++entC x:=by rw [zfd];simp [zcN]
  rw [h2,List.length_append];refine zbd hO fun b hb=>?_;obtain ⟨cs,hc⟩:=zaY hO hb;exact heap_setCell_other _ _ _ _ (zbj hc hG (by decide))
theorem isE_own {W:World} {B:Nat} {es:List Ent} {sv:Value} (h:W.ownsRow B 45 3 sv es.length (zcN es)):IsE W (fun b=>B<=b) es sv:=by
 obtain ⟨a,cap,e,-,-⟩:=zaB h;subst e;exact ⟨a,cap,rfl,(Row.of_own h).2,fun h0 x hx=>(h.lt x.block (by rw [hx];rfl)).1⟩
theorem GrM.fin {W:World} {r g:Nat} {n:Int} {es:List Ent} {sv:Value} (h:GrM (p:=p) w W r g n es sv) (y0 y1:Value):IsE ((W.setCell ⟨r,0,none⟩ y0).setCell ⟨r,1,none⟩ y1) (fun b=>w.heap.size<=b) es sv :=
 isE_own (zbd h.own fun b hb=>by rw [heap_setCell_other _ _ _ _ (show b≠r from (h.ne hb).2),heap_setCell_other _ _ _ _ (show b≠r from (h.ne hb).2)])
def GrpEnd (w0 w:World) (p:Nat) (a:Option Addr) (cap:Nat) (bs:List UInt8) (yq:Bool) (V:Grp×Int×Int) (e:Ending) (w':World):Prop :=
 ∃v,e=.returned (.tuple #[.agg #[.int .i64 V.1.first,v],.int .i64 V.2.2])/\IsE w' (fun b=>w.heap.size<=b) V.1.es v/\(∃at2:Int,IsRd w0 w' p a cap bs yq at2/\(V.2.2=0->at2=V.2.1))/\zak (fun b=>b=p) w w'
theorem grp_no {V:Grp×Int×Int} {W:World} {r:Nat} {e:Int} (hV:V=(⟨0,[]⟩,0,e)) (he:e≠0) (hI:∃at2:Int,IsRd w0 W p a cap bs yq at2) (hk:zak (fun b=>b=p) w W) (hpr:p≠r) (h0:w0.heap.size<=r) (hr:w.heap.size<=r) (y0 y1:Value) :
  GrpEnd w0 w p a cap bs yq V (.returned (.tuple #[.agg #[.int .i64 0,.slice none 0 0],.int .i64 e])) ((W.setCell ⟨r,0,none⟩ y0).setCell ⟨r,1,none⟩ y1):=by
 subst hV;obtain ⟨at2,hI⟩:=hI;exact ⟨_,rfl,IsE.nil _ _,⟨at2,hI.set2r hpr h0 _ _,fun h=>absurd h he⟩,zgL hk hr _ _⟩
theorem xgroup_any {k:Int} (h:IsRd w0 w p a cap bs yq k) (h0:0<=k) (h1:k<=bs.length) (x:Tk) (f t:Int):Calls Tryz.prog 62 #[.pointer (some ⟨p,0,none⟩),.agg (tokN x f t)] w (GrpEnd w0 w p a cap bs yq (grp1 bs yq x k)):=by
 have QN:=yb (fun W=>zgz x f t W);have QE:=zbr (bs:=bs) (k:=k) yq h0 h1;rw [<-nxt_3] at QE;have Yo:=h.small;have HN:=yb (fun (W:World) (hI:IsRd w0 W p a cap bs yq k)=>zgh hI);obtain ⟨V,hV⟩:∃V,V=grp1 bs yq x k:=⟨_,rfl⟩;rw [<-hV];unfold grp1 at hV;generalize nxtV bs yq k=U at *;obtain ⟨y,f2,t2,E⟩:=U;simp only at hV QE HN;have Z1:=yb (fun W=>zgz y f2 t2 W);have HV:=yb hV;have HR:=yb h;clear hV h;unfold tokN at QN Z1 HN |-;generalize zaN x=wx at *;generalize zaN y=wy at *;generalize x.kind=a0 at *;generalize x.vk=a1 at *;generalize x.vn=a2 at *;generalize mkB x.vs=s1 at *;generalize mkB x.s=s2 at *;generalize y.kind=b0 at *;generalize y.vk=b1 at *;generalize y.vn=b2 at *;generalize mkB y.vs=q1 at *;generalize mkB y.s=q2 at *;obtain ⟨B,hB⟩:∃B,B=w.heap.size:=⟨_,rfl⟩;have Q6:=yb (za6 w (.cells #[.int .i64 a0,.int .i64 f,.int .i64 t,.int .i64 a1,.int .i64 a2,.string s1,.slice none 0 0,.string s2] 112) (.cells #[.int .i64 0,.slice none 0 0] 58));have Z2:=yb (zal (w:=w.alloc (.cells #[.int .i64 a0,.int .i64 f,.int .i64 t,.int .i64 a1,.int .i64 a2,.string s1,.slice none 0 0,.string s2] 112)) (.cells #[.int .i64 0,.slice none 0 0] 58) (zac (w:=w) (b:=B) (.cells #[.int .i64 a0,.int .i64 f,.int .i64 t,.int .i64 a1,.int .i64 a2,.string s1,.slice none 0 0,.string s2] 112) hB));have Ze:=yb (zac (w:=w.alloc (.cells #[.int .i64 a0,.int .i64 f,.int .i64 t,.int .i64 a1,.int .i64 a2,.string s1,.slice none 0 0,.string s2] 112)) (b:=B+1) (.cells #[.int .i64 0,.slice none 0 0] 58) (by rw [zaq,hB]));have Yw:=yb (HR.out.mono Q6.out);have Qd:=yb (show p≠B+1 by have:=HR.out.lt;omega);have Yx:=yb (show p≠B by have:=HR.out.lt;omega);have Q1:=yb (show w.heap.size<=B+1 by omega);have Qt:=yb (Nat.le_trans HR.out.bel.size Q1.out);have Yy:=yb (zaz (S:=fun b=>b=p) Q6.out);go_enter Tryz.func62,Tryz.ntmps62
 go_upto_region 1 with fail
 try rw [<-hB]
 generalize World.alloc _ _=W1 at *;clear hB;generalize B+1=r at *;obtain ⟨⟨x0,x1,x2,x3,x4,x5,x6,x7⟩,-⟩:=zah Z2.out;obtain ⟨⟨z0,z1⟩,y0,y1⟩:=zbL Ze.out;go_wp2_with fail
 refine (QN.out _).mono ?_;rintro e w2 ⟨rfl,Zk⟩;have Zx:=yb (zab Zk Z2.out);have Qu:=yb (zab Zk Ze.out);have Qk:=yb (Yw.out.mono Zk);have QL:=yb (zak.trans Yy.out (zaz (S:=fun _=>False) Zk) (fun x h=>(by cases h)));clear Z2 Ze Yw Yy Q6 QN Zk x0 x1 x2 x3 x4 x5 x6 x7 z0 z1 y0 y1;obtain ⟨⟨x0,x1,x2,x3,x4,x5,x6,x7⟩,-⟩:=zah Zx.out;obtain ⟨⟨z0,z1⟩,y0,y1⟩:=zbL Qu.out
 cases wx
 case false =>
  have Qi:=yb (HV.out.trans (yg rfl));go_wp2;refine yi (zaa rfl _ _ r 58 _ (0,0) _ rfl (by exact set2a Qu.out _ _) Tryz.underlying58 rfl (by exact zeI) _ rfl) rfl ?_;exact grp_no Qi.out (by decide) ⟨_,Qk.out⟩ QL.out Qd.out Qt.out Q1.out _ _
 have Qi:=yb (HV.out.trans (yh (by decide)));clear HV;go_wp2_with fail
 refine (HN.out _ Qk.out).mono ?_;rintro e w3 ⟨rfl,Q2,hk3⟩;have Qw:=yb (zac (w:=w3) (b:=w3.heap.size) (.cells #[.int .i64 b0,.int .i64 f2,.int .i64 t2,.int .i64 b1,.int .i64 b2,.string q1,.slice none 0 0,.string q2] 112) rfl);have Z3:=yb (zal (.cells #[.int .i64 b0,.int .i64 f2,.int .i64 t2,.int .i64 b1,.int .i64 b2,.string q1,.slice none 0 0,.string q2] 112) (hk3.obj Zx.out (Ne.symm Yx.out)));have QV:=yb (zal (.cells #[.int .i64 b0,.int .i64 f2,.int .i64 t2,.int .i64 b1,.int .i64 b2,.string q1,.slice none 0 0,.string q2] 112) (hk3.obj Qu.out (Ne.symm Qd.out)));have Qg:=yb (Q2.mono (zai w3 (.cells #[.int .i64 b0,.int .i64 f2,.int .i64 t2,.int .i64 b1,.int .i64 b2,.string q1,.slice none 0 0,.string q2] 112)));have Q9:=yb ((zak.trans QL.out hk3 (fun x h=>.inl h)).alloc (.cells #[.int .i64 b0,.int .i64 f2,.int .i64 t2,.int .i64 b1,.int .i64 b2,.string q1,.slice none 0 0,.string q2] 112));have Y2:=yb (Nat.le_trans QL.out.size hk3.size);have Z4:=yb (show p≠w3.heap.size by have:=Q2.lt;omega);have Y3:=yb (show r<w3.heap.size/\B<w3.heap.size from ⟨zam (hk3.obj Qu.out (Ne.symm Qd.out)),zam (hk3.obj Zx.out (Ne.symm Yx.out))⟩);clear Zx Qu Qk QL Q2 hk3 HN x0 x1 x2 x3 x4 x5 x6 x7 z0 z1 y0 y1
 go_upto_region 4 with fail
 obtain ⟨T,hT⟩:∃T,T=w3.heap.size:=⟨_,rfl⟩;rw [<-hT] at Qw Y2 Z4 Y3 |-;clear hT;generalize World.alloc _ _=W3 at *;obtain ⟨⟨x0,x1,x2,x3,x4,x5,x6,x7⟩,-⟩:=zah Z3.out;obtain ⟨⟨v0,v1,v2,v3,v4,v5,v6,v7⟩,-⟩:=zah Qw.out;obtain ⟨⟨z0,z1⟩,y0,y1⟩:=zbL QV.out
 by_cases hE:E=0
 case neg =>
  have Qb:=yb (Qi.out.trans (yg hE));have e0:(E==0)=false:=by rw [yf];exact hE
  have e1:(E != 0)=true:=by simp only [bne,e0,yj]
  have HE:=yb hE;clear hE;go_wp2;refine yi (zaa rfl _ _ r 58 _ (0,0) _ rfl (by exact set2a QV.out _ _) Tryz.underlying58 rfl (by exact zeI) _ rfl) rfl ?_;exact grp_no Qb.out HE.out ⟨_,Qg.out⟩ Q9.out Qd.out Qt.out Q1.out _ _
 subst hE;have Qb:=yb (Qi.out.trans (yh (by decide)));clear Qi;rw [yg rfl] at Qg;obtain ⟨N,hN⟩:∃N,N=b2.toNat:=⟨_,rfl⟩;have Z5:=yb (fun W=>fits_any a2 b2 W);obtain ⟨fv,Z6⟩:∃fv,fv=zdn a2 b2:=⟨_,rfl⟩;rw [<-Z6] at Z5 Qb;have Yz:=yb Z6;clear Z6;rw [<-hN] at Qb;obtain ⟨Q,hQ⟩:∃Q,Q=zcq bs yq N t2.toNat []:=⟨_,rfl⟩;rw [<-hQ] at Qb;have HQ:=yb hQ;have YA:=yb hN;clear hQ hN;go_wp2_with fail
 refine (Z1.out _).mono ?_;rintro e w4 ⟨rfl,Qe⟩;have YB:=yb (zab Qe Z3.out);have QF:=yb (zab Qe Qw.out);have Qv:=yb (zab Qe QV.out);have Qf:=yb (Qg.out.mono Qe);have QM:=yb (zak.trans Q9.out (zaz (S:=fun _=>False) Qe) (fun x h=>(by cases h)));clear Z3 Qw QV Qg Q9 Qe Z1 x0 x1 x2 x3 x4 x5 x6 x7 v0 v1 v2 v3 v4 v5 v6 v7 z0 z1 y0 y1;obtain ⟨⟨x0,x1,x2,x3,x4,x5,x6,x7⟩,-⟩:=zah YB.out;obtain ⟨⟨v0,v1,v2,v3,v4,v5,v6,v7⟩,-⟩:=zah QF.out;obtain ⟨⟨z0,z1⟩,y0,y1⟩:=zbL Qv.out
 cases wy
 case false =>
  have Za:=yb (Qb.out.trans (yg (.inl rfl)));go_wp2;refine yi (zaa rfl _ _ r 58 _ (0,0) _ rfl (by exact set2a Qv.out _ _) Tryz.underlying58 rfl (by exact zeI) _ rfl) rfl ?_;exact grp_no Za.out (by decide) ⟨_,Qf.out⟩ QM.out Qd.out Qt.out Q1.out _ _
 cases fv
 case false =>
  have Za:=yb (Qb.out.trans (yg (.inr rfl)));go_wp2_with (go_at_call 41;refine (Z5.out _).mono ?_;rintro e w5 ⟨rfl,rfl⟩)
  refine yi (zaa rfl _ _ r 58 _ (0,0) _ rfl (by exact set2a Qv.out _ _) Tryz.underlying58 rfl (by exact zeI) _ rfl) rfl ?_;exact grp_no Za.out (by decide) ⟨_,Qf.out⟩ QM.out Qd.out Qt.out Q1.out _ _
 have Za:=yb (Qb.out.trans (yh (by simp)))
 have Zy:0<=b2/\b2<=4097:=by
  have h:=Yz.out;unfold zdn at h;simp only [eq_comm (a:=true),Bool.and_eq_true,decide_eq_true_eq] at h;omega
 have Z7:b2=(N:Int):=by have:=YA.out;omega
 subst Z7;have Xy:N<=4097:=by omega
 clear Qb Yz YA Zy
 go_upto_region 9 with (go_at_call 41;refine (Z5.out _).mono ?_;rintro e w5 ⟨rfl,rfl⟩)
 have Zz:=yb (zal (.cells #[.int .i64 a2,.slice none 0 0] 58) QF.out);have ZA:=yb (show GrM (p:=p) w (w4.alloc (.cells #[.int .i64 a2,.slice none 0 0] 58)) r w4.heap.size a2 [] (.slice none 0 0) from ⟨zac _ rfl,zal _ Qv.out,World.ownsRow_nil _ _ _ _,QM.out.alloc _,QM.out.size,Nat.ne_of_lt (zam Qv.out),fun e=>by have:=Qf.out.lt;omega⟩);have ZB:=yb (Qf.out.mono (zai w4 (.cells #[.int .i64 a2,.slice none 0 0] 58)));have Ql:=yb (show p<w.heap.size from HR.out.lt);have Y4:=yb (Nat.le_trans HR.out.bel.size (yp _));generalize w4.heap.size=g at *;generalize World.alloc _ _=W5 at *;clear YB QF Qv Qf QM x0 x1 x2 x3 x4 x5 x6 x7 v0 v1 v2 v3 v4 v5 v6 v7 z0 z1 y0 y1;obtain ⟨⟨v0,v1,v2,v3,v4,v5,v6,v7⟩,-⟩:=zah Zz.out;go_wp2_with fail
 clear v0 v1 v2 v3 v4 v5 v6 v7 Zz
 go_loopw [49] (fun v wr=>∃(c k2:Nat) (es:List Ent) (sv:Value),v=.int .i64 c/\c<=N/\k2<=bs.length/\Hid (es.length=c)/\Hid (IsRd w0 wr p a cap bs yq (k2:Int))/\Hid (GrM (p:=p) w wr r g a2 es sv)/\Hid (Q=zcq bs yq (N-c) k2 es)) (fun v _=>N-(intOf v).toNat)
 case atStart=>exact ⟨0,t2.toNat,[],.slice none 0 0,rfl,by omega,by omega,yb rfl,yb (by rw [Int.toNat_of_nonneg (by omega)];exact ZB.out),ZA,HQ⟩
 case round =>
  obtain ⟨c,k2,es,sv,rfl,Xz,Z8,YC,HI,Qm,Z9⟩:=hrel
  by_cases hlt:c<N
  ·have Y5:decide ((c:Int)<(N:Int))=true:=by simp;omega
   have Ya:decide (c<N)=true:=by simp;omega
   have ZC:=yb (xentry_any HI.out Z8);obtain ⟨m,hm⟩:∃m,m+1=N-c:=⟨N-c-1,by omega⟩;have HM:=yb hm;have ZD:=Z9.out;rw [<-hm,zcq] at ZD;have ZE:(entV bs yq k2).2.2=0->(entV bs yq k2).2.1<=bs.length:=fun h=>entV_le Z8 h;generalize entV bs yq k2=Y at *;obtain ⟨ee,kk,er⟩:=Y;simp only at ZD ZE;have ZF:=yb ZD;unfold EntEnd entA at ZC;simp only at ZC;have Y6:=yb (show entC ee=[.int .i64 ee.at_,.int .i64 ee.gen,.bool ee.used] from rfl);generalize ee.at_=ea at *;generalize ee.gen=eg at *;generalize ee.used=eu at *;clear hm ZD Z9;go_wp2_with fail
   refine ZC.out.mono ?_;rintro e w6 ⟨rfl,⟨at2,Zl,Zm⟩,Qx⟩;have ZG:=yb (zac (w:=w6) (b:=w6.heap.size) (.cells #[.int .i64 ea,.int .i64 eg,.bool eu] 45) rfl);have Zn:=yb (Zl.mono (zai w6 (.cells #[.int .i64 ea,.int .i64 eg,.bool eu] 45)));have Qc:=yb ((Qm.out.on (Ne.symm Qd.out) Ql.out Qx).on (Ne.symm Qd.out) Ql.out (zaz (zai w6 (.cells #[.int .i64 ea,.int .i64 eg,.bool eu] 45))));have ZH:=yb Zm;clear Zl Qx Zm ZC HI Qm
   go_upto_region 12 with fail
   obtain ⟨z,hz⟩:∃z,z=w6.heap.size:=⟨_,rfl⟩;rw [<-hz] at ZG |-;clear hz;generalize w6.alloc _=W7 at *;obtain ⟨⟨l0,l1,l2⟩,-⟩:=zcL ZG.out;obtain ⟨⟨g0,g1⟩,gf0,gf1⟩:=zbL Qc.out.blk;obtain ⟨⟨z0,z1⟩,y0,y1⟩:=zbL Qc.out.res
   by_cases her:er=0
   case neg =>
    have e0:(er==0)=false:=by rw [yf];exact her
    have e1:(er != 0)=true:=by simp only [bne,e0,yj]
    have Qy:=yb (Za.out.trans (show _=((⟨0,[]⟩,0,er):Grp×Int×Int) by rw [ZF.out,yg her];exact yg her));have Y7:=yb her;clear her ZF ZH ZE;go_wp2;refine yi (zaa rfl _ _ r 58 _ (0,0) _ rfl (by exact set2a Qc.out.res _ _) Tryz.underlying58 rfl (by exact zeI) _ rfl) rfl ?_;exact grp_no Qy.out Y7.out ⟨_,Zn.out⟩ Qc.out.kps Qd.out Qt.out Q1.out _ _
   subst her;obtain ⟨sa,sc,rfl,-,-⟩:=zaB Qc.out.own;have hL:es.length<=4097:=by have:=YC.out;omega
   have Qq:∀u∈[Value.int .i64 ea,.int .i64 eg,.bool eu],u.oneCell'=true:=by
    intro u hu;simp at hu;rcases hu with rfl|rfl|rfl<;>rfl
   have Q3:=yb Qq;have Yb:=yb (ZF.out.trans (yh (by decide)));have ZI:=yb (ZE rfl);clear Qq ZF ZE;go_wp2_with (at_builtin;go_loud (refine zdI EEnt rfl (.tmp 61) (.tmp 63) rfl w.heap.size _ es.length _ rfl (Qc.out.own.alloc _) _ 1 _ rfl (zfC _ #[.int .i64 ea,.int .i64 eg,.bool eu] _ 3 rfl rfl) Q3.out (by unfold maxLen;omega) (by omega) (by rw [zaq];have:=Qc.out.kps.size;omega) ?_);intro v' w8 hO8 hg8 hn8;obtain ⟨va,vc,rfl,-,-⟩:=zaB hO8;have Yc:=yb (Qc.out.app hg8 (by rw [Y6.out];exact hO8));have Yd:=yb (((Zn.out.mono (zai _ _)).grown hg8 (fun b hb=>⟨fun e=>by have:=(Qc.out.own.lt b hb).1;have:=Ql.out;omega,Nat.le_trans HR.out.bel.size (Qc.out.own.lt b hb).1⟩)).set (r:=g) (Ne.symm Qc.out.gne.2.2) (Nat.le_trans HR.out.bel.size Qc.out.gne.1) 1 (.slice va (es.length+1) vc));obtain ⟨⟨q0,q1⟩,qf0,qf1⟩:=zbL (Qc.out.atG hg8);clear hO8 hg8 hn8)
   go_roundw
   case rel=>exact ⟨c+1,kk,es++[ee],_,by go_num,by omega,ZI.out,yb (by rw [List.length_append,YC.out];rfl),by rw [<-ZH.out rfl];exact Yd,Yc,yb (by rw [Yb.out,show N-(c+1)=m by have:=HM.out;omega])⟩
   case measure=>simp [intOf];omega
  ·have Y8:c=N:=by omega
   subst Y8;have Y5:decide ((c:Int)<(c:Int))=false:=ye (by omega);have Ya:decide (c<c)=false:=ye (by omega);have Yb:=yb (Z9.out.trans (show zcq bs yq (c-c) k2 es=(es,k2,0) by rw [Nat.sub_self];rfl));have Qy:=yb (Za.out.trans (show _=((⟨a2,es⟩,k2,0):Grp×Int×Int) by rw [Yb.out];exact yh (fun h=>h rfl)));obtain ⟨⟨g0,g1⟩,gf0,gf1⟩:=zbL Qm.out.blk;obtain ⟨⟨z0,z1⟩,y0,y1⟩:=zbL Qm.out.res;obtain ⟨sa,sc,Y9,-,-⟩:=zaB Qm.out.own;subst Y9;go_wp2;refine yi (zaa rfl _ _ r 58 _ (0,0) _ rfl (by exact set2a Qm.out.res _ _) Tryz.underlying58 rfl (by exact zeI) _ rfl) rfl ?_;rw [Qy.out];refine ⟨_,rfl,?_,⟨_,HI.out.set2r Qd.out Qt.out _ _,fun _=>rfl⟩,zgL Qm.out.kps Q1.out _ _⟩;exact Qm.out.fin _ _
end
theorem zhK {bs:List UInt8} {yq:Bool} {g:Nat} {gs:List Grp} {k:Int} (he:(nxtV bs yq k).2.2.2≠0):zb7 bs yq (g+1) gs k=([],0,(nxtV bs yq k).2.2.2):=by
 unfold zb7;simp only;rw [yg he]
theorem zeQ {bs:List UInt8} {yq:Bool} {g:Nat} {gs:List Grp} {k:Int} (he:(nxtV bs yq k).2.2.2=0) (ht:zdU (nxtV bs yq k).1=true):zb7 bs yq (g+1) gs k=(gs,(nxtV bs yq k).2.2.1,0):=by
 unfold zb7;simp only;rw [yh (by rw [he];decide),yg ht]
theorem grps_bad {bs:List UInt8} {yq:Bool} {g:Nat} {gs:List Grp} {k:Int} (he:(nxtV bs yq k).2.2.2=0) (ht:zdU (nxtV bs yq k).1=false) (hw:zaN (nxtV bs yq k).1=false):zb7 bs yq (g+1) gs k=([],0,20):=by
 unfold zb7;simp only;rw [yh (by rw [he];decide),yh (by rw [ht];decide),yg hw]
theorem grps_full {bs:List UInt8} {yq:Bool} {g:Nat} {gs:List Grp} {k:Int} (he:(nxtV bs yq k).2.2.2=0) (ht:zdU (nxtV bs yq k).1=false) (hw:zaN (nxtV bs yq k).1=true) (hl:gs.length=64) :
  zb7 bs yq (g+1) gs k=([],0,if (nxtV bs yq (nxtV bs yq k).2.2.1).2.2.2≠0 then (nxtV bs yq (nxtV bs yq k).2.2.1).2.2.2 else 20):=by
 unfold zb7;simp only;rw [yh (by rw [he];decide),yh (by rw [ht];decide),yh (by rw [hw];decide)]
 split
 ·rfl
 ·rw [yg (.inr (.inl hl))]
theorem grps_step {bs:List UInt8} {yq:Bool} {g:Nat} {gs:List Grp} {k:Int} (he:(nxtV bs yq k).2.2.2=0) (ht:zdU (nxtV bs yq k).1=false) (hl:gs.length≠64) :
  zb7 bs yq (g+1) gs k=if (grp1 bs yq (nxtV bs yq k).1 (nxtV bs yq k).2.2.1).2.2≠0 then ([],0,(grp1 bs yq (nxtV bs yq k).1 (nxtV bs yq k).2.2.1).2.2)
   else zb7 bs yq g (gs++[(grp1 bs yq (nxtV bs yq k).1 (nxtV bs yq k).2.2.1).1]) (grp1 bs yq (nxtV bs yq k).1 (nxtV bs yq k).2.2.1).2.1:=by
 conv=>lhs;unfold zb7
 simp only;rw [yh (by rw [he];decide),yh (by rw [ht];decide)];unfold grp1;generalize nxtV bs yq (nxtV bs yq k).2.2.1=u;generalize nxtV bs yq k=t
 by_cases hw:zaN t.1=false
 ·simp [hw]
 rw [yh hw,yh hw]
 by_cases hu:u.2.2.2≠0
 ·rw [yg hu,yg hu]
  simp [hu]
 rw [yh hu,yh hu]
 by_cases hf:zaN u.1=false\/zdn t.1.vn u.1.vn=false
 ·rw [yg (hf.imp id fun h=>.inr h),yg hf]
  simp
 rw [yh (fun h=>h.elim (fun a=>hf (.inl a)) (fun b=>b.elim hl (fun c=>hf (.inr c)))),yh hf]
 by_cases hq:(zcq bs yq u.1.vn.toNat u.2.2.1.toNat []).2.2≠0
 ·rw [yg hq,yg hq]
  simp [hq]
 ·rw [yh hq,yh hq]
  simp
theorem grp1_le {bs:List UInt8} {yq:Bool} {x:Tk} {k:Int} (h0:0<=k) (h1:k<=bs.length):0<=(grp1 bs yq x k).2.1/\(grp1 bs yq x k).2.1<=bs.length:=by
 have QE:=zbr (bs:=bs) (k:=k) yq h0 h1;rw [<-nxt_3] at QE
 have Xa:∀(m a:Nat) (l:List Ent),a<=bs.length->(zcq bs yq m a l).2.1<=bs.length:=by
  intro m
  induction m with
  | zero=>intro a l h;exact h
  | succ m ih =>
   intro a l h;rw [zcq]
   split
   ·exact Nat.zero_le _
   ·rename_i he
    exact ih _ _ (entV_le h (by simpa using he))
 unfold grp1
 split
 ·exact ⟨Int.le_refl _,by show (0:Int)<=_;omega⟩
 split
 ·exact ⟨Int.le_refl _,by show (0:Int)<=_;omega⟩
 split
 ·exact ⟨Int.le_refl _,by show (0:Int)<=_;omega⟩
 split
 ·exact ⟨Int.le_refl _,by show (0:Int)<=_;omega⟩
 ·have:=Xa (nxtV bs yq k).1.vn.toNat (nxtV bs yq k).2.2.1.toNat [] (by omega)
  exact ⟨by show (0:Int)<=((_:Nat):Int);omega,by show ((_:Nat):Int)<=_;omega⟩
theorem EGrp:zfo Tryz.prog 22 58 (.agg #[.int .i64 0,.slice none 0 0]) 2 32:=⟨Tryz.underlying22,by kernel_rfl,rfl,by omega⟩
theorem trail_iff (x:Tk):zdU x=(x.kind==6&&decide (x.s=[116,114,97,105,108,101,114])):=by
 unfold zdU
 congr 1
 by_cases h:x.s=[116,114,97,105,108,101,114]<;>simp [h]
theorem heapA_keep (W:World) (o:Obj) {b:Nat} (hb:b<W.heap.size):(W.alloc o).heap[b]?=W.heap[b]?:=(zai W o).block b hb
structure GsM (w W:World) (p:Nat) (gs:List Grp) (cs:List Value) (v:Value):Prop where
 own:W.ownsRow w.heap.size 58 2 v gs.length cs
 hold:IsGs W (fun b=>w.heap.size<=b/\v.ownBlock≠some b) gs cs
 kps:zak (fun b=>b=p) w W
theorem GsM.on {w W W':World} {p:Nat} {gs:List Grp} {cs:List Value} {v:Value} (h:GsM w W p gs cs v) (hp:p<w.heap.size) (hk:zak (fun b=>b=p) W W'):GsM w W' p gs cs v :=
 ⟨zbd h.own fun b hb=>hk.block b (h.own.lt b hb).2 (by have:=(h.own.lt b hb).1;omega),h.hold.keep ⟨hk.size,fun b hb hF=>hk.block b hb (by have:=hF.1;omega)⟩ (fun _ h=>h),h.kps.trans hk (fun x hx=>.inl hx)⟩
theorem GsM.fin {w W:World} {p:Nat} {gs:List Grp} {cs:List Value} {v:Value} (h:GsM w W p gs cs v):IsG W (fun b=>w.heap.size<=b) gs v:=by
 obtain ⟨a,cap,e,-,-⟩:=zaB h.own;subst e;exact ⟨a,cap,cs,rfl,(Row.of_own h.own).2,fun h0 x hx=>(h.own.lt x.block (by rw [hx];rfl)).1,h.hold.keep (zaU.refl _ _) (fun b hb=>hb.1)⟩
theorem GsM.app {w W W8:World} {p:Nat} {o:Obj} {gs:List Grp} {cs:List Value} {v v':Value} (h:GsM w W p gs cs v) (hg8:(W.alloc o).grownBy W8 v.ownBlock) {n:Int} {es:List Ent} {sv:Value} {B:Nat} (he:IsE W (fun b=>B<=b) es sv) (hB:w.heap.size<=B) (hv:∀b,v.ownBlock=some b->b<B) (_hBW:B<=W.heap.size)
  (hO:W8.ownsRow w.heap.size 58 2 v' (gs.length+1) (cs++[.int .i64 n,sv])) (hn:∀b,v'.ownBlock=some b->v.ownBlock=some b\/(W.alloc o).heap.size<=b):GsM w W8 p (gs++[⟨n,es⟩]) (cs++[.int .i64 n,sv]) v':=by
 have ZJ:zaU (fun b=>v.ownBlock≠some b/\b<W.heap.size) W W8:=⟨by have:=hg8.size;rw [zaq] at this;omega,fun b hb hF=>by
  rw [hg8.block b (by rw [zaq];omega) (fun e=>hF.1 e.symm)];exact (heapA_keep W o hb)⟩
 refine ⟨by rw [List.length_append];exact hO,?_,(h.kps.alloc o).grown hg8 (fun k hk=>.inr (h.own.lt k hk).1)⟩
 have Zo:∀b,b<W.heap.size->v.ownBlock≠some b->v'.ownBlock≠some b:=fun b hb ZK e=>by
  rcases hn b e with h1|h1
  ·exact ZK h1
  ·rw [zaq] at h1;omega
 have lt_e:∀ {es:List Ent} {sv:Value} {F:Nat->Prop},IsE W F es sv->IsE W (fun b=>F b/\b<W.heap.size) es sv:=fun {es sv F} h=>by
  obtain ⟨a,cap,e,hr,hF⟩:=h;exact ⟨a,cap,e,hr,fun h0 x hx=>⟨hF h0 x hx,hr.lt h0 x hx⟩⟩
 have lt_g:∀ {gs:List Grp} {cs:List Value} {F:Nat->Prop},IsGs W F gs cs->IsGs W (fun b=>F b/\b<W.heap.size) gs cs:=fun {gs}=>by
  induction gs with
  | nil=>exact fun h=>h
  | cons g gs ih=>exact fun ⟨v,t,e,h1,h2⟩=>⟨v,t,e,lt_e h1,ih h2⟩
 refine IsGs.snoc ?_ ?_
 ·have h2:=(lt_g h.hold)
  have h3:IsGs W8 (fun b=>(w.heap.size<=b/\v.ownBlock≠some b)/\b<W.heap.size) gs cs:=h2.keep ⟨ZJ.1,fun b hb hF=>ZJ.2 b hb ⟨hF.1.2,hF.2⟩⟩ (fun _ h=>h);exact h3.keep (zaU.refl _ _) (fun b hb=>⟨hb.1.1,Zo b hb.2 hb.1.2⟩)
 ·have h2:IsE W (fun b=>B<=b/\b<W.heap.size) es sv:=lt_e he
  have ZK:∀b,B<=b->v.ownBlock≠some b:=fun b hb e=>by have:=hv b e;omega
  have h3:IsE W8 (fun b=>B<=b/\b<W.heap.size) es sv:=h2.keep ⟨ZJ.1,fun b hb hF=>ZJ.2 b hb ⟨ZK b hF.1,hF.2⟩⟩ (fun _ h=>h);exact h3.keep (zaU.refl _ _) (fun b hb=>⟨Nat.le_trans hB hb.1,Zo b hb.2 (ZK b hb.1)⟩)
section
variable {w0 w : World} {p : Nat} {a : Option Addr} {cap : Nat} {bs : List UInt8} {yq : Bool}
def GsEnd (w0 w:World) (p:Nat) (a:Option Addr) (cap:Nat) (bs:List UInt8) (yq:Bool) (V:List Grp×Int×Int) (e:Ending) (w':World):Prop :=
 ∃v,e=.returned (.tuple #[v,.int .i64 V.2.2])/\IsG w' (fun b=>w.heap.size<=b) V.1 v/\(∃at2:Int,IsRd w0 w' p a cap bs yq at2/\(V.2.2=0->at2=V.2.1))/\zak (fun b=>b=p) w w'
theorem gs_no {V:List Grp×Int×Int} {W:World} {e:Int} (hV:V=([],0,e)) (he:e≠0) (hI:∃at2:Int,IsRd w0 W p a cap bs yq at2) (hk:zak (fun b=>b=p) w W):GsEnd w0 w p a cap bs yq V (.returned (.tuple #[.slice none 0 0,.int .i64 e])) W:=by
 subst hV;obtain ⟨at2,hI⟩:=hI;exact ⟨_,rfl,IsG.nil _ _,⟨at2,hI,fun h=>absurd h he⟩,hk⟩
def lenV:Value->Nat | .slice _ n _=>n|_=>0
theorem xgroups_any {k:Int} (h:IsRd w0 w p a cap bs yq k) (h0:0<=k) (h1:k<=bs.length):Calls Tryz.prog 29 #[.pointer (some ⟨p,0,none⟩)] w (GsEnd w0 w p a cap bs yq (zb7 bs yq 65 [] k)):=by
 have Yo:=h.small;have Ql:=yb (show p<w.heap.size from h.lt);obtain ⟨R,hR⟩:∃R,R=zb7 bs yq 65 [] k:=⟨_,rfl⟩;rw [<-hR];have Q7:=yb hR;have HR:=yb h;clear h hR;go_enter Tryz.func29,Tryz.ntmps29
 go_wp2
 go_loopw [4] (fun v wr=>∃(gs:List Grp) (k2:Int) (cs:List Value),gs.length<=64/\0<=k2/\k2<=bs.length/\Hid (IsRd w0 wr p a cap bs yq k2)/\Hid (GsM w wr p gs cs v)/\Hid (R=zb7 bs yq (65-gs.length) gs k2)) (fun v _=>65-lenV v)
 case atStart=>exact ⟨[],k,[],by simp,h0,h1,HR,yb ⟨World.ownsRow_nil _ _ _ _,rfl,zak.refl _ _⟩,Q7⟩
 case round =>
  obtain ⟨gs,k2,cs,XA,Xb,YD,HI,Qm,HQ⟩:=hrel;obtain ⟨sa,sc,rfl,-,-⟩:=zaB Qm.out.own;have HN:=yb (zgh HI.out);have QE:=zbr (bs:=bs) (k:=k2) yq Xb YD;rw [<-nxt_3] at QE;obtain ⟨m,hm⟩:∃m,m+1=65-gs.length:=⟨64-gs.length,by omega⟩;have hQ:=HQ.out;rw [<-hm] at hQ;have HM:=yb hm;have YE:=yb (fun he=>hQ.trans (zhK he));have QO:=yb (fun he ht=>hQ.trans (zeQ he ht));have QP:=yb (fun he ht hw=>hQ.trans (grps_bad he ht hw));have QG:=yb (fun he ht hw hl=>hQ.trans (grps_full he ht hw hl));have QH:=yb (fun he ht hl=>hQ.trans (grps_step he ht hl));have QI:=yb (fun (W:World) (hI:IsRd w0 W p a cap bs yq (nxtV bs yq k2).2.2.1)=>zgh hI);have Qz:=yb (fun (W:World) (hI:IsRd w0 W p a cap bs yq (nxtV bs yq k2).2.2.1)=>xgroup_any hI (by omega) QE.2 (nxtV bs yq k2).1 (nxtV bs yq k2).2.1 (nxtV bs yq k2).2.2.1);have QQ:=yb (grp1_le (bs:=bs) (yq:=yq) (x:=(nxtV bs yq k2).1) (k:=(nxtV bs yq k2).2.2.1) (by omega) QE.2);have QR:=yb (fun (h:zaN (nxtV bs yq k2).1=false)=>show (grp1 bs yq (nxtV bs yq k2).1 (nxtV bs yq k2).2.2.1).2.2=20 by unfold grp1;rw [yg h]);have ZL:=yb (trail_iff (nxtV bs yq k2).1);have QN:=yb (fun W=>zgz (nxtV bs yq k2).1 (nxtV bs yq k2).2.1 (nxtV bs yq k2).2.2.1 W);have ZM:=yb (zcl (nxtV bs yq k2).1.s [116,114,97,105,108,101,114]);clear hm hQ HQ;generalize nxtV bs yq k2=U at *;obtain ⟨x,f,t,E⟩:=U;simp only at QE HN YE QO QP QG QH QI Qz QQ ZL QN ZM;generalize nxtV bs yq t=U2 at *;obtain ⟨y,f2,t2,E2⟩:=U2;generalize grp1 bs yq x t=G at *;obtain ⟨⟨gn,ge⟩,gk,gr⟩:=G;unfold GrpEnd at Qz;simp only at QG QH QI Qz QQ QR;unfold tokN at HN QI QN Qz;obtain ⟨tr,YF⟩:∃tr,tr=decide (x.s=[116,114,97,105,108,101,114]):=⟨_,rfl⟩;rw [<-YF] at ZL ZM;rw [ZL.out] at QO QP QG QH;clear YF ZL;generalize zaN x=wx at *;generalize x.kind=a0 at *;generalize x.vk=a1 at *;generalize x.vn=a2 at *;generalize mkB x.vs=s1 at *;generalize mkB x.s=s2 at *;generalize y.kind=b0 at *;generalize y.vk=b1 at *;generalize y.vn=b2 at *;generalize mkB y.vs=q1 at *;generalize mkB y.s=q2 at *;go_wp2_with fail
  refine HN.out.mono ?_;rintro e w3 ⟨rfl,Q2,hk3⟩;have Qw:=yb (zac (w:=w3) (b:=w3.heap.size) (.cells #[.int .i64 a0,.int .i64 f,.int .i64 t,.int .i64 a1,.int .i64 a2,.string s1,.slice none 0 0,.string s2] 112) rfl);have Qg:=yb (Q2.mono (zai w3 (.cells #[.int .i64 a0,.int .i64 f,.int .i64 t,.int .i64 a1,.int .i64 a2,.string s1,.slice none 0 0,.string s2] 112)));have Zb:=yb ((Qm.out.on Ql.out hk3).on Ql.out (zaz (zai w3 (.cells #[.int .i64 a0,.int .i64 f,.int .i64 t,.int .i64 a1,.int .i64 a2,.string s1,.slice none 0 0,.string s2] 112))));have Z4:=yb (show w3.heap.size≠p by have:=Q2.lt;omega);clear Q2 hk3 HN HI Qm
  go_upto_region 3 with fail
  obtain ⟨T,hT⟩:∃T,T=w3.heap.size:=⟨_,rfl⟩;rw [<-hT] at Qw Z4 |-;clear hT;generalize World.alloc _ _=W3 at *;obtain ⟨⟨v0,v1,v2,v3,v4,v5,v6,v7⟩,-⟩:=zah Qw.out
  by_cases hE:E=0
  case neg =>
   have Qb:=yb (YE.out hE);have e0:(E==0)=false:=by rw [yf];exact hE
   have e1:(E != 0)=true:=by simp only [bne,e0,yj]
   have HE:=yb hE;clear hE;go_wp2;go_ret2;exact gs_no Qb.out HE.out ⟨_,Qg.out⟩ Zb.out.kps
  subst hE;rw [yg rfl] at Qg;have Xc:=ZM.out;obtain ⟨k6,Qx⟩:∃k6,k6=(a0==6):=⟨_,rfl⟩;rw [<-Qx] at QO QP QG QH;have Ye:=yb Qx;obtain ⟨tb,Yf⟩:∃tb,tb=(k6&&tr):=⟨_,rfl⟩;rw [<-Yf] at QO QP QG QH;have Yg:=yb Yf;clear Yf Qx
  go_upto_region 5 with fail
  go_cut [27] from 10 to 59 (fun v wx=>v=.bool tb/\wx=W3)
  case first =>
   clear QO QP QG QH QI Qz QQ QR
   cases k6
   ·have e6:=Ye.out.symm
    obtain rfl:tb=false:=Yg.out;go_wp2_with fail
    go_meet
    exact ⟨rfl,rfl⟩
   ·have e6:=Ye.out.symm
    obtain rfl:tb=tr:=Yg.out;go_wp2_with fail
    go_meet
    exact ⟨rfl,rfl⟩
  case rest =>
  obtain ⟨rfl,hw⟩:=hcut;subst hw;clear Xc ZM Ye Yg
  cases tb
  case true =>
   have Qb:=yb (QO.out rfl rfl);clear QO QP QG QH QI Qz QQ QR v0 v1 v2 v3 v4 v5 v6 v7;go_wp2;go_ret2;rw [Qb.out];exact ⟨_,rfl,Zb.out.fin,⟨_,Qg.out,fun _=>rfl⟩,Zb.out.kps⟩
  have QJ:=yb (QP.out rfl rfl);have QK:=yb (QG.out rfl rfl);have Qr:=yb (QH.out rfl rfl);clear QO QP QG QH;obtain ⟨fb,Zy⟩:∃fb,fb=(decide (gs.length=64)&&wx):=⟨_,rfl⟩;have Q4:=yb Zy;clear Zy
  go_upto_region 7 with fail
  go_cut [35] from 10 to 59 (fun v wx=>v=.bool fb/\Hid (IsRd w0 wx p a cap bs yq t)/\Hid (GsM w wx p gs cs (.slice sa gs.length sc))/\Hid (wx.heap[T]?=some (.cells #[.int .i64 a0,.int .i64 f,.int .i64 t,.int .i64 a1,.int .i64 a2,.string s1,.slice none 0 0,.string s2] 112 (0,0))))
  case first =>
   clear QJ QK Qr QI Qz QQ QR
   by_cases h64:gs.length=64
   ·obtain rfl:fb=wx:=by rw [Q4.out,yd h64,Bool.true_and]
    have Yh:((gs.length:Int)==64)=true:=by rw [beq_iff_eq];omega
    have Zp:(gs.length==64)=true:=by rw [beq_iff_eq];exact h64
    clear h64;go_wp2_with (go_at_call 61;refine (QN.out _).mono ?_;rintro e w4 ⟨rfl,Qe⟩;have Qf:=yb (Qg.out.mono Qe);have QS:=yb (Zb.out.on Ql.out (zaz Qe));have QF:=yb (zab Qe Qw.out))
    go_meet
    exact ⟨rfl,Qf,QS,QF⟩
   ·obtain rfl:fb=false:=by rw [Q4.out,ye h64,Bool.false_and]
    have Yh:((gs.length:Int)==64)=false:=by rw [yf];omega
    have Zp:(gs.length==64)=false:=by rw [yf];exact h64
    go_wp2_with fail
    go_meet
    exact ⟨rfl,Qg,Zb,Qw⟩
  case rest =>
  obtain ⟨rfl,Qf,QS,QF⟩:=hcut;clear Qg Zb Qw v0 v1 v2 v3 v4 v5 v6 v7 QN;obtain ⟨⟨v0,v1,v2,v3,v4,v5,v6,v7⟩,-⟩:=zah QF.out
  cases fb
  case true =>
   have h64:gs.length=64/\wx=true:=by have:=Q4.out;simpa using this.symm
   have Qy:=yb (QK.out h64.2 h64.1);clear QJ Qr QK Qz QQ QR Q4 h64;go_wp2_with fail
   refine (QI.out _ Qf.out).mono ?_;rintro e w5 ⟨rfl,YG,YH⟩;have ZB:=yb (YG.mono (zai w5 (.cells #[.int .i64 b0,.int .i64 f2,.int .i64 t2,.int .i64 b1,.int .i64 b2,.string q1,.slice none 0 0,.string q2] 112)));have ZA:=yb ((QS.out.on Ql.out YH).on Ql.out (zaz (zai w5 (.cells #[.int .i64 b0,.int .i64 f2,.int .i64 t2,.int .i64 b1,.int .i64 b2,.string q1,.slice none 0 0,.string q2] 112))));have Zz:=yb (zac (w:=w5) (b:=w5.heap.size) (.cells #[.int .i64 b0,.int .i64 f2,.int .i64 t2,.int .i64 b1,.int .i64 b2,.string q1,.slice none 0 0,.string q2] 112) rfl);clear YG YH QI Qf QS QF v0 v1 v2 v3 v4 v5 v6 v7
   go_upto_region 9 with fail
   generalize w5.heap.size=T5 at *;generalize World.alloc _ _=W5 at *;obtain ⟨⟨v0,v1,v2,v3,v4,v5,v6,v7⟩,-⟩:=zah Zz.out
   by_cases hE2:E2=0
   ·subst hE2
    rw [yh (by decide)] at Qy;go_wp2;go_ret2;exact gs_no Qy.out (by decide) ⟨_,ZB.out⟩ ZA.out.kps
   ·have e0:(E2==0)=false:=by rw [yf];exact hE2
    have e1:(E2 != 0)=true:=by simp only [bne,e0,yj]
    have Yi:=yb hE2;rw [yg hE2] at Qy;clear hE2;go_wp2;go_ret2;exact gs_no Qy.out Yi.out ⟨_,ZB.out⟩ ZA.out.kps
  have YI:=yb (show gr≠0->R=([],0,gr) from fun h=>by
   by_cases h64:gs.length=64
   ·have ZN:wx=false:=by have:=Q4.out;rw [yd h64,Bool.true_and] at this;exact this.symm
    rw [QJ.out ZN,QR.out ZN]
   ·have:=Qr.out h64
    rw [yg h] at this;exact this)
  have YJ:=yb (show gr=0->gs.length≠64/\R=zb7 bs yq m (gs++[⟨gn,ge⟩]) gk from fun h=>by
   by_cases h64:gs.length=64
   ·have ZN:wx=false:=by have:=Q4.out;rw [yd h64,Bool.true_and] at this;exact this.symm
    have:=QR.out ZN;rw [h] at this
    cases this
   ·have:=Qr.out h64
    rw [yh (by rw [h];decide)] at this;exact ⟨h64,this⟩)
  clear QJ QK Qr QR Q4 QI;go_wp2_with fail
  refine (Qz.out _ Qf.out).mono ?_;rintro e w6 ⟨gv,rfl,Yj,⟨at2,Zl,Zm⟩,Qx⟩;have YK:=yb (QS.out.on Ql.out Qx);have ZX:=yb (show ∀b,Value.ownBlock (.slice sa gs.length sc)=some b->b<wc.heap.size from fun b hb=>(QS.out.own.lt b hb).2);have Yk:=yb (show w.heap.size<=wc.heap.size/\wc.heap.size<=w6.heap.size from ⟨QS.out.kps.size,Qx.size⟩);obtain ⟨va,vc,rfl,-,-⟩:=Yj.len;have Zn:=yb (Zl.mono (zai w6 (.cells #[.int .i64 gn,.slice va ge.length vc] 58)));have Qc:=yb (YK.out.on Ql.out (zaz (zai w6 (.cells #[.int .i64 gn,.slice va ge.length vc] 58))));have ZG:=yb (Yj.below (zai w6 (.cells #[.int .i64 gn,.slice va ge.length vc] 58)));have YL:=yb (zac (w:=w6) (b:=w6.heap.size) (.cells #[.int .i64 gn,.slice va ge.length vc] 58) rfl);have ZH:=yb Zm;have YM:=yb (zaq w6 (.cells #[.int .i64 gn,.slice va ge.length vc] 58));clear Yj Zl Zm Qx QS Qf QF Qz YK v0 v1 v2 v3 v4 v5 v6 v7
  go_upto_region 14 with fail
  obtain ⟨z,hz⟩:∃z,z=w6.heap.size:=⟨_,rfl⟩;rw [<-hz] at YL Yk YM |-;clear hz;generalize w6.alloc _=W7 at *;obtain ⟨⟨z0,z1⟩,-⟩:=zbL YL.out
  by_cases hgr:gr=0
  case neg =>
   have Qy:=yb (YI.out hgr);have e0:(gr==0)=false:=by rw [yf];exact hgr
   have e1:(gr != 0)=true:=by simp only [bne,e0,yj]
   have Yi:=yb hgr;clear hgr;go_wp2;go_ret2;exact gs_no Qy.out Yi.out ⟨_,Zn.out⟩ Qc.out.kps
  subst hgr;obtain ⟨h64,YN⟩:=YJ.out rfl;have hL:gs.length<=63:=by omega
  have Xd:=yb YN
  have Qq:∀u∈[Value.int .i64 gn,.slice va ge.length vc],u.oneCell'=true:=by
   intro u hu;simp at hu;rcases hu with rfl|rfl<;>rfl
  have Q3:=yb Qq;have ZI:=yb QQ.out;clear Qq h64 YN YJ YI QQ;go_wp2_with (at_builtin;go_loud (refine zdI EGrp rfl (.tmp 56) (.tmp 58) rfl w.heap.size _ gs.length _ rfl (Qc.out.own.alloc _) _ 1 _ rfl (zfC _ #[.int .i64 gn,.slice va ge.length vc] _ 2 rfl rfl) Q3.out (by unfold maxLen;omega) (by omega) (by rw [zaq];have:=Qc.out.kps.size;omega) ?_);intro v' w8 hO8 hg8 hn8;obtain ⟨ua,uc,rfl,-,-⟩:=zaB hO8;have Yc:=yb (Qc.out.app hg8 ZG.out Yk.out.1 ZX.out (by have:=Yk.out.2;have:=YM.out;omega) hO8 hn8);have Yd:=yb ((Zn.out.mono (zai _ _)).grown hg8 (fun b hb=>⟨fun e=>by have:=(Qc.out.own.lt b hb).1;have:=Ql.out;omega,Nat.le_trans HR.out.bel.size (Qc.out.own.lt b hb).1⟩));clear hO8 hg8 hn8)
  go_roundw
  case rel=>exact ⟨gs++[⟨gn,ge⟩],gk,_,by rw [List.length_append];simp;omega,ZI.out.1,ZI.out.2,by rw [<-ZH.out rfl];exact Yd,Yc,yb (by rw [Xd.out,List.length_append,show 65-(gs.length+[(⟨gn,ge⟩:Grp)].length)=m by have:=HM.out;simp;omega])⟩
  case measure=>simp [lenV];omega
end
end Go.Proofs.YtcmoehknppjkiaaGreatDoor
namespace Go.Proofs.YtcmoehknppjkiaaGreatDoor
def fIx (s:List UInt8):List (PV×PV)->Nat
 | []=>0
 | y::l=>if y.1.s=s then 0 else fIx s l+1
theorem fIx_le (s:List UInt8):∀l,fIx s l<=l.length
 | []=>yp _
 | y::l=>by
  have:=fIx_le s l;unfold fIx
  split
  ·exact Nat.zero_le _
  ·simp;omega
theorem fIx_has (s:List UInt8):∀l,hasK s l=decide (fIx s l<l.length)
 | []=>by simp [hasK,fIx]
 | y::l=>by
  have h:=fIx_has s l;unfold fIx
  by_cases e:y.1.s=s
  ·rw [yg e];simp [hasK,e]
  ·rw [yh e]
   have:hasK s (y::l)=hasK s l:=by simp [hasK,e]
   rw [this,h];simp
theorem fIx_ne (s:List UInt8):∀(l:List (PV×PV)) (k:Nat) (y:PV×PV),k<fIx s l->l[k]?=some y->y.1.s≠s
 | [],k,y,h,_=>by simp [fIx] at h
 | z::l,k,y,h,hk=>by
  unfold fIx at h
  by_cases e:z.1.s=s
  ·rw [yg e] at h;omega
  ·rw [yh e] at h
   cases k with
   | zero=>simp at hk;subst hk;exact e
   | succ k=>exact fIx_ne s l k y (by omega) (by simpa using hk)
theorem fIx_eq (s:List UInt8):∀(l:List (PV×PV)) (y:PV×PV),l[fIx s l]?=some y->y.1.s=s
 | [],y,h=>by simp at h
 | z::l,y,h=>by
  unfold fIx at h
  by_cases e:z.1.s=s
  ·rw [yg e] at h;simp at h;subst h;exact e
  ·rw [yh e] at h
   exact fIx_eq s l y (by simpa using h)
theorem flat_at:∀(l:List (PV×PV)) (k:Nat) (y:PV×PV),l[k]?=some y->(zaS l)[2*k]?=some y.1/\(zaS l)[2*k+1]?=some y.2
 | [],k,y,h=>by simp at h
 |(a,b)::l,0,y,h=>by simp at h;subst h;exact ⟨rfl,rfl⟩
 |(a,b)::l,k+1,y,h=>by
  have:=flat_at l k y (by simpa using h);rw [show 2*(k+1)+1=2*k+1+1+1 by omega,show 2*(k+1)=2*k+1+1 by omega]
  simpa [zaS] using this
theorem zdy:∀l:List (PV×PV),(zaS l).length=2*l.length
 | []=>rfl
 |(a,b)::l=>by simp [zaS,zdy l];omega
theorem zem:∀(a b:List (PV×PV)),zaS (a++b)=zaS a++zaS b
 | [],b=>rfl
 |(x,y)::a,b=>by simp [zaS,zem a b]
theorem rep_len (x:PV×PV):∀l,(repK x l).length=l.length
 | []=>rfl
 | y::l=>by
  unfold repK
  split
  ·simp
  ·simp [rep_len x l]
theorem rep_at (x:PV×PV):∀(l:List (PV×PV)) (k:Nat) (y:PV×PV),l[k]?=some y->(repK x l)[k]?=some (y.1,if k=fIx x.1.s l then x.2 else y.2)
 | [],k,y,h=>by simp at h
 | z::l,k,y,h=>by
  unfold repK fIx
  by_cases e:z.1.s=x.1.s
  ·rw [yg e,yg e]
   cases k with
   | zero=>simp at h;subst h;simp
   | succ k=>simp at h |-;exact h
  ·rw [yh e,yh e]
   cases k with
   | zero=>simp at h;subst h;simp
   | succ k =>
    have:=rep_at x l k y (by simpa using h);simp only [List.getElem?_cons_succ,this];simp
theorem rep_step (x:PV×PV) (l:List (PV×PV)) (k:Nat) (y:PV×PV) (h:l[k]?=some y):zaS ((repK x l).take (k+1))=zaS ((repK x l).take k)++[y.1,if k=fIx x.1.s l then x.2 else y.2]:=by
 rw [List.take_add_one,rep_at x l k y h,zem];rfl
def gIx (s:List UInt8):List (PV×PV)->Nat
 | []=>0
 | y::l=>if sLt s y.1.s=true then 0 else gIx s l+1
theorem gIx_le (s:List UInt8):∀l,gIx s l<=l.length
 | []=>yp _
 | y::l=>by
  have:=gIx_le s l;unfold gIx
  split
  ·exact Nat.zero_le _
  ·simp;omega
theorem gIx_no (s:List UInt8):∀(l:List (PV×PV)) (k:Nat) (y:PV×PV),k<gIx s l->l[k]?=some y->sLt s y.1.s=false
 | [],k,y,h,_=>by simp [gIx] at h
 | z::l,k,y,h,hk=>by
  unfold gIx at h
  by_cases e:sLt s z.1.s=true
  ·rw [yg e] at h;omega
  ·rw [yh e] at h
   cases k with
   | zero=>simp at hk;subst hk;simpa using e
   | succ k=>exact gIx_no s l k y (by omega) (by simpa using hk)
theorem gIx_yes (s:List UInt8):∀(l:List (PV×PV)) (y:PV×PV),l[gIx s l]?=some y->sLt s y.1.s=true
 | [],y,h=>by simp at h
 | z::l,y,h=>by
  unfold gIx at h
  by_cases e:sLt s z.1.s=true
  ·rw [yg e] at h;simp at h;subst h;exact e
  ·rw [yh e] at h
   exact gIx_yes s l y (by simpa using h)
theorem ins_is (x:PV×PV):∀l,insK x l=l.take (gIx x.1.s l)++x::l.drop (gIx x.1.s l)
 | []=>by simp [insK,gIx]
 | y::l=>by
  unfold insK gIx
  by_cases e:sLt x.1.s y.1.s=true
  ·rw [yg e,yg e];rfl
  ·rw [yh e,yh e,ins_is x l];rfl
def insT (x:PV×PV) (l:List (PV×PV)) (k:Nat):List (PV×PV):=if gIx x.1.s l<k then l.take (gIx x.1.s l)++x::(l.take k).drop (gIx x.1.s l) else l.take k
theorem insT_zero (x:PV×PV) (l:List (PV×PV)):insT x l 0=[]:=by unfold insT;rw [yh (by omega)];simp
theorem insT_step (x:PV×PV) (l:List (PV×PV)) (k:Nat) (y:PV×PV) (h:l[k]?=some y) (hk:k≠gIx x.1.s l):zaS (insT x l (k+1))=zaS (insT x l k)++[y.1,y.2]:=by
 have e:insT x l (k+1)=insT x l k++[y]:=by
  have XB:k<l.length:=(List.getElem?_eq_some_iff.1 h).1;unfold insT
  by_cases g:gIx x.1.s l<k
  ·rw [yg (by omega),yg g,List.take_add_one,h]
   simp only [Option.toList_some,List.append_assoc,List.cons_append];rw [List.drop_append_of_le_length (by simp;omega)]
  ·rw [yh (by omega),yh g,List.take_add_one,h];rfl
 rw [e,zem];rfl
theorem insT_here (x:PV×PV) (l:List (PV×PV)) (y:PV×PV) (h:l[gIx x.1.s l]?=some y):zaS (insT x l (gIx x.1.s l+1))=zaS (insT x l (gIx x.1.s l))++[x.1,x.2,y.1,y.2]:=by
 have e:insT x l (gIx x.1.s l+1)=insT x l (gIx x.1.s l)++[x,y]:=by
  unfold insT;have hl:gIx x.1.s l<l.length:=(List.getElem?_eq_some_iff.1 h).1;rw [yg (by omega),yh (by omega),List.take_add_one,h];rw [List.drop_append_of_le_length (by simp;omega),List.drop_of_length_le (by rw [List.length_take];omega)];rfl
 rw [e,zem];rfl
theorem insT_end (x:PV×PV) (l:List (PV×PV)):insK x l=if gIx x.1.s l<l.length then insT x l l.length else insT x l l.length++[x]:=by
 have:=gIx_le x.1.s l;rw [ins_is];unfold insT
 by_cases g:gIx x.1.s l<l.length
 ·rw [yg g,yg g];simp
 ·rw [yh g,yh g]
  have e:gIx x.1.s l=l.length:=by omega
  rw [e];simp
end Go.Proofs.YtcmoehknppjkiaaGreatDoor
namespace Go.Proofs.YtcmoehknppjkiaaGreatDoor
open Go.RowKit
theorem skN_pc {bs:List UInt8} {j:Nat} (h:j<bs.length) (hc:bs.getD j 0=37):skN bs false j=skN bs true j:=by
 rw [zgr (b':=true) h (by rw [hc];simp [zbi]),zgr (b:=true) (b':=true) h (by rw [hc];simp [zbi])]
theorem skN_nl {bs:List UInt8} {j:Nat} (h:j<bs.length) (hc:bs.getD j 0=10\/bs.getD j 0=13):skN bs true j=skN bs false j:=by
 have hl:∀l,zbi true (bs.getD j 0::l)=1+zbi false l:=fun l=>by
  rcases hc with hc|hc<;>(rw [hc];simp [zbi])
 have h2:∀l,zbi false (bs.getD j 0::l)=1+zbi false l:=fun l=>by
  rcases hc with hc|hc<;>(rw [hc];simp [zbi,isSp])
 rw [zgr (b':=false) h (hl _),zgr (b:=false) (b':=false) h (h2 _)]
theorem skN_on {bs:List UInt8} {j:Nat} (h:j<bs.length) (h1:bs.getD j 0≠10) (h2:bs.getD j 0≠13):skN bs true j=skN bs true (j+1) :=
 zgr h (by rw [zbi,show (bs.getD j 0 != 10&&bs.getD j 0 != 13)=true by rw [Bool.and_eq_true,bne_iff_ne,bne_iff_ne];exact ⟨h1,h2⟩])
theorem rskip_any {w:World} {a:Option Addr} {cap:Nat} {bs:List UInt8} (hr:Row w 1 a bs.length cap (bs.map u8C)) (hn:bs.length<=400000) (k:Int) :
  Calls Tryz.prog 105 #[.slice a bs.length cap,.int .i64 k] w fun e w'=>e=.returned (.int .i64 (zaL bs k:Nat))/\w=w':=by
 obtain ⟨V,hV⟩:∃V,V=zaL bs k:=⟨_,rfl⟩;rw [<-hV]
 by_cases hk:k<0
 ·have HV:=yb (show V=0 by rw [hV];unfold zaL;rw [yg hk])
  have Zc:decide (k<0)=true:=yd hk;clear hV hr;go_enter Tryz.func105,Tryz.ntmps105
  go_wp2;go_ret;exact ⟨by rw [HV.out];rfl,rfl⟩
 ·have hv:=hV.trans (skipV_skN (by omega))
  obtain ⟨j0,Xe⟩:∃j:Nat,k=j:=⟨k.toNat,by omega⟩;subst Xe;rw [Int.toNat_natCast] at hv;have HV:=yb hv;have Zc:decide ((j0:Int)<0)=false:=ye (by omega);have HC:=yb (fun j (hj:j<bs.length)=>hr.at 0 j hj);clear hV hr hv hk;go_enter Tryz.func105,Tryz.ntmps105
  go_wp2
  go_loop [1] (fun i=>∃j:Nat,i=.int .i64 j/\Hid (V=skN bs false j))
   (fun i=>bs.length-(intOf i).toNat)
  case atStart=>exact ⟨j0,rfl,HV⟩
  case round =>
   obtain ⟨j,rfl,HJ⟩:=hrel
   by_cases hj:j<bs.length
   ·obtain ⟨b0,off,ha,-,hc⟩:=HC.out j hj
    have QT:=hc j hj;have Xf:=yb hc;unfold u8C at QT;have YO:decide ((j:Int)<bs.length)=true:=by simp;exact hj
    have Zf:decide (j<bs.length)=true:=yd hj;have Xg:j<=399999:=by omega
    have Qj:=yb (fun W=>zdG (bs.getD j 0).toNat W);rw [<-ze7] at Qj;have HG:=yb (fun b b'=>@zgr bs b b' j hj);have Zr:=yb (fun h1 h2=>@skN_stop bs j hj h1 h2);have YP:=yb (fun h=>@skN_pc bs j hj h);have HM:=yb (show bs.length-(j+1)<bs.length-j by omega);have HN:=yb hn;have YQ:=yb hj;obtain ⟨c,Qa⟩:∃c,bs.getD j 0=c:=⟨_,rfl⟩;rw [Qa] at QT Qj HG Zr YP;have Xh:=yb Qa;subst ha;clear hc HC hn Zc Qa;obtain ⟨sp,QU⟩:∃sp,isSp c=sp:=⟨_,rfl⟩;rw [QU] at Qj;have HS:=yb QU;clear QU
    cases sp
    ·by_cases h37:c=37
     ·have hx:c.toNat=37:=by rw [h37];rfl
      have Qi:=yb (HJ.out.trans (YP.out h37));rw [hx] at QT Qj;have Xi:=yb h37;clear hx h37;go_wp2_with (go_at_call 67;refine (Qj.out _).mono ?_;rintro e w' ⟨rfl,rfl⟩)
      clear QT hj YO Zf Xg
      go_loop [1] (fun i=>∃m:Nat,i=.int .i64 m/\Hid (j<=m)/\Hid (V=skN bs true m))
       (fun i=>bs.length-(intOf i).toNat)
      case atStart=>exact ⟨j,rfl,yb (yp _),Qi⟩
      case round =>
       obtain ⟨m,rfl,YR,Yl⟩:=hrel
       by_cases hm:m<bs.length
       ·have Zq:=Xf.out m hm
        unfold u8C at Zq;have Xj:decide ((m:Int)<bs.length)=true:=by simp;exact hm
        have Xk:decide (m<bs.length)=true:=yd hm;have XC:m<=399999:=by have:=HN.out;omega
        have Xl:=yb (show bs.length-(m+1)<bs.length-m by omega)
        by_cases hnl:bs.getD m 0=10\/bs.getD m 0=13
        ·have Qb:=yb (Yl.out.trans (skN_nl hm hnl))
         have Qs:=yb (show bs.length-m<bs.length-j by
          have h1:=YR.out;have h2:=YQ.out
          have h3:m≠j:=fun e=>by
           rw [e,Xh.out,Xi.out] at hnl;rcases hnl with h|h<;>exact absurd h (by decide)
          omega)
         obtain ⟨x,hx⟩:∃x,(bs.getD m 0).toNat=x:=⟨_,rfl⟩;rw [hx] at Zq;have Xm:x=10\/x=13:=by rw [<-hx];rcases hnl with h|h<;>(rw [h];decide)
         clear hx hnl;rcases Xm with rfl|rfl
         all_goals
          go_wp2
          go_round
          case rel=>exact ⟨m,rfl,Qb⟩
          case measure=>simpa [intOf] using Qs.out
        ·have Qb:=yb (Yl.out.trans (skN_on hm (fun e=>hnl (.inl e)) (fun e=>hnl (.inr e))))
         have Qs:=yb (show j<=m+1 from Nat.le_succ_of_le YR.out);have e1:(((bs.getD m 0).toNat:Int)==10)=false:=by rw [yf];exact fun e=>hnl (.inl (UInt8.toNat_inj.1 (Int.ofNat_inj.1 e)))
         have e2:(((bs.getD m 0).toNat:Int)==13)=false:=by rw [yf];exact fun e=>hnl (.inr (UInt8.toNat_inj.1 (Int.ofNat_inj.1 e)))
         generalize (bs.getD m 0).toNat=x at *;have e3:((x:Int) != 10)=true:=by simp only [bne,e1,yj]
         have e4:((x:Int) != 13)=true:=by simp only [bne,e2,yj]
         clear hnl;go_wp2
         go_round
         case rel=>exact ⟨m+1,by go_num,Qs,Qb⟩
         case measure=>simpa [intOf] using Xl.out
       ·have Xj:decide ((m:Int)<bs.length)=false:=ye (by omega)
        have Xk:decide (m<bs.length)=false:=ye hm;have Qb:=yb (Yl.out.trans ((zhs (b:=true) (by omega)).trans (zhs (b:=false) (Nat.le_of_not_lt hm)).symm));have Qs:=yb (show bs.length-m<bs.length-j by have:=YQ.out;omega);clear hm;go_wp2
        go_round
        case rel=>exact ⟨m,rfl,Qb⟩
        case measure=>simpa [intOf] using Qs.out
     ·have hx:((c.toNat:Int)==37)=false:=by rw [yf];exact fun e=>h37 (UInt8.toNat_inj.1 (Int.ofNat_inj.1 e))
      have XD:((c.toNat:Int) != 37)=true:=by simp only [bne,hx,yj]
      have Qi:=yb (HJ.out.trans (Zr.out h37 HS.out));clear h37;generalize c.toNat=x at *;go_wp2_with (go_at_call 67;refine (Qj.out _).mono ?_;rintro e w' ⟨rfl,rfl⟩)
      go_ret;exact ⟨by rw [Qi.out];rfl,rfl⟩
    ·have h37:c≠37:=fun e=>by have:=HS.out;rw [e] at this;exact absurd this (by decide)
     have Qi:=yb (HJ.out.trans (HG.out false false (by rw [zbi,yh h37,yg HS.out])));clear h37;generalize c.toNat=x at *;go_wp2_with (go_at_call 67;refine (Qj.out _).mono ?_;rintro e w' ⟨rfl,rfl⟩)
     go_round
     case rel=>exact ⟨j+1,by go_num,Qi⟩
     case measure=>simpa [intOf] using HM.out
   ·have YO:decide ((j:Int)<bs.length)=false:=ye (by omega)
    have Qi:=yb (HJ.out.trans (zhs (by omega)));have Zf:decide (j<bs.length)=false:=ye hj;clear hj HC;go_wp2;go_ret;exact ⟨by rw [Qi.out];rfl,rfl⟩
theorem zaH {fn:Func} {t u v x:Tmp} (h:fn.results=#[.tmp t,.tmp u,.tmp v,.tmp x]) (tmps:Array Value) (P:Program) (w:World) :
  (results fn tmps).run P w=.ok (.tuple #[tmps.getD t undef,tmps.getD u undef,tmps.getD v undef,tmps.getD x undef]) w:=by
 simp [results,h]
def escR (yq:Bool) (k:Nat):Option (List UInt8×Nat)->Value
 | none=>.tuple #[.int .u8 0,.int .i64 0,.bool false,.int .i64 (zbf yq)]
 | some ([],m)=>.tuple #[.int .u8 0,.int .i64 ((k+m:Nat):Int),.bool false,.int .i64 0]
 | some (c::_,m)=>.tuple #[.int .u8 c.toNat,.int .i64 ((k+m:Nat):Int),.bool true,.int .i64 0]
def zd2 (yq:Bool) (k:Nat) (V:Option (List UInt8×Nat)) (w:World) (e:Ending) (w':World):Prop:=e=.returned (escR yq k V)/\w=w'
theorem zet {yq:Bool} {k:Nat} {V:Option (List UInt8×Nat)} {N j:Nat} {n:Int} (hV:V=some ([UInt8.ofNat N],j)) (hn:n=((k+j:Nat):Int)) (w:World) :
  zd2 yq k V w (.returned (.tuple #[.int .u8 ((N:Int) % 256),.int .i64 n,.bool true,.int .i64 0])) w:=by
 subst hV;subst hn;refine ⟨?_,rfl⟩;rw [show (N:Int) % 256=((UInt8.ofNat N).toNat:Int) by rw [UInt8.toNat_ofNat'];omega];rfl
theorem zgw {yq:Bool} {k:Nat} {V:Option (List UInt8×Nat)} {er:Int} (hV:V=none) (he:zbf yq=er) (w:World) :
  zd2 yq k V w (.returned (.tuple #[.int .u8 0,.int .i64 0,.bool false,.int .i64 er])) w:=by
 subst hV;subst he;exact ⟨rfl,rfl⟩
theorem zej {yq:Bool} {k:Nat} {V:Option (List UInt8×Nat)} {j:Nat} {n:Int} (hV:V=some ([],j)) (hn:n=((k+j:Nat):Int)) (w:World) :
  zd2 yq k V w (.returned (.tuple #[.int .u8 0,.int .i64 n,.bool false,.int .i64 0])) w:=by
 subst hV;subst hn;exact ⟨rfl,rfl⟩
theorem zdk {yq:Bool} {k:Nat} {V:Option (List UInt8×Nat)} {c:UInt8} {x n:Int} (hV:V=some ([c],1)) (hx:x=c.toNat) (hn:n=((k+1:Nat):Int)) (w:World) :
  zd2 yq k V w (.returned (.tuple #[.int .u8 x,.int .i64 n,.bool true,.int .i64 0])) w:=by
 subst hV;subst hx;subst hn;exact ⟨rfl,rfl⟩
theorem zaw {c d:UInt8} (h:c≠d) (n:Int) (hn:n=(d.toNat:Int)):((c.toNat:Int)==n)=false:=by
 rw [yf];subst hn;exact fun e=>h (UInt8.toNat_inj.1 (Int.ofNat_inj.1 e))
theorem zcw {w:World} {b off cap:Nat} {n:Nat} (k:Nat) (yq:Bool) (hk:k<n) (hn:n<=400000) (x y:UInt8) (V:Option (List UInt8×Nat))
  (hc:w.cell? ⟨b,off+k,none⟩=some (.int .u8 x.toNat)) (hV:V=some ([y],1))
  (hx:(x=110/\y=10)\/(x=114/\y=13)\/(x=116/\y=9)\/(x=98/\y=8)\/(x=102/\y=12)) :
  Calls Tryz.prog 146 #[.slice (some ⟨b,off,none⟩) n cap,.int .i64 k,.bool yq] w (zd2 yq k V w):=by
 have HV:=yb hV;have Zc:decide ((n:Int)<=k)=false:=ye (by omega);have YS:decide (n<=k)=false:=ye (by omega);have Xn:(k:Int)<n:=by omega
 clear hV;rcases hx with ⟨rfl,rfl⟩|⟨rfl,rfl⟩|⟨rfl,rfl⟩|⟨rfl,rfl⟩|⟨rfl,rfl⟩
 ·rw [show ((110:UInt8).toNat:Int)=110 from rfl] at hc
  go_enter Tryz.func146,Tryz.ntmps146
  go_wp2
  (try simp only [Exit.inBlock,Exit.then]);refine yi (zaH rfl _ _ _) rfl ?_
  exact zdk HV.out rfl rfl _
 ·rw [show ((114:UInt8).toNat:Int)=114 from rfl] at hc
  go_enter Tryz.func146,Tryz.ntmps146
  go_wp2
  (try simp only [Exit.inBlock,Exit.then]);refine yi (zaH rfl _ _ _) rfl ?_
  exact zdk HV.out rfl rfl _
 ·rw [show ((116:UInt8).toNat:Int)=116 from rfl] at hc
  go_enter Tryz.func146,Tryz.ntmps146
  go_wp2
  (try simp only [Exit.inBlock,Exit.then]);refine yi (zaH rfl _ _ _) rfl ?_
  exact zdk HV.out rfl rfl _
 ·rw [show ((98:UInt8).toNat:Int)=98 from rfl] at hc
  go_enter Tryz.func146,Tryz.ntmps146
  go_wp2
  (try simp only [Exit.inBlock,Exit.then]);refine yi (zaH rfl _ _ _) rfl ?_
  exact zdk HV.out rfl rfl _
 ·rw [show ((102:UInt8).toNat:Int)=102 from rfl] at hc
  go_enter Tryz.func146,Tryz.ntmps146
  go_wp2
  (try simp only [Exit.inBlock,Exit.then]);refine yi (zaH rfl _ _ _) rfl ?_
  exact zdk HV.out rfl rfl _
theorem rescape_any {w:World} {a:Option Addr} {cap:Nat} {bs:List UInt8} (hr:Row w 1 a bs.length cap (bs.map u8C)) (hn:bs.length<=400000) (k:Nat) (yq:Bool) :
  Calls Tryz.prog 146 #[.slice a bs.length cap,.int .i64 k,.bool yq] w (zd2 yq k (escV yq (bs.drop k)) w):=by
 obtain ⟨V,hV⟩:∃V,V=escV yq (bs.drop k):=⟨_,rfl⟩;rw [<-hV]
 by_cases hk:k<bs.length
 case neg =>
  rw [zbm hk] at hV;have HV:=yb (show V=none from hV);have Zc:decide ((bs.length:Int)<=k)=true:=yd (by omega);have YS:decide (bs.length<=k)=true:=yd (by omega);clear hV hr hk;go_enter Tryz.func146,Tryz.ntmps146
  go_wp2_with (go_at_call 145;refine (zhJ _ _).mono ?_;rintro e w' ⟨rfl,rfl⟩)
  (try simp only [Exit.inBlock,Exit.then]);refine yi (zaH rfl _ _ _) rfl ?_
  exact zgw HV.out rfl _
 obtain ⟨b,off,rfl,-,hc⟩:=hr.at 0 k hk;unfold u8C at hc;have Qn:=hc k hk;rw [zay hk] at hV;obtain ⟨c,Qa⟩:∃c,bs.getD k 0=c:=⟨_,rfl⟩;rw [Qa] at Qn hV
 by_cases hl:c=110\/c=114\/c=116\/c=98\/c=102
 ·rcases hl with rfl|rfl|rfl|rfl|rfl
  ·exact zcw k yq hk hn 110 10 V Qn (hV.trans rfl) (by simp)
  ·exact zcw k yq hk hn 114 13 V Qn (hV.trans rfl) (by simp)
  ·exact zcw k yq hk hn 116 9 V Qn (hV.trans rfl) (by simp)
  ·exact zcw k yq hk hn 98 8 V Qn (hV.trans rfl) (by simp)
  ·exact zcw k yq hk hn 102 12 V Qn (hV.trans rfl) (by simp)
 have n1:c≠110:=fun e=>hl (by simp [e]);have n2:c≠114:=fun e=>hl (by simp [e]);have n3:c≠116:=fun e=>hl (by simp [e]);have n4:c≠98:=fun e=>hl (by simp [e]);have n5:c≠102:=fun e=>hl (by simp [e]);rw [zfw _ _ _ n1 n2 n3 n4 n5] at hV;have e1:=zaw n1 110 rfl;have e2:=zaw n2 114 rfl;have e3:=zaw n3 116 rfl;have e4:=zaw n4 98 rfl;have e5:=zaw n5 102 rfl;have Zc:decide ((bs.length:Int)<=k)=false:=ye (by omega);have YS:decide (bs.length<=k)=false:=ye (by omega);have Xn:(k:Int)<bs.length:=by omega
 have YD:k<=399999:=by omega
 have Z8:(k:Int)<=399999:=by omega
 clear hl n1 n2 n3 n4 n5 hr
 by_cases hoc:isOc c=true
 ·rw [yg hoc,octV_go,Option.map_map] at hV
  have Ym:=zco.1 hoc;have e6:((c.toNat:Int)==10)=false:=by rw [yf];omega
  have e7:((c.toNat:Int)==13)=false:=by rw [yf];omega
  have d1:decide ((c.toNat:Int)<48)=false:=ye (by omega);have d2:decide ((55:Int)<c.toNat)=false:=ye (by omega)
  have HG:=yb (show V=(zc8 yq 3 0 (bs.drop (k+0))).map fun x=>([UInt8.ofNat x.1],0+x.2) by
   rw [hV,show bs.drop (k+0)=c::bs.drop (k+1) by rw [Nat.add_zero,zay hk,Qa],zc8,yg hoc,Option.map_map]
   congr 1
   ·funext x;simp [Function.comp]
   ·rw [show 8*0+(c.toNat-48)=c.toNat-48 from by omega])
  have HC:=yb hc;clear hV hoc Ym Qa hc;generalize c.toNat=x at *;go_enter Tryz.func146,Tryz.ntmps146
  go_wp2;clear Qn e1 e2 e3 e4 e5 e6 e7 d1 d2 Zc
  go_loop [11,12] (fun n i=>∃(j N:Nat),j<=3/\n=.int .i64 N/\i=.int .i64 j/\N+1<=8 ^ j/\Hid (V=(zc8 yq (3-j) N (bs.drop (k+j))).map fun x=>([UInt8.ofNat x.1],j+x.2))) (fun _ i=>3-(intOf i).toNat)
  case atStart=>exact ⟨0,0,by omega,by go_num,by go_num,by omega,HG⟩
  case round =>
   obtain ⟨j,N,hj,rfl,rfl,hN,HJ⟩:=hrel
   have XE:N<=511:=by
    have:j=0\/j=1\/j=2\/j=3:=by omega
    rcases this with rfl|rfl|rfl|rfl<;>omega
   by_cases hj3:j<3
   ·have Zf:decide ((j:Int)<3)=true:=yd (by omega)
    obtain ⟨m,hm⟩:∃m,3-j=m+1:=⟨2-j,by omega⟩;have hg:=HJ.out;rw [hm] at hg
    by_cases hin:k+j<bs.length
    ·have QT:=HC.out (k+j) hin
     rw [zay hin,zc8] at hg;have Q5:decide ((k:Int)+j<bs.length)=true:=yd (by omega);have Xo:(k:Int)+j<bs.length:=by omega
     have Xp:decide ((bs.length:Int)<=(k:Int)+j)=false:=ye (by omega)
     by_cases hd:isOc (bs.getD (k+j) 0)=true
     ·have Zd:=zco.1 hd
      rw [yg hd,Option.map_map] at hg;have d1:decide ((48:Int)<=(bs.getD (k+j) 0).toNat)=true:=yd (by omega);have d2:decide (((bs.getD (k+j) 0).toNat:Int)<=55)=true:=yd (by omega)
      have Qo:=yb (show V=(zc8 yq (3-(j+1)) (8*N+((bs.getD (k+j) 0).toNat-48)) (bs.drop (k+(j+1)))).map fun x=>([UInt8.ofNat x.1],(j+1)+x.2) by
       rw [hg,show 3-(j+1)=m from by omega]
       congr 1
       funext x
       simp only [Function.comp];rw [show j+(x.2+1)=j+1+x.2 from by omega])
      have HB:=yb (show 8*N+((bs.getD (k+j) 0).toNat-48)+1<=8 ^ (j+1) by rw [Nat.pow_succ];omega);have HE:=yb (show 8*(N:Int)+((bs.getD (k+j) 0).toNat:Int)-48=((8*N+((bs.getD (k+j) 0).toNat-48):Nat):Int) by omega);have YT:=yb hj3;clear hg hm hd HJ;generalize (bs.getD (k+j) 0).toNat=y at *;go_wp2
      go_round
      case rel=>exact ⟨j+1,8*N+(y-48),YT.out,by rw [<-HE.out],by go_num,HB.out,Qo⟩
      case measure=>have:=YT.out;simp [intOf];omega
     ·rw [yh hd,Option.map_some] at hg
      have Qo:=yb (show V=some ([UInt8.ofNat N],j) from hg);have Zd:¬(48<=(bs.getD (k+j) 0).toNat/\(bs.getD (k+j) 0).toNat<=55):=fun e=>hd (zco.2 e);clear hg hm hd HJ;generalize (bs.getD (k+j) 0).toNat=y at *
      by_cases hy:(48:Int)<=y
      ·have d1:decide ((48:Int)<=y)=true:=yd hy
       have d2:decide ((y:Int)<=55)=false:=ye (by omega);clear Zd;go_wp2
       (try simp only [Exit.inBlock,Exit.then]);refine yi (zaH rfl _ _ _) rfl ?_
       exact zet Qo.out rfl _
      ·have d1:decide ((48:Int)<=y)=false:=ye hy
       clear Zd hy;go_wp2
       (try simp only [Exit.inBlock,Exit.then]);refine yi (zaH rfl _ _ _) rfl ?_
       exact zet Qo.out rfl _
    ·rw [zbm hin,zc8] at hg
     have Q5:decide ((k:Int)+j<bs.length)=false:=ye (by omega);have Xp:decide ((bs.length:Int)<=(k:Int)+j)=true:=yd (by omega);have Qo:=yb hg;clear hg hm HJ hin
     cases yq
     ·go_wp2
      (try simp only [Exit.inBlock,Exit.then]);refine yi (zaH rfl _ _ _) rfl ?_
      exact zgw Qo.out rfl _
     ·go_wp2
      (try simp only [Exit.inBlock,Exit.then]);refine yi (zaH rfl _ _ _) rfl ?_
      exact zet Qo.out rfl _
   ·obtain rfl:j=3:=by omega
    have hg:=HJ.out;rw [Nat.sub_self,zc8,Option.map_some] at hg;have Qo:=yb (show V=some ([UInt8.ofNat N],3) from hg);clear hg HJ;go_wp2
    (try simp only [Exit.inBlock,Exit.then]);refine yi (zaH rfl _ _ _) rfl ?_
    exact zet Qo.out rfl _
 ·rw [yh hoc] at hV
  by_cases h10:c=10
  ·subst h10
   have HV:=yb (show V=some ([],1) from hV);clear hV hc Qa hoc;go_enter Tryz.func146,Tryz.ntmps146
   go_wp2
   (try simp only [Exit.inBlock,Exit.then]);refine yi (zaH rfl _ _ _) rfl ?_
   exact zej HV.out rfl _
  ·rw [yh h10] at hV
   have e6:=zaw h10 10 rfl
   by_cases h13:c=13
   ·subst h13
    rw [yg rfl] at hV
    by_cases hk3:k+1<bs.length
    ·rw [zay hk3] at hV
     have YU:=hc (k+1) hk3;have Q5:decide ((bs.length:Int)<=(k:Int)+1)=false:=ye (by omega);have Yn:decide ((k:Int)+1<bs.length)=true:=yd (by omega);have Xo:(k:Int)+1<bs.length:=by omega
     clear hc Qa hoc h10
     by_cases hd:bs.getD (k+1) 0=10
     ·have HV:=yb (show V=some ([],2) by rw [hV,hd];rfl)
      rw [hd] at YU;rw [show ((10:UInt8).toNat:Int)=10 from rfl] at YU;clear hV hd;go_enter Tryz.func146,Tryz.ntmps146
      go_wp2
      (try simp only [Exit.inBlock,Exit.then]);refine yi (zaH rfl _ _ _) rfl ?_
      exact zej HV.out rfl _
     ·have HV:=yb (show V=some ([],1) by rw [hV];show (some (if bs.getD (k+1) 0=10 then 1 else 0)).map _=_;rw [yh hd];rfl)
      have e8:=zaw hd 10 rfl;clear hV hd;generalize (bs.getD (k+1) 0).toNat=y at *;go_enter Tryz.func146,Tryz.ntmps146
      go_wp2
      (try simp only [Exit.inBlock,Exit.then]);refine yi (zaH rfl _ _ _) rfl ?_
      exact zej HV.out rfl _
    ·rw [zbm hk3] at hV
     have Q5:decide ((bs.length:Int)<=(k:Int)+1)=true:=yd (by omega);have Yn:decide ((k:Int)+1<bs.length)=false:=ye (by omega);have HV:=yb hV;clear hV hc Qa hoc h10 hk3
     cases yq
     ·go_enter Tryz.func146,Tryz.ntmps146
      go_wp2
      (try simp only [Exit.inBlock,Exit.then]);refine yi (zaH rfl _ _ _) rfl ?_
      exact zgw HV.out rfl _
     ·go_enter Tryz.func146,Tryz.ntmps146
      go_wp2
      (try simp only [Exit.inBlock,Exit.then]);refine yi (zaH rfl _ _ _) rfl ?_
      exact zej HV.out rfl _
   ·rw [yh h13] at hV
    have e7:=zaw h13 13 rfl;have HV:=yb hV;have Zd:¬(48<=c.toNat/\c.toNat<=55):=fun e=>hoc (zco.2 e);clear hV hoc h10 h13 Qa hc
    by_cases hy:(c.toNat:Int)<48
    ·have d1:decide ((c.toNat:Int)<48)=true:=yd hy
     clear Zd hy;obtain ⟨x,hx⟩:∃x,x=c.toNat:=⟨_,rfl⟩;rw [<-hx] at Qn e1 e2 e3 e4 e5 e6 e7 d1;have HX:=yb hx;clear hx;go_enter Tryz.func146,Tryz.ntmps146
     go_wp2
     (try simp only [Exit.inBlock,Exit.then]);refine yi (zaH rfl _ _ _) rfl ?_
     exact zdk HV.out (by rw [HX.out]) rfl _
    ·have d1:decide ((c.toNat:Int)<48)=false:=ye hy
     have d2:decide ((55:Int)<c.toNat)=true:=yd (by omega);clear Zd hy;obtain ⟨x,hx⟩:∃x,x=c.toNat:=⟨_,rfl⟩;rw [<-hx] at Qn e1 e2 e3 e4 e5 e6 e7 d1 d2;have HX:=yb hx;clear hx;go_enter Tryz.func146,Tryz.ntmps146
     go_wp2
     (try simp only [Exit.inBlock,Exit.then]);refine yi (zaH rfl _ _ _) rfl ?_
     exact zdk HV.out (by rw [HX.out]) rfl _
end Go.Proofs.YtcmoehknppjkiaaGreatDoor
