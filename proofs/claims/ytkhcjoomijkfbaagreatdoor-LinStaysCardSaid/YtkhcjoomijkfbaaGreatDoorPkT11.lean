/-
  Our texts ZnGet to ZnSym5, in one.
-/
import Derived.Test.YtkhcjoomijkfbaaGreatDoorPkT10
import Derived.Test.YtkhcjoomijkfbaaGreatDoorProg
import Derived.Deep.RegionHeld3
import Derived.BigQuiet
import Derived.Deep.QuietTactic
set_option maxRecDepth 8000
set_option maxHeartbeats 8000000
namespace Go.Proofs.YtkhcjoomijkfbaaGreatDoor.Z
open Go.RowKit
def zbi (bs:List UInt8) (high:Bool) (i:Nat):Bool:=(bs.getD (i / 8) 0).toNat / 2 ^ zhD i high % 2==1
def getV (f:Nat→Bool) (high:Bool) (n:Nat):Nat→Nat
 | 0=>0
 | k+1=>getV f high n k+if f k then 2 ^ zde k n high else 0
theorem zhB (f:Nat→Bool) (n:Nat):∀k,getV f false n k<2 ^ k
 | 0=>by simp [getV]
 | k + 1 => by
   have:=zhB f n k
   simp only [getV,zde,Nat.pow_succ]
   split<;>simp<;>omega
theorem zgl (f:Nat→Bool) (n:Nat):∀k,k≤n→getV f true n k % 2 ^ (n-k)=0∧getV f true n k+2 ^ (n-k)≤2 ^ n
 | 0,_=>by simp [getV]
 | k + 1, h => by
   obtain ⟨h1,h2⟩:=zgl f n k (by omega)
   have e:n-k=(n-(k+1))+1:=by omega
   have e2:n-1-k=n-(k+1):=by omega
   rw [e,Nat.pow_succ] at h1 h2
   have hp:0<2 ^ (n-(k+1)):=Nat.pow_pos (by omega)
   have hd:2 ^ (n-(k+1)) ∣ getV f true n k:=Nat.dvd_trans (Nat.dvd_mul_right _ 2) (Nat.dvd_of_mod_eq_zero h1)
   simp only [getV,zde,if_true,e2]
   generalize 2 ^ (n-(k+1))=p at *
   split
   · exact ⟨Nat.mod_eq_zero_of_dvd ((Nat.dvd_add_right hd).2 (Nat.dvd_refl _)),by omega⟩
   · exact ⟨Nat.mod_eq_zero_of_dvd (by simpa using hd),by omega⟩
theorem zhE (f:Nat→Bool) (high:Bool) (n k:Nat) (h:k≤n):getV f high n k<2 ^ n:=by
 cases high
 · exact Nat.lt_of_lt_of_le (zhB f n k) (Nat.pow_le_pow_right (by omega) h)
 · have:=(zgl f n k h).2
   have hp:0<2 ^ (n-k):=Nat.pow_pos (by omega)
   omega
theorem getV_or (f:Nat→Bool) (high:Bool) (n k:Nat) (h:k<n):getV f high n k ||| 2 ^ zde k n high=getV f high n k+2 ^ zde k n high:=by
 cases high
 · have hl:=zhB f n k
   simp only [zde]
   rw [Nat.or_comm,if_neg (by simp),nat_join k _ _ (Nat.mod_self _) hl];omega
 · obtain ⟨h1, h2⟩ := zgl f n k (by omega)
   have e:n-k=(n-1-k)+1:=by omega
   rw [e] at h1
   simp only [zde,if_true]
   exact nat_join (n-1-k+1) _ _ h1 (Nat.pow_lt_pow_right (by omega) (by omega))
theorem zh2 {P:Program} {f:FuncId} {args:Array Value} {w:World} {n:Nat} {v:Value}
   (h:Calls P f args (w.drewN n) fun e w'=>e=.returned v∧w.drewN n=w'):Calls P f args (w.drewN n) fun e w''=>e=.returned v∧∃m,w''=w.drewN m :=
 h.mono fun _ _ ⟨he,hm⟩=>⟨he,n,hm.symm⟩
theorem _root_.Go.Proofs.YtkhcjoomijkfbaaGreatDoor.Row.kept {w w':World} {r sz:Nat} {a:Option Addr} {n cap:Nat} {xs:List Value} (h:Row w sz a n cap xs) (hg:w.grownBy w' (some r)) (hne:∀x,a=some x→x.block≠r):Row w' sz a n cap xs:=by
 obtain ⟨h1,h2,h3,h4,h5⟩:=h
 refine ⟨h1,h2,h3,h4,fun hn=>?_⟩
 obtain ⟨b,off,ha,hlt,hc⟩:=h5 hn
 exact ⟨b,off,ha,Nat.lt_of_lt_of_le hlt hg.size,fun j u hj=>hg.cell (hc j u hj) (by have:=hne _ ha;simpa using this)⟩
theorem pow32 {n:Nat} (h:n≤32):2 ^ n≤4294967296:=Nat.pow_le_pow_right (n:=2) (by omega) h
theorem or_pow (g t:Nat) (hg:g<4294967296) (ht:t<32) (h:g ||| 2 ^ t=g+2 ^ t):bits .or .u32 (g:Int) ((2:Int) ^ t % 4294967296)=((g+2 ^ t:Nat):Int):=by
 have hp:2 ^ t<4294967296:=Nat.lt_of_lt_of_le (Nat.pow_lt_pow_right (by omega) ht) (by omega)
 have e:(2:Int) ^ t % 4294967296=((2 ^ t:Nat):Int):=by
   have e2:(2:Int) ^ t=((2 ^ t:Nat):Int):=by simp
   rw [e2]
   generalize 2 ^ t=q at *
   omega
 rw [e,u32_or_nat _ _ hg hp,h]
theorem rbit_test (x s:Nat) (hx:x<256) (hs:s<8):bits .and .u8 (x:Int) ((2 ^ s:Nat):Int)=if x / 2 ^ s % 2==1 then ((2 ^ s:Nat):Int) else 0:=by
 have hp:2 ^ s<256:=Nat.lt_of_lt_of_le (Nat.pow_lt_pow_right (by omega) hs) (by omega)
 rw [u8_and_nat x (2 ^ s) hx hp,nat_bit]
 have hm:x / 2 ^ s % 2=0∨x / 2 ^ s % 2=1:=by omega
 rcases hm with h|h<;>simp [h]
theorem get_ok (r n:Nat) (bs:List UInt8) (high:Bool) (at_:Nat) (w:World) (h:IsRd w r bs high at_) (hn:n≤32) (hle2:at_+n≤8 * bs.length) :
   Calls Tryz.prog 207 #[.pointer (some ⟨r,0,none⟩),.int .i64 n] w fun e w'=>e=.returned (.tuple #[.int .u32 (getV (fun k=>zbi bs high (at_+k)) high n n:Nat),.int .i64 0])∧IsRd w' r bs high (at_+n)∧w.grownBy w' (some r):=by
 have hdead:=zda r bs high at_ w h
 have hleft:=left_any r bs high at_ w h
 obtain ⟨⟨a,cap,hb,hr,hne⟩,hle,hsm⟩:=h
 have HD:=Lib.hid hdead
 have HL:=Lib.hid hleft
 have HB:=Lib.hid hb
 have HR:=Lib.hid hr
 have HNL:=Lib.hid hne
 have HN:=Lib.hid (show ∀x,a=some x→x.block≠r from fun x hx=>Nat.ne_of_lt (hne x hx))
 have hN:decide (8 * bs.length-at_<n)=false:=by simp;omega
 have hN1:decide ((n:Int)<0)=false:=by simp
 have hN2:decide (32<(n:Int))=false:=by simp;omega
 clear hdead hleft hb hr hne
 go_enter Tryz.func207,Tryz.ntmps207
 go_wp2_with (first
   | (go_at_call 184;refine HD.out.mono ?_;rintro e w' ⟨rfl,rfl⟩)
   | (go_at_call 227;refine HL.out.mono ?_;rintro e w' ⟨rfl,q1,rfl⟩))
 go_loopw [6, 24] (fun x i wr => ∃ k : Nat, k ≤ n ∧ i = .int .i64 k ∧ x = .int .u32 (getV (fun k => zbi bs high (at_ + k)) high n k : Nat) ∧
     Hid (wr.heap[r]?=some (.cells (fl 4 (fun i=>if i=0 then .int .i64 ((at_+k:Nat):Int) else if i=1 then .bool high else if i=2 then .bool true else .slice a bs.length cap)).toArray 248 (0,0)))∧Hid (w.grownBy wr (some r))) (fun _ i _=>n-(intOf i).toNat)
 case atStart=>exact ⟨0,by omega,rfl,rfl,HB,⟨rfl,rfl,rfl,Nat.le_refl _,fun _ _ _=>rfl⟩⟩
 case round =>
   obtain ⟨k,hk,rfl,rfl,HBk,HG⟩:=hrel
   by_cases hlt:k<n
   · have h0 := zaD HBk.out 0 (by omega)
     have h1:=zaD HBk.out 1 (by omega)
     have h3:=zaD HBk.out 3 (by omega)
     have hfr:=zbN HBk.out 0
     simp only [if_pos,Nat.reduceEqDiff,if_false] at h0 h1 h3
     obtain ⟨b,off,rfl,hblt,hc⟩:=HR.out.at 0 ((at_+k) / 8) (by omega)
     have hck:=hc ((at_+k) / 8) (by omega)
     have hbr:b≠r:=by have:=HN.out ⟨b,off,none⟩ rfl;simpa using this
     have hck2:wr.cell? ⟨b,off+(at_+k) / 8,none⟩=some (.int .u8 ((bs.getD ((at_+k) / 8) 0).toNat:Int)):=HG.out.cell hck (by simpa using hbr)
     obtain ⟨x,hx⟩:∃x,x=(bs.getD ((at_+k) / 8) 0).toNat:=⟨_,rfl⟩
     rw [←hx] at hck2
     have hx2:x<256:=by rw [hx];exact (bs.getD ((at_+k) / 8) 0).toNat_lt
     have hbt:=rbit_test x (zhD (at_+k) high) hx2 (maskE_lt _ _)
     have hbA:zbi bs high (at_+k)=(x / 2 ^ zhD (at_+k) high % 2==1):=by unfold zbi;rw [←hx]
     have HX:=Lib.hid hx
     have HBA:=Lib.hid hbA
     clear hc hck hx hbA
     have hpos:0<2 ^ zhD (at_+k) high:=Nat.pow_pos (by omega)
     by_cases hbit:(x / 2 ^ zhD (at_+k) high % 2==1)=true
     · rw [if_pos hbit] at hbt
       have htest:(bits BinOp.and IntKind.u8 (x:Int) (maskV (at_+k) high) != 0)=true:=by
         unfold maskV;rw [hbt];rw [bne_iff_ne];omega
       have HBT:=Lib.hid (show zbi bs high (at_+k)=true by rw [HBA.out];exact hbit)
       clear hbt hbit hpos
       have hor:=Lib.hid (getV_or (fun k=>zbi bs high (at_+k)) high n k hlt)
       have hgl:=Lib.hid <| zhE (fun k=>zbi bs high (at_+k)) high n k hk
       have ht32:zde k n high<32:=by unfold zde;split<;>omega
       go_wp2
       go_quiet ((go_at_call 228;refine zh2 (mask_any r 0 (at_+k) high _ (by simpa using h0) (by simpa using h1))))
       go_wp2_with (go_at_call 229;refine (turn_any r 0 k n high _ (by simpa using h1) hlt hn).mono ?_;rintro e w' ⟨rfl,rfl⟩)
       go_roundw
       case rel =>
         refine ⟨k+1,by omega,by go_num,?_,?_,?_⟩
         · have e : getV (fun k => zbi bs high (at_ + k)) high n (k + 1) = getV (fun k => zbi bs high (at_ + k)) high n k + 2 ^ zde k n high := by
             simp [getV,HBT.out]
           rw [e,or_pow _ _ (Nat.lt_of_lt_of_le hgl.out (pow32 hn)) ht32 hor.out]
         · refine Lib.hid ?_
           have hs:=zby (w:=wr.drewN nq) HBk.out 0 (Value.int IntKind.i64 ((at_:Int)+k+1))
           rw [hs]
           exact congrArg (fun x => some (Obj.cells (List.toArray x) _ _)) (zax fun i _ => by
             by_cases hi:i=0
             · subst hi;simp;omega
             · simp [hi])
         · exact Lib.hid (zbG (zb1 HG.out nq) _)
       case measure=>simp [intOf];omega
     · rw [if_neg hbit] at hbt
       have htest:(bits BinOp.and IntKind.u8 (x:Int) (maskV (at_+k) high) != 0)=false:=by
         unfold maskV;rw [hbt];rfl
       have HBT:=Lib.hid (show zbi bs high (at_+k)=false by rw [HBA.out];simpa using hbit)
       clear hbt hbit hpos
       go_wp2
       go_quiet ((go_at_call 228;refine zh2 (mask_any r 0 (at_+k) high _ (by simpa using h0) (by simpa using h1))))
       go_wp2
       go_roundw
       case rel =>
         refine ⟨k+1,by omega,by go_num,?_,?_,?_⟩
         · have : getV (fun k => zbi bs high (at_ + k)) high n (k + 1) = getV (fun k => zbi bs high (at_ + k)) high n k := by
             simp [getV,HBT.out]
           rw [this]
         · refine Lib.hid ?_
           have hs:=zby (w:=wr.drewN nq) HBk.out 0 (Value.int IntKind.i64 ((at_:Int)+k+1))
           rw [hs]
           exact congrArg (fun x => some (Obj.cells (List.toArray x) _ _)) (zax fun i _ => by
             by_cases hi:i=0
             · subst hi;simp;omega
             · simp [hi])
         · exact Lib.hid (zbG (zb1 HG.out nq) _)
       case measure=>simp [intOf];omega
   · obtain rfl : k = n := by omega
     go_wp2
     go_ret2
     exact ⟨rfl,⟨⟨a,cap,HBk.out,HR.out.kept HG.out HN.out,HNL.out⟩,by omega,hsm⟩,HG.out⟩
def cmpI (x y:Int):Int:=if x<y then -1 else if y<x then 1 else 0
theorem ze2 (x : Int) (w : World) : Calls Tryz.prog 245 #[.int .i64 x] w fun e w' => e = .returned (.bool false) ∧ w = w' := by
 go_enter Tryz.func245,Tryz.ntmps245
 go_wp2
 go_ret
 exact ⟨zbH (by simp),rfl⟩
theorem cmpI_any (x y : Int) (w : World) : Calls Tryz.prog 236 #[.int .i64 x, .int .i64 y] w fun e w' => e = .returned (.int .i64 (cmpI x y)) ∧ w = w' := by
 have hv:cmpI x y=if x<y then -1 else if y<x then 1 else 0:=rfl
 have HV:=Lib.hid hv
 clear hv
 by_cases h1:x<y
 · go_enter Tryz.func236,Tryz.ntmps236
   go_wp2_with (go_at_call 245;refine (ze2 _ _).mono ?_;rintro e w' ⟨rfl,rfl⟩)
   go_ret
   exact ⟨zan (by rw [HV.out,if_pos h1]),rfl⟩
 · by_cases h2:y<x
   · go_enter Tryz.func236,Tryz.ntmps236
     go_wp2_with (go_at_call 245;refine (ze2 _ _).mono ?_;rintro e w' ⟨rfl,rfl⟩)
     go_ret
     exact ⟨zan (by rw [HV.out,if_neg (by omega),if_pos h2]),rfl⟩
   · go_enter Tryz.func236,Tryz.ntmps236
     go_wp2_with (go_at_call 245;refine (ze2 _ _).mono ?_;rintro e w' ⟨rfl,rfl⟩)
     go_ret
     exact ⟨zan (by rw [HV.out,if_neg (by omega),if_neg (by omega)]),rfl⟩
end Go.Proofs.YtkhcjoomijkfbaaGreatDoor.Z
namespace Go.Proofs.YtkhcjoomijkfbaaGreatDoor.Z
open Go.RowKit Go.Sort
def cfL (l:List Int) (x y:Int):Int:=cmpI (l.getD x.toNat 0) (l.getD y.toNat 0)
theorem cmpNew_any (bx:Nat) (a:Option Addr) (n cap:Nat) (l:List Int) (x y:Nat) (w:World) (hb:w.cell? ⟨bx,0,none⟩=some (.slice a n cap)) (hr:Row w 1 a n cap (l.map (Value.int .i64))) (hx:x<n) (hy:y<n) :
   Calls Tryz.prog 235 #[.int .i64 x,.int .i64 y,.pointer (some ⟨bx,0,none⟩)] w fun e w'=>e=.returned (.int .i64 (cfL l x y))∧∃q,w'=w.drewN q:=by
 have hm:=hr.i64
 have hv:cfL l x y=cmpI (l.getD x 0) (l.getD y 0):=rfl
 have HV:=Lib.hid hv
 clear hv
 obtain ⟨b,off,rfl,hblt,hc⟩:=hr.at 0 x hx
 have hcx:=hc x hx
 have hcy:=hc y hy
 generalize l.getD x 0=X at *
 generalize l.getD y 0=Y at *
 clear hc hr
 go_enter Tryz.func235,Tryz.ntmps235
 go_wp2
 go_quiet ((go_at_call 236;exact zh2 (cmpI_any _ _ _)))
 go_wp2
 go_ret
 exact ⟨zan HV.out.symm,_,rfl⟩
def zgR (N:Nat):Prop :=
 ∀(cf:Int→Int→Int) (lt2:Int→Int→Bool) (D:Int→Prop) (f:FuncId) (cb:Array Value) (g cap:Nat) (rest:List Value) (d:Array Int) (w0 w:World),SWO lt2 →
   CmpQ Tryz.prog f cb (Value.int .i64) cf D w0 g→SB (Value.int .i64) w0 g 3 rest d w→(∀i,i<d.size→D d[i]!)→(∀p q,p<q→q<d.size→ltOf cf d[q]! d[p]! = lt2 d[q]! d[p]!)→d.size≤N →
   Calls Tryz.prog 234 #[.slice (some ⟨g,0,none⟩) d.size cap,.func (.func f) #[] cb] w fun e w'=>e=.returned (.tuple #[])∧∃R,SB (Value.int .i64) w0 g 3 rest R w'∧PermIn 0 d.size d R∧SortedIn lt2 0 d.size R
def tbV (L C S:Value) (l:List Int) (i:Nat):Value:=if i=0 then L else if i=1 then C else if i=18 then S else cnV l (i-2)
structure IsTb (w:World) (Bl:Nat→Prop) (p:Nat) (l:List Int):Prop where
 ex:∃aL cL aC cC aS cS srt,w.heap[p]?=some (.cells (fl 19 (tbV (.slice aL l.length cL) (.slice aC l.length cC) (.slice aS srt.length cS) l)).toArray 303 (0,0)) ∧
   Row w 1 aL l.length cL (l.map (Value.int .i64))∧Row w 1 aC l.length cC (fl l.length (cdV l l.length))∧Row w 1 aS srt.length cS (srt.map (Value.int .i64))∧SrtOf l srt ∧
   (∀x,aL=some x→Bl x.block)∧(∀x,aC=some x→Bl x.block)∧(∀x,aS=some x→Bl x.block)∧aL≠none
 room:0≤zaY l
 own:Bl p
theorem zgc (l:List Int) (N:Nat):(zar l N).Pairwise (· < ·):=by
 unfold zar
 refine List.Pairwise.map _ (R:=fun a b:Nat=>a<b) (fun a b h=>by omega) ?_
 exact List.Pairwise.filter _ List.pairwise_lt_range
theorem arr_get {xs : List Int} {i : Nat} (h : i < xs.toArray.size) : xs.toArray[i]! = xs[i]'(by simpa using h) := by
 rw [getElem!_pos xs.toArray i h];simp
theorem sym_agree (l:List Int) (N p q:Nat) (hpq:p<q) (hq:q<(zar l N).toArray.size) :
   ltOf (cfL l) (zar l N).toArray[q]! (zar l N).toArray[p]! = zc8 l (zar l N).toArray[q]! (zar l N).toArray[p]! := by
 have hp:p<(zar l N).toArray.size:=by omega
 have h:=List.pairwise_iff_getElem.1 (zgc l N) p q (by simpa using hp) (by simpa using hq) hpq
 rw [arr_get hq,arr_get hp]
 generalize (zar l N)[p]'(by simpa using hp)=x at *
 generalize (zar l N)[q]'(by simpa using hq)=y at *
 unfold ltOf cfL zc8 cmpI
 have hyx:decide (y<x)=false:=by simp;omega
 rw [hyx,Bool.and_false,Bool.or_false]
 by_cases h1:l.getD y.toNat 0<l.getD x.toNat 0
 · rw [if_pos h1];simp only [List.getD] at h1;simp [h1]
 · rw [if_neg h1]
   by_cases h2:l.getD x.toNat 0<l.getD y.toNat 0
   · rw [if_pos h2];simp only [List.getD] at h1;simp [h1]
   · rw [if_neg h2];simp only [List.getD] at h1;simp [h1]
theorem counted_lit (a:Option Addr) (n cap:Nat) (l:List Int) (w:World) (hr:Row w 1 a n cap (l.map (Value.int .i64))) (hok1:hok l=true) :
   Calls Tryz.prog 233 #[.slice a n cap] w fun e w'=>e=.returned (.agg #[.int .i64 (cn l 0),.int .i64 (cn l 1),.int .i64 (cn l 2),.int .i64 (cn l 3),.int .i64 (cn l 4),.int .i64 (cn l 5),.int .i64 (cn l 6),.int .i64 (cn l 7),.int .i64 (cn l 8),.int .i64 (cn l 9),.int .i64 (cn l 10),.int .i64 (cn l 11),.int .i64 (cn l 12),.int .i64 (cn l 13),.int .i64 (cn l 14),.int .i64 (cn l 15)])∧Below w.heap.size w w' :=
 zga a n cap l w hr hok1
theorem new_ok (N:Nat) (hst:zgR N) (a:Option Addr) (n cap:Nat) (l:List Int) (w:World) (hr:Row w 1 a n cap (l.map (Value.int .i64))) (hroom:0≤zaY l) (hN:n≤N) (ha:a≠none) :
   Calls Tryz.prog 214 #[.slice a n cap] w fun e w'=>∃p,e=.returned (.tuple #[.pointer (some ⟨p,0,none⟩),.int .i64 0])∧IsTb w' (fun b=>w.heap.size≤b∧b<w'.heap.size) p l∧Below w.heap.size w w':=by
 have hm:=hr.i64
 have hl:=hr.len1
 have hok1:=(zbd hroom).2.2.1
 have hlen:=(zbd hroom).2.1
 have hn:n≤320:=by omega
 have h1c:∀u∈l.map (Value.int .i64),u.oneCell'=true:=ints_oneCell _ _
 have HL:=Lib.hid hl
 have HR:=Lib.hid hroom
 have HOK:=Lib.hid hok1
 have HRow:=Lib.hid hr
 clear hl hroom hok1 hr
 go_enter Tryz.func214,Tryz.ntmps214
 go_wp2_with fail
 have hbx:(w.alloc (.cells #[.slice a n cap] 188)).heap[w.heap.size]?=some (.cells #[.slice a n cap] 188 (0,0)):=zac _ rfl
 have hb0:=zah w (.cells #[.slice a n cap] 188)
 have hr0:=HRow.out.mono hb0
 have hs0:=zal w (.cells #[.slice a n cap] 188)
 generalize w.alloc (.cells #[.slice a n cap] 188)=w0 at *
 refine (codes_ok a n cap l w0 hr0 HR.out).mono ?_
 rintro e w1 ⟨vC,rfl,hC1,hb1⟩
 obtain ⟨aC,cC,rfl,_,_⟩:=Row.of_owns hC1
 have hbx1:=zab hb1 hbx
 have hr1:=hr0.mono hb1
 have hbw1:=hb0.trans (hb1.mono (by omega))
 have hs1:=hb1.size
 clear hbx hr0 hb0 hb1
 have HC1:=Lib.hid (zbT hC1 (show w.heap.size≤w0.heap.size by omega))
 have HBX1:=Lib.hid hbx1
 have HR1:=Lib.hid hr1
 have HBW1:=Lib.hid hbw1
 have hbs:w.heap.size<w1.heap.size:=by omega
 clear hC1 hbx1 hr1 hbw1 hs0 hs1
 go_wp2
 have hc1:w1.cell? ⟨w.heap.size,0,none⟩=some (.slice a n cap):=by rw [cell_of_row w1 _ 0 _ _ _ HBX1.out];rfl
 go_region_held3 (fun w' => w'.cell? ⟨w.heap.size, 0, none⟩ = some (.slice a n cap)) (first | assumption | exact hc1 | exact cell?_keep (zah _ _) (by assumption)) (first
   | (go_at_call 232;refine (cloneI a n cap _ _ (HR1.out.mono (by exact Below.drew (Below.refl _ _))) h1c (by omega)).mono ?_;rintro e w2 ⟨vL,rfl,hL2,hb2,hnn⟩;obtain ⟨aL,cL,rfl,_,_⟩:=Row.of_owns hL2;have hc2:=cell?_keep hb2 (show w1.drew.cell? ⟨w.heap.size,0,none⟩=some (.slice a n cap) from hc1);have hr2:=(HR1.out.mono (show Below w1.heap.size w1 w1.drew from Below.drew (Below.refl _ _))).mono hb2)
   | (go_at_call 233;refine (counted_lit a n cap l _ (by assumption) HOK.out).mono ?_;rintro e w3 ⟨rfl,hb3⟩;have hc3:=cell?_keep hb3 hc2))
 have hb23:Below w1.heap.size w1 w3:=((Below.refl w1.heap.size w1).drew.trans hb2).trans (hb3.mono hb2.size)
 have hs3:=hb23.size
 have hLlt:∀x,aL=some x→x.block<w3.heap.size:=fun x hx=>by have:=(hL2.lt x.block (by simp [Value.ownBlock,hx])).2;have:=hb3.size;omega
 have hClt:∀x,aC=some x→x.block<w3.heap.size:=fun x hx=>by have:=(HC1.out.lt x.block (by simp [Value.ownBlock,hx])).2;omega
 have HLLT:=Lib.hid hLlt
 have HCLT:=Lib.hid hClt
 clear hLlt hClt
 have hT:(w3.alloc (.cells (fl 19 (tbV (.slice aL n cL) (.slice aC n cC) (.slice none 0 0) l)).toArray 303)).heap[w3.heap.size]?=some (.cells (fl 19 (tbV (.slice aL n cL) (.slice aC n cC) (.slice none 0 0) l)).toArray 303 (0,0)):=zac _ rfl
 have hlit:(fl 19 (tbV (.slice aL n cL) (.slice aC n cC) (.slice none 0 0) l)).toArray=#[.slice aL n cL,.slice aC n cC,.int .i64 (cn l 0),.int .i64 (cn l 1),.int .i64 (cn l 2),.int .i64 (cn l 3),.int .i64 (cn l 4),.int .i64 (cn l 5),.int .i64 (cn l 6),.int .i64 (cn l 7),.int .i64 (cn l 8),.int .i64 (cn l 9),.int .i64 (cn l 10),.int .i64 (cn l 11),.int .i64 (cn l 12),.int .i64 (cn l 13),.int .i64 (cn l 14),.int .i64 (cn l 15),.slice none 0 0]:=rfl
 rw [hlit] at hT
 have hb4:=zah w3 (.cells #[.slice aL n cL,.slice aC n cC,.int .i64 (cn l 0),.int .i64 (cn l 1),.int .i64 (cn l 2),.int .i64 (cn l 3),.int .i64 (cn l 4),.int .i64 (cn l 5),.int .i64 (cn l 6),.int .i64 (cn l 7),.int .i64 (cn l 8),.int .i64 (cn l 9),.int .i64 (cn l 10),.int .i64 (cn l 11),.int .i64 (cn l 12),.int .i64 (cn l 13),.int .i64 (cn l 14),.int .i64 (cn l 15),.slice none 0 0] 303)
 have hs4:=zal w3 (.cells #[.slice aL n cL,.slice aC n cC,.int .i64 (cn l 0),.int .i64 (cn l 1),.int .i64 (cn l 2),.int .i64 (cn l 3),.int .i64 (cn l 4),.int .i64 (cn l 5),.int .i64 (cn l 6),.int .i64 (cn l 7),.int .i64 (cn l 8),.int .i64 (cn l 9),.int .i64 (cn l 10),.int .i64 (cn l 11),.int .i64 (cn l 12),.int .i64 (cn l 13),.int .i64 (cn l 14),.int .i64 (cn l 15),.slice none 0 0] 303)
 generalize (w3.alloc (.cells #[.slice aL n cL,.slice aC n cC,.int .i64 (cn l 0),.int .i64 (cn l 1),.int .i64 (cn l 2),.int .i64 (cn l 3),.int .i64 (cn l 4),.int .i64 (cn l 5),.int .i64 (cn l 6),.int .i64 (cn l 7),.int .i64 (cn l 8),.int .i64 (cn l 9),.int .i64 (cn l 10),.int .i64 (cn l 11),.int .i64 (cn l 12),.int .i64 (cn l 13),.int .i64 (cn l 14),.int .i64 (cn l 15),.slice none 0 0] 303))=w4 at *
 rw [←hlit] at hT
 clear hlit
 have hbox:=cell?_keep hb4 hc3
 have hrow4:=(hr2.mono hb3).mono hb4
 have hL4:=zay (zay hL2 hb3) hb4
 have hC4:=zay (zay HC1.out hb23) hb4
 have hbw4:=(HBW1.out.trans (hb23.mono (by omega))).trans (hb4.mono (by omega))
 have hT1:w1.heap.size≤w3.heap.size:=hs3
 generalize w3.heap.size=T at *
 have HBOX:=Lib.hid hbox
 have HROW:=Lib.hid hrow4
 have HL4:=Lib.hid hL4
 have HC4:=Lib.hid hC4
 have HBW4:=Lib.hid hbw4
 have HT:=Lib.hid hT
 have HS4:=Lib.hid hs4
 have HNN:=Lib.hid hnn
 clear hb2 hL2 hnn hc2 hr2 hb3 hc3 hb23 hs3 hT hb4 hs4 hbox hrow4 hL4 hC4 hbw4 HC1 HBX1 HR1 HBW1 hc1
 have hbox2:=HBOX.out
 have haT:∀x,a=some x→x.block<T:=fun x hx=>Nat.lt_of_lt_of_le (HRow.out.lt (by have:=(zbd HR.out).1;have:=HL.out;omega) x hx) (by omega)
 have HAT:=Lib.hid haT
 clear haT
 have h0n:0<n:=by have:=(zbd HR.out).1;have:=HL.out;omega
 go_wp2
 go_loopw [26] (fun i wr => ∃ (k : Nat) (S : Value), k ≤ n ∧ i = .int .i64 k ∧ Hid (wr.heap[T]? = some (.cells (fl 19 (tbV (.slice aL n cL) (.slice aC n cC) S l)).toArray 303 (0, 0))) ∧
     Hid (wr.ownsRow (T+1) 3 1 S (zar l k).length ((zar l k).map (Value.int .i64)))∧Hid (Below T w4 wr)) (fun i _=>n-(intOf i).toNat)
 case atStart=>exact ⟨0,.slice none 0 0,by omega,rfl,HT,Lib.hid (World.ownsRow_nil _ _ _ _),Lib.hid (Below.refl _ _)⟩
 case round =>
   obtain ⟨k,S,hk,rfl,HTk,HSk,HBk⟩:=hrel
   by_cases hlt:k<n
   · obtain ⟨b,off,rfl,hblt,hc⟩:=(HROW.out.below HBk.out HAT.out).at 0 k hlt
     have hck:=hc k hlt
     have hkl:k<l.length:=by rw [HL.out];exact hlt
     have hcT:=zaD HTk.out 18 (by omega)
     have hfT:=zbN HTk.out 18
     have hx15:=(zbZ HOK.out) (l.getD k 0) (by simp [List.getD,hkl])
     have hsy:=zd2 l k
     obtain ⟨aS,cS,rfl,hSr,hSb⟩:=Row.of_owns HSk.out
     have hlenS:(zar l k).length≤k:=by unfold zar;rw [List.length_map];exact Nat.le_trans (List.length_filter_le _ _) (by simp)
     obtain ⟨x,hx⟩:∃x,x=l.getD k 0:=⟨_,rfl⟩
     rw [←hx] at hck hx15 hsy
     have HSY:=Lib.hid hsy
     have hszr:=HBk.out.size
     have hneS:(Value.slice aS (zar l k).length cS).ownBlock≠some T:=fun h=>by have:=(HSk.out.lt T h).1;omega
     have HNES:=Lib.hid hneS
     have HSB:=Lib.hid hSb
     clear hneS hSb
     clear hc hx hsy hSr
     have hTs:T<wr.heap.size:=(Array.getElem?_eq_some_iff.1 HTk.out).1
     unfold tbV at hcT
     simp only [Nat.reduceEqDiff,if_false,if_true] at hcT
     by_cases hp:0<x
     · go_wp2_with (at_builtin; refine zbJ ETI rfl (.tmp 37) (.tmp 39) rfl (T + 1) (Value.slice aS (zar l k).length cS) (zar l k).length _ rfl (HSk.out.alloc _) _ 1 _ _ rfl (zc2 _ _ _) (zeS rfl) (by unfold maxLen; omega) (by omega) (by have := HS4.out; rw [zal]; omega) ?_; intro v' w5 hO5 hg5 hnil5; obtain ⟨aS', cS', rfl, _, hSb'⟩ := Row.of_owns hO5; have HO5 := Lib.hid hO5; have HG5 := Lib.hid hg5; have hT5 : w5.heap[T]? = _ := (hg5.block T (by rw [zal]; omega) (fun e => HNES.out e.symm)).trans ((Below.heap_alloc wr _ T hTs).trans HTk.out); have hcT5 := zaD hT5 18 (by omega); have hfT5 := zbN hT5 18; unfold tbV at hcT5; simp only [Nat.reduceEqDiff, if_false, if_true] at hcT5; have HT5 := Lib.hid hT5; clear hO5 hg5 hnil5 hT5)
       go_roundw
       case rel =>
         refine ⟨k+1,Value.slice aS' ((zar l k).length+1) cS',by omega,by go_num,?_,?_,?_⟩
         · refine Lib.hid ?_
           rw [zby HT5.out]
           exact congrArg (fun x => some (Obj.cells (List.toArray x) _ _)) (zax fun i _ => by
             unfold tbV
             by_cases h0:i=0
             · subst h0;simp
             · by_cases h1:i=1
               · subst h1;simp
               · by_cases h18:i=18<;>simp [h0,h1,h18])
         · refine Lib.hid ?_
           rw [HSY.out,if_pos hp,List.length_append,List.map_append]
           refine zcL HO5.out (fun h=>?_) _
           have:=(HO5.out.lt T h).1
           omega
         · exact Lib.hid (((HBk.out.alloc (by omega) _).grown HG5.out (by rw [zal];omega) (fun q hq=>by have:=(HSk.out.lt q hq).1;omega)).setCell (by simp) _)
       case measure=>simp [intOf];omega
     · go_wp2
       go_roundw
       case rel =>
         refine ⟨k+1,_,by omega,by go_num,HTk,?_,HBk⟩
         rw [HSY.out,if_neg hp,List.append_nil]
         exact HSk
       case measure=>simp [intOf];omega
   · obtain rfl : k = n := by omega
     have hkl:=HL.out
     have hcT:=zaD HTk.out 18 (by omega)
     unfold tbV at hcT
     simp only [Nat.reduceEqDiff,if_false,if_true] at hcT
     have hLr:=(Row.of_own (zay HL4.out (Below.refl _ _))).2
     have HKL:=Lib.hid hkl
     clear hkl
     have done_:∀(aS:Option Addr) (cS:Nat) (R:List Int) (w6:World),w6.heap[T]?=some (.cells (fl 19 (tbV (.slice aL k cL) (.slice aC k cC) (.slice aS R.length cS) l)).toArray 303 (0,0))→Below T w4 w6→Row w6 1 aS R.length cS (R.map (Value.int .i64))→SrtOf l R→(∀x,aS=some x→T<x.block∧x.block<w6.heap.size) →
         ∃p,(Value.pointer (some ⟨T,0,none⟩))=.pointer (some ⟨p,0,none⟩)∧IsTb w6 (fun b=>w.heap.size≤b∧b<w6.heap.size) p l∧Below w.heap.size w w6:=by
       intro aS cS R w6 h1 h2 h3 h4 h5
       obtain ⟨aL',cL',eL,hrL,hbL⟩:=Row.of_owns HL4.out
       obtain ⟨aC',cC',eC,hrC,hbC⟩:=Row.of_owns HC4.out
       simp only [Value.slice.injEq] at eL eC
       obtain ⟨rfl,-,rfl⟩:=eL
       obtain ⟨rfl,-,rfl⟩:=eC
       have hkl:=HKL.out
       subst hkl
       have hsz6:T+1≤w6.heap.size:=by have:=h2.size;have:=HS4.out;omega
       refine ⟨T,rfl,⟨⟨aL,cL,aC,cC,aS,cS,R,h1,hrL.below h2 HLLT.out,hrC.below h2 HCLT.out,h3,h4,fun x hx=>?_,fun x hx=>?_,fun x hx=>?_,fun e=>?_⟩,HR.out,?_⟩,HBW4.out.trans (h2.mono (by omega))⟩
       · have h6:w1.heap.size≤x.block:=hbL x hx
         have h7:=HLLT.out x hx
         exact ⟨by omega,by omega⟩
       · have h7:=HCLT.out x hx
         exact ⟨hbC x hx,by omega⟩
       · have h6:=h5 x hx
         exact ⟨by omega,h6.2⟩
       · have:=hrL.2.2.2.1 e
         have:=hrL.2.1
         omega
       · show w.heap.size≤T∧T<w6.heap.size
         omega
     have DONE:=Lib.hid done_
     clear done_
     have hbox3:wr.cell? ⟨w.heap.size,0,none⟩=some (.slice a k cap):=zgP HBk.out (by omega) HBOX.out
     have hrowk:=HROW.out.below HBk.out HAT.out
     have HROWK:=Lib.hid hrowk
     clear hrowk
     rcases HSk.out.2 with ⟨hnil,hzero⟩|⟨g,cp,cur,hSv,hgT,hgb,hle,hcpm,hcur,htk⟩
     · subst hnil
       have hsl:zar l k=[]:=List.eq_nil_of_length_eq_zero hzero
       have HSL:=Lib.hid hsl
       have HZ:=Lib.hid hzero
       clear hsl hzero
       go_wp2_with (go_at_call 234;refine (stable_nil _ _).mono ?_;rintro e w6 ⟨rfl,rfl⟩)
       go_ret2
       have hkl:=HKL.out
       have hsrt:SrtOf l []:=srt_of HOK.out #[] (by rw [hkl,HSL.out];exact permIn_refl _ _ _) (by intro i j _ h1 h2;rw [hkl,HSL.out] at h2;simp at h2)
       obtain ⟨p,e1,e2,e3⟩:=DONE.out none 0 [] wr HTk.out HBk.out (Row.nil _ _) hsrt (fun x hx=>by cases hx)
       exact ⟨p,congrArg (fun v=>Ending.returned (.tuple #[v,.int .i64 0])) e1,e2,e3⟩
     · subst hSv
       have hsb:SB (Value.int .i64) wr g 3 (cur.toList.drop (zar l k).length) (zar l k).toArray wr:=SB.start hgb (by simpa using htk)
       have hgw:g<wr.heap.size:=(Array.getElem?_eq_some_iff.1 hgb).1
       have hC : CmpQ Tryz.prog 235 #[.pointer (some ⟨w.heap.size, 0, none⟩)] (Value.int .i64) (cfL l) (fun x => ∃ q : Nat, q < k ∧ x = (q : Int)) wr g := by
         refine ⟨fun _ _=>by kernel_rfl,fun W hG x y hx hy=>?_⟩
         obtain ⟨qx,hqx,rfl⟩:=hx
         obtain ⟨qy,hqy,rfl⟩:=hy
         exact cmpNew_any w.heap.size a k cap l qx qy W (hG.cell hbox3 (by simp;omega)) (HROWK.out.kept hG (fun x hx=>by have:=HAT.out x hx;omega)) hqx hqy
       have hstb := hst (cfL l) (zc8 l) _ 235 _ g cp _ (zar l k).toArray wr wr (zem l) hC hsb (fun i hi => by
         rw [arr_get hi]
         obtain ⟨q,h1,_,h2⟩:=zgL.1 (List.getElem_mem (by simpa using hi))
         exact ⟨q,h1,h2⟩) (fun p q h1 h2=>sym_agree l k p q h1 h2) (by
         have:(zar l k).length≤k:=by unfold zar;rw [List.length_map];exact Nat.le_trans (List.length_filter_le _ _) (by simp)
         simp;omega)
       have HSTB:=Lib.hid hstb
       clear hst hC hsb hstb hgb hcur htk
       go_wp2_with (go_at_call 234;refine HSTB.out.mono ?_;rintro e w6 ⟨rfl,R,hSB,hP,hSo⟩)
       go_ret2
       have hkl:=HKL.out
       have hRs:R.size=(zar l k).length:=by simpa using hP.1
       have hsrt:SrtOf l R.toList:=srt_of HOK.out R (by rw [hkl];simpa using hP) (by rw [hkl];simpa using hSo)
       have hTw:T<wr.heap.size:=(Array.getElem?_eq_some_iff.1 HTk.out).1
       have hT6:w6.heap[T]?=_:=(hSB.grown.block T hTw (by simp;omega)).trans HTk.out
       have hlen:R.toList.length=(zar l k).length:=by simpa using hRs
       obtain ⟨p, e1, e2, e3⟩ := DONE.out (some ⟨g, 0, none⟩) cp R.toList w6 (by rw [hT6, hlen]) (HBk.out.grown hSB.grown (by omega) (fun q hq => by cases hq; omega)) (by
         have hrow:=hSB.row (cap:=cp) (by omega) hcpm
         simpa using hrow) hsrt (fun x hx=>by cases hx;exact ⟨hgT,Nat.lt_of_lt_of_le hgw hSB.grown.size⟩)
       exact ⟨p,congrArg (fun v=>Ending.returned (.tuple #[v,.int .i64 0])) e1,e2,e3⟩
theorem new_bad (a:Option Addr) (n cap:Nat) (l:List Int) (w:World) (hr:Row w 1 a n cap (l.map (Value.int .i64))) (hroom:zaY l<0) :
   Calls Tryz.prog 214 #[.slice a n cap] w fun e w'=>e=.returned (.tuple #[.pointer none,.int .i64 13])∧Below w.heap.size w w':=by
 have hr0:=hr.mono (zah w (.cells #[.slice a n cap] 188))
 have HR0:=Lib.hid hr0
 clear hr0
 go_enter Tryz.func214,Tryz.ntmps214
 go_wp2_with (go_at_call 231;refine (codes_bad a n cap l _ HR0.out hroom).mono ?_;rintro e w' ⟨rfl,rfl⟩)
 go_ret2
 exact ⟨rfl,zah _ _⟩
theorem tdead_any (Bl:Nat→Prop) (p:Nat) (l:List Int) (w:World) (h:IsTb w Bl p l) :
   Calls Tryz.prog 241 #[.pointer (some ⟨p,0,none⟩)] w fun e w'=>e=.returned (.bool false)∧w=w':=by
 obtain ⟨⟨aL,cL,aC,cC,aS,cS,srt,hT,hL,hC,hS,hso,b1,b2,b3,hnn⟩,hroom,hp⟩:=h
 have hc:=zaD hT 0 (by omega)
 unfold tbV at hc
 simp only [if_true] at hc
 obtain ⟨x,rfl⟩:=Option.ne_none_iff_exists'.1 hnn
 have hnil:=fun W:World=>Lib.run_eql_slice_nil (P:=Tryz.prog) W 188 3 (some x) l.length cL 0 0 Tryz.underlying188
 clear hT hL hC hS hso b1 b2 b3 hnn
 go_enter Tryz.func241,Tryz.ntmps241
 go_wp2
 go_ret
 exact ⟨rfl,rfl⟩
theorem IsTb.kept {w w':World} {Bl:Nat→Prop} {p r:Nat} {l:List Int} (h:IsTb w Bl p l) (hg:w.grownBy w' (some r)) (hr:¬Bl r):IsTb w' Bl p l:=by
 obtain ⟨⟨aL,cL,aC,cC,aS,cS,srt,hT,hL,hC,hS,hso,b1,b2,b3,hnn⟩,hroom,hp⟩:=h
 have hpr:p≠r:=fun e=>hr (e▸hp)
 refine ⟨⟨aL,cL,aC,cC,aS,cS,srt,?_,hL.kept hg (fun x hx e=>hr (e▸b1 x hx)),hC.kept hg (fun x hx e=>hr (e▸b2 x hx)),hS.kept hg (fun x hx e=>hr (e▸b3 x hx)),hso,b1,b2,b3,hnn⟩,hroom,hp⟩
 rw [hg.block p (Array.getElem?_eq_some_iff.1 hT).1 (by simpa using hpr)]
 exact hT
theorem IsTb.mono {w w':World} {Bl:Nat→Prop} {p:Nat} {l:List Int} (h:IsTb w Bl p l) (hb:Below w.heap.size w w'):IsTb w' Bl p l:=by
 obtain ⟨⟨aL,cL,aC,cC,aS,cS,srt,hT,hL,hC,hS,hso,b1,b2,b3,hnn⟩,hroom,hp⟩:=h
 exact ⟨⟨aL,cL,aC,cC,aS,cS,srt,zab hb hT,hL.mono hb,hC.mono hb,hS.mono hb,hso,b1,b2,b3,hnn⟩,hroom,hp⟩
theorem IsTb.weaken {w:World} {Bl Bl':Nat→Prop} {p:Nat} {l:List Int} (h:IsTb w Bl p l) (hB:∀b,Bl b→Bl' b):IsTb w Bl' p l:=by
 obtain ⟨⟨aL,cL,aC,cC,aS,cS,srt,hT,hL,hC,hS,hso,b1,b2,b3,hnn⟩,hroom,hp⟩:=h
 exact ⟨⟨aL,cL,aC,cC,aS,cS,srt,hT,hL,hC,hS,hso,fun x hx=>hB _ (b1 x hx),fun x hx=>hB _ (b2 x hx),fun x hx=>hB _ (b3 x hx),hnn⟩,hroom,hB _ hp⟩
theorem getV_one (f:Nat→Bool) (high:Bool):getV f high 1 1=if f 0 then 1 else 0:=by
 cases high<;>simp [getV,zde]
theorem get_cut (r n:Nat) (bs:List UInt8) (high:Bool) (at_:Nat) (w:World) (h:IsRd w r bs high at_) (hn:n≤32) (hgt:8 * bs.length<at_+n) :
   Calls Tryz.prog 207 #[.pointer (some ⟨r,0,none⟩),.int .i64 n] w fun e w'=>e=.returned (.tuple #[.int .u32 0,.int .i64 10])∧∃q,w'=w.drewN q:=by
 have hdead:=zda r bs high at_ w h
 have hleft:=left_any r bs high at_ w h
 have hle:=h.le
 have hN:decide (8 * bs.length-at_<n)=true:=by simp;omega
 have hN1:decide ((n:Int)<0)=false:=by simp
 have hN2:decide (32<(n:Int))=false:=by simp;omega
 have HD:=Lib.hid hdead
 have HL:=Lib.hid hleft
 clear hdead hleft h
 go_enter Tryz.func207,Tryz.ntmps207
 go_wp2_with (first
   | (go_at_call 184;refine HD.out.mono ?_;rintro e w' ⟨rfl,rfl⟩)
   | (go_at_call 227;refine HL.out.mono ?_;rintro e w' ⟨rfl,q1,rfl⟩))
 go_ret2
 exact ⟨rfl,_,rfl⟩
theorem zgE (a:Nat) (ha:a<4611686018427387904):(BitVec.ofInt 64 (a:Int)).toNat=a:=by
 rw [BitVec.ofInt_natCast,BitVec.toNat_ofNat];exact Nat.mod_eq_of_lt (by omega)
theorem zhb (a b:Nat) (ha:a<4611686018427387904) (hb:b<4611686018427387904):bits .or .i64 (a:Int) (b:Int)=((a ||| b:Nat):Int):=by
 have hx:a ||| b<2 ^ 62:=Nat.or_lt_two_pow (by omega) (by omega)
 show IntKind.i64.wrap ((BitVec.ofInt 64 (a:Int) ||| BitVec.ofInt 64 (b:Int)).toNat:Int)=_
 rw [BitVec.toNat_or,zgE a ha,zgE b hb,IntKind.wrap_i64]
 omega
theorem or_shl (v x:Nat) (hv:v<65536) (hx:x<2):bits .or .i64 ((v:Int) * 2) (x:Int)=(v:Int) * 2+x:=by
 have e:((v:Int) * 2)=((v * 2:Nat):Int):=by omega
 rw [e,zhb _ _ (by omega) (by omega),nat_join 1 (v * 2) x (by omega) (by omega)]
 omega
theorem get_one (r:Nat) (bs:List UInt8) (high:Bool) (at_:Nat) (w:World) (h:IsRd w r bs high at_) (b:Bool) (hb:zbi bs high at_=b) (hle2:at_+1≤8 * bs.length) :
   Calls Tryz.prog 207 #[.pointer (some ⟨r,0,none⟩),.int .i64 1] w fun e w'=>e=.returned (.tuple #[.int .u32 (if b then 1 else 0),.int .i64 0])∧IsRd w' r bs high (at_+1)∧w.grownBy w' (some r) :=
 (get_ok r 1 bs high at_ w h (by omega) hle2).mono fun e w' ⟨he,h1,h2⟩=>⟨by rw [he,getV_one];simp only [Nat.add_zero,hb];cases b<;>rfl,h1,h2⟩
theorem tget_any (Bl:Nat→Prop) (p r:Nat) (l:List Int) (bs:List UInt8) (high:Bool) (at_:Nat) (w:World) (hT:IsTb w Bl p l) (hR:IsRd w r bs high at_) (hrp:¬Bl r) :
   Calls Tryz.prog 230 #[.pointer (some ⟨p,0,none⟩),.pointer (some ⟨r,0,none⟩)] w fun e w' =>
     e=.returned (.tuple #[.int .i64 ((zeR l (fun k=>zbi bs high (at_+k)) (8 * bs.length-at_)).1:Nat),.int .i64 (zeR l (fun k=>zbi bs high (at_+k)) (8 * bs.length-at_)).2.2]) ∧
     IsRd w' r bs high (at_+(zeR l (fun k=>zbi bs high (at_+k)) (8 * bs.length-at_)).2.1)∧w.grownBy w' (some r):=by
 obtain ⟨V,hV⟩:∃V,V=zeR l (fun k=>zbi bs high (at_+k)) (8 * bs.length-at_):=⟨_,rfl⟩
 rw [←hV]
 have HV:=Lib.hid hV
 have hdead:=tdead_any Bl p l w hT
 have HD:=Lib.hid hdead
 have HRd:=Lib.hid hR
 have hroom:=Lib.hid hT.room
 have hlen:=(zbd hT.room).2.1
 have hok1:=Lib.hid (zbd hT.room).2.2.1
 obtain ⟨⟨aL,cL,aC,cC,aS,cS,srt,hTb,hL,hC,hS,hso,b1,b2,b3,hnn⟩,-,hpB⟩:=hT
 have hpr:p≠r:=fun e=>hrp (e▸hpB)
 have hSr:∀x,aS=some x→x.block≠r:=fun x hx e=>hrp (e▸b3 x hx)
 have hcn : ∀ W, w.grownBy W (some r) → ∀ m, 1 ≤ m → m ≤ 15 → W.cell? ⟨p, 2 + m, none⟩ = some (.int .i64 (cn l m)) := fun W hW m h1 h2 => by
   have hc:=zaD hTb (2+m) (by omega)
   unfold tbV at hc
   rw [if_neg (by omega),if_neg (by omega),if_neg (by omega),Nat.add_sub_cancel_left] at hc
   exact hW.cell hc (by simpa using hpr)
 have hsl : ∀ W, w.grownBy W (some r) → W.cell? ⟨p, 18, none⟩ = some (.slice aS srt.length cS) := fun W hW => by
   have hc:=zaD hTb 18 (by omega)
   unfold tbV at hc
   simp only [Nat.reduceEqDiff,if_false,if_true] at hc
   exact hW.cell hc (by simpa using hpr)
 have hsle:=Lib.hid hso.len
 have HCN:=Lib.hid hcn
 have HSL:=Lib.hid hsl
 have HSO:=Lib.hid hso
 have HS:=Lib.hid hS
 have HSR:=Lib.hid hSr
 have hsrtl:srt.length≤320:=by
   have h1:=hso.len
   have h2:=zcW hok1.out l.length (Nat.le_refl _)
   rw [List.take_length] at h2
   have h3:(zar l l.length).length≤l.length:=by unfold zar;rw [List.length_map];exact Nat.le_trans (List.length_filter_le _ _) (by simp)
   omega
 clear hcn hsl hso hTb hL hC hS b1 b2 b3 hnn hpB hR hdead hrp hV hSr
 have hle:=HRd.out.le
 go_enter Tryz.func230,Tryz.ntmps230
 go_wp2
 go_step3
 go_wp2_with (go_at_call 241;refine HD.out.mono ?_;rintro e w' ⟨rfl,rfl⟩)
 go_step3
 go_wp2
 go_loopw [6, 7, 8, 9] (fun cd fs at2 i wr => ∃ j : Nat, j ≤ 15 ∧ j ≤ 8 * bs.length - at_ ∧ i = .int .i64 (j + 1 : Nat) ∧ cd = .int .i64 (valN (fun k => zbi bs high (at_ + k)) j : Nat) ∧ fs = .int .i64 (zaO (cn l) j + cn l j) ∧ at2 = .int .i64 (ats l (j + 1)) ∧
     Hid (zaO (cn l) j+cn l j≤(valN (fun k=>zbi bs high (at_+k)) j:Nat))∧Hid (V=zci l (fun k=>zbi bs high (at_+k)) (8 * bs.length-at_) (15-j) (j+1))∧Hid (IsRd wr r bs high (at_+j))∧Hid (w.grownBy wr (some r))) (fun _ _ _ i _=>17-(intOf i).toNat)
 case atStart=>exact ⟨0,by omega,by omega,rfl,rfl,by simp [zaO,cn],by simp [ats,cn],Lib.hid (by simp [zaO,cn,valN]),HV,HRd,⟨rfl,rfl,rfl,Nat.le_refl _,fun _ _ _=>rfl⟩⟩
 case round =>
   obtain ⟨j,hj,hjl,rfl,rfl,rfl,rfl,HF,HVj,HRj,HG⟩:=hrel
   by_cases hlt:j<15
   · have hfuel : 15 - j = (15 - (j + 1)) + 1 := by omega
     have hgo:=HVj.out
     rw [hfuel,zci] at hgo
     have hslr:=HSL.out wr HG.out
     have hcnr:=HCN.out wr HG.out (j+1) (by omega) (by omega)
     have hal:=ats_long hok1.out (n:=j+1) (by omega) (by omega)
     have hamono:=zdD l (j+1) 16 (by omega)
     have hann:=ats_nonneg l (j+1)
     have hft:=zcT hroom.out (j+1) (by omega)
     have hpw:=zet (n:=j+1) (by omega)
     have hv1:=valN_lt (fun k=>zbi bs high (at_+k)) j
     have hpj:2 ^ j≤16384:=Nat.pow_le_pow_right (n:=2) (by omega) (by omega:j≤14)
     have hfj:=zcT hroom.out j (by omega)
     have hcb:=zfd l (j+1)
     have hcbj:=zfd l j
     have hso1:=hsle.out
     clear hfuel
     by_cases hlong:zdR l (j+1)=false
     · rw [if_pos hlong] at hgo
       have heq:(ats l (j+1)==(srt.length:Int))=true:=by rw [beq_iff_eq];have:=hal.2 hlong;omega
       have HGO:=Lib.hid hgo
       clear hgo hal
       go_wp2
       try rw [Exit.noGoto_ret]
       go_ret2
       rw [HGO.out]
       exact ⟨rfl,HRj.out,HG.out⟩
     · rw [if_neg hlong] at hgo
       have hne:¬ats l (j+1)=ats l 16:=fun e=>hlong (hal.1 e)
       have heq:(ats l (j+1)==(srt.length:Int))=false:=by rw [beq_eq_false_iff_ne];omega
       clear hal
       by_cases hcut:8 * bs.length-at_<j+1
       · rw [if_pos hcut] at hgo
         have HGO:=Lib.hid hgo
         have hcc:=get_cut r 1 bs high (at_+j) wr HRj.out (by omega) (by omega)
         have HCC:=Lib.hid hcc
         clear hgo hcc
         go_wp2_with (go_at_call 207;refine HCC.out.mono ?_;rintro e w2 ⟨rfl,q,rfl⟩)
         try rw [Exit.noGoto_ret]
         go_ret2
         rw [HGO.out]
         exact ⟨rfl,⟨by obtain ⟨a,c,h1,h2,h3⟩:=HRj.out.ex;exact ⟨a,c,h1,h2,h3⟩,HRj.out.le,HRj.out.small⟩,zb1 HG.out q⟩
       · rw [if_neg hcut] at hgo
         have hval:valN (fun k=>zbi bs high (at_+k)) (j+1)=2 * valN (fun k=>zbi bs high (at_+k)) j+if zbi bs high (at_+j) then 1 else 0:=rfl
         have hf0:=HF.out
         obtain ⟨b,hb⟩:∃b,b=zbi bs high (at_+j):=⟨_,rfl⟩
         rw [←hb] at hval
         have hget:=get_one r bs high (at_+j) wr HRj.out b hb.symm (by omega)
         obtain ⟨v,hv⟩:∃v,v=valN (fun k=>zbi bs high (at_+k)) j:=⟨_,rfl⟩
         rw [←hv] at hval hv1 hf0
         obtain ⟨v',hv'⟩:∃v',v'=valN (fun k=>zbi bs high (at_+k)) (j+1):=⟨_,rfl⟩
         rw [←hv'] at hval hgo
         rw [show valN (fun k=>zbi bs high (at_+k)) j=v from hv.symm] at *
         obtain ⟨c, hc0, hc1, hget', hor, hv'b⟩ : ∃ c : Int, 0 ≤ c ∧ c ≤ 1 ∧ (Calls Tryz.prog 207 #[.pointer (some ⟨r, 0, none⟩), .int .i64 1] wr fun e w' => e = .returned (.tuple #[.int .u32 c, .int .i64 0]) ∧ IsRd w' r bs high (at_ + j + 1) ∧ wr.grownBy w' (some r)) ∧
             bits .or .i64 ((v:Int) * 2) c=(v:Int) * 2+c∧(v':Int)=(v:Int) * 2+c:=by
           cases b
           · exact ⟨0,by omega,by omega,hget,or_shl v 0 (by omega) (by omega),by rw [hval];simp;omega⟩
           · exact ⟨1,by omega,by omega,hget,or_shl v 1 (by omega) (by omega),by rw [hval];simp;omega⟩
         have HGET:=Lib.hid hget'
         have HV':=Lib.hid hv'
         clear hget hget' hb hval hv' hv b
         have hfs:zaO (cn l) (j+1)=(zaO (cn l) j+cn l j) * 2:=rfl
         have hfl:zaO (cn l) (j+1)≤(v':Int):=by rw [hv'b,hfs];omega
         by_cases hin:(v':Int)-zaO (cn l) (j+1)<cn l (j+1)
         · obtain ⟨k, hfk, hkl, hk1, hk2⟩ := findSym_some (by omega) hfl hin
           rw [hfk] at hgo
           simp only at hgo
           have hsat:=HSO.out.at_ k hkl (by omega)
           rw [hk1,Int.toNat_natCast,hk2] at hsat
           have hbnd:=zdD l (j+2) 16 (by omega)
           rw [show ats l (j+2)=ats l (j+1)+cn l (j+1) from rfl] at hbnd
           have hidx:(ats l (j+1)+((v':Int)-zaO (cn l) (j+1))).toNat<srt.length:=by omega
           have hidx2:(ats l (j+1)+((v:Int) * 2+c)-(zaO (cn l) j+cn l j) * 2).toNat=(ats l (j+1)+((v':Int)-zaO (cn l) (j+1))).toNat:=by
             rw [hv'b,hfs];congr 1;omega
           have hin2:(v:Int) * 2+c-(zaO (cn l) j+cn l j) * 2<cn l (j+1):=by omega
           have hlow:0≤ats l (j+1)+((v:Int) * 2+c)-(zaO (cn l) j+cn l j) * 2:=by omega
           have hupp:ats l (j+1)+((v:Int) * 2+c)-(zaO (cn l) j+cn l j) * 2<(srt.length:Int):=by omega
           obtain ⟨sb,so,hsa,hsb,hscc⟩:=HS.out.at 0 _ hidx
           have hscell:=hscc _ hidx
           rw [hsat,←hidx2] at hscell
           have hsbr:sb≠r:=HSR.out _ hsa
           have HGO:=Lib.hid hgo
           have HSCELL:=Lib.hid hscell
           subst hsa
           clear hgo hfk hk2 hsat hscc hscell hfs hfl hin hidx hidx2 hv'b hbnd
           go_wp2_with (go_at_call 207;refine HGET.out.mono ?_;rintro e w2 ⟨rfl,hR2,hG2⟩;have hGG:=zey HG.out hG2;have hcn2:=HCN.out w2 hGG (j+1) (by omega) (by omega);have hsl2:=HSL.out w2 hGG;have hsc2:=hGG.cell HSCELL.out (by simpa using hsbr);have HR2:=Lib.hid hR2;have HGG:=Lib.hid hGG;clear hR2 hG2 hGG)
           try rw [Exit.noGoto_ret]
           go_ret2
           rw [HGO.out]
           exact ⟨rfl,by simpa [Nat.add_assoc] using HR2.out,HGG.out⟩
         · rw [findSym_none (by omega) (fun h => hin h.2)] at hgo
           simp only at hgo
           have hin2:cn l (j+1)≤(v:Int) * 2+c-(zaO (cn l) j+cn l j) * 2:=by omega
           have hhead:zaO (cn l) (j+1)+cn l (j+1)≤(v':Int):=by omega
           have HGO:=Lib.hid hgo
           have HFS:=Lib.hid hfs
           have HVB:=Lib.hid hv'b
           have HHEAD:=Lib.hid hhead
           clear hgo hfs hfl hin hv'b hhead
           go_wp2_with (go_at_call 207;refine HGET.out.mono ?_;rintro e w2 ⟨rfl,hR2,hG2⟩;have hGG:=zey HG.out hG2;have hcn2:=HCN.out w2 hGG (j+1) (by omega) (by omega);have hsl2:=HSL.out w2 hGG;have HR2:=Lib.hid hR2;have HGG:=Lib.hid hGG;clear hR2 hG2 hGG)
           go_roundw
           case rel =>
             refine ⟨j+1,by omega,by omega,by go_num,?_,?_,?_,?_,?_,by simpa [Nat.add_assoc] using HR2,HGG⟩
             · rw [←HV'.out,HVB.out]
             · rw [HFS.out]
             · rfl
             · rw [←HV'.out];exact HHEAD
             · exact Lib.hid HGO.out
           case measure=>simp [intOf];omega
   · obtain rfl : j = 15 := by omega
     have hgo:=HVj.out
     simp only [Nat.sub_self,zci] at hgo
     have HGO:=Lib.hid hgo
     clear hgo
     go_wp2
     try rw [Exit.noGoto_ret]
     go_ret2
     rw [HGO.out]
     exact ⟨rfl,HRj.out,HG.out⟩
theorem read_any (a : Option Addr) (cap : Nat) (bs : List UInt8) (high : Bool) (w : World) (hr : Row w 1 a bs.length cap (bs.map fun b => Value.int .u8 b.toNat)) (hby : bs.length ≤ 140737488355328) :
   Calls Tryz.prog 142 #[.slice a bs.length cap,.bool high] w fun e w'=>∃r,e=.returned (.pointer (some ⟨r,0,none⟩))∧IsRd w' r bs high 0∧w.heap.size≤r∧Below w.heap.size w w':=by
 have hcl:=cloneB a bs.length cap _ w hr (by intro u hu;simp at hu;obtain ⟨x,_,rfl⟩:=hu;rfl) (by omega)
 have HCL:=Lib.hid hcl
 clear hcl hr
 generalize hn:bs.length=n at *
 have HN:=Lib.hid hn
 clear hn
 go_enter Tryz.func142,Tryz.ntmps142
 go_wp2_with (go_at_call 176;refine HCL.out.mono ?_;rintro e w1 ⟨v,rfl,hO,hb,hnn⟩;obtain ⟨a1,c1,rfl,hr1,hb1⟩:=Row.of_owns hO;have HO:=Lib.hid hO;have HB:=Lib.hid hb;have HR1:=Lib.hid hr1;have HB1:=Lib.hid hb1;clear hO hb hnn hr1 hb1)
 go_ret
 have hn:=HN.out
 subst hn
 refine ⟨w1.heap.size,rfl,⟨⟨a1,c1,zac _ rfl,HR1.out.mono (zah _ _),fun x hx=>?_⟩,by omega,by omega⟩,HB.out.size,HB.out.alloc (by exact HB.out.size) _⟩
 have:=(HO.out.lt x.block (by simp [Value.ownBlock,hx])).2
 omega
end Go.Proofs.YtkhcjoomijkfbaaGreatDoor.Z
namespace Go.Proofs.YtkhcjoomijkfbaaGreatDoor.Z
open Go.RowKit
def u8C (b:UInt8):Value:=.int .u8 b.toNat
structure IS where
 at_:Nat
 e:Int
 out:List UInt8
def bitF (bs:List UInt8) (at_:Nat):Nat→Bool:=fun k=>zbi bs false (at_+k)
def zav (e:Int) (s:IS):IS:=if s.e=0 then { s with e:=e } else s
def numV (bs:List UInt8) (n:Nat) (s:IS):Nat×IS :=
 if s.e≠0 then (0,s) else if 8 * bs.length<s.at_+n then (0,{ s with e:=10 }) else (getV (bitF bs s.at_) false n n,{ s with at_:=s.at_+n })
def zaG (bs:List UInt8) (l:List Int) (s:IS):Nat×IS :=
 if s.e≠0 then (0,s) else ((zeR l (bitF bs s.at_) (8 * bs.length-s.at_)).1,{ s with at_:=s.at_+(zeR l (bitF bs s.at_) (8 * bs.length-s.at_)).2.1,e:=(zeR l (bitF bs s.at_) (8 * bs.length-s.at_)).2.2 })
def zcX (most:Nat) (c:UInt8) (s:IS):IS:=if most≤s.out.length then zav 3 s else { s with out:=s.out++[c] }
def repL (far:Nat):Nat→List UInt8→List UInt8
 | 0,o=>o
 | n+1,o=>repL far n (o++[o.getD (o.length-far) 0])
def repV (most len far:Nat) (s:IS):IS :=
 if s.e≠0 then s else if s.out.length<far then zav 14 s else if (most:Int)-s.out.length<len then zav 3 s else { s with out:=repL far len s.out }
def zbQ (x:Int):Int×Int×Bool:=if x<257∨285<x then (0,0,false) else if x=285 then (258,0,true) else if x<265 then (x-254,0,true) else (3+(4+(x-261) % 4) * 2 ^ ((x-261) / 4).toNat,(x-261) / 4,true)
def disV (x:Int):Int×Int×Bool:=if x<0∨29<x then (0,0,false) else if x<4 then (x+1,0,true) else (1+(2+x % 2) * 2 ^ ((x-2) / 2).toNat,(x-2) / 2,true)
def zcc (bs:List UInt8) (most:Nat) (l d:List Int) (s:IS):Bool×IS :=
 let q:=zaG bs l s
 if q.2.e≠0∨q.1=256 then (false,q.2) else
 if q.1<256 then (true,zcX most (UInt8.ofNat q.1) q.2) else
 let a:=zbQ q.1
 let s1:=if a.2.2 then q.2 else zav 11 q.2
 let n1:=numV bs a.2.1.toNat s1
 let q2:=zaG bs d n1.2
 let b:=disV q2.1
 let s2:=if b.2.2 then q2.2 else zav 11 q2.2
 let n2:=numV bs b.2.1.toNat s2
 (true,repV most (a.1.toNat+n1.1) (b.1.toNat+n2.1) n2.2)
def fixL:List Int:=(List.range 288).map fun k=>if k<144∨279<k then 8 else if k<256 then 9 else 7
def fixD:List Int:=(List.range 30).map fun _=>5
end Go.Proofs.YtkhcjoomijkfbaaGreatDoor.Z
namespace Go.Proofs.YtkhcjoomijkfbaaGreatDoor.Z
open Go.RowKit Go.Sort
def stC (r:Nat) (e:Int) (v:Value) (most:Nat):Array Value:=#[.pointer (some ⟨r,0,none⟩),.int .i64 e,v,.int .i64 most]
structure IsSt (w:World) (U:Nat→Prop) (sb r:Nat) (bs:List UInt8) (most:Nat) (s:IS):Prop where
 ex:∃v,w.heap[sb]?=some (.cells (stC r s.e v most) 217 (0,0))∧w.ownsRow (sb+1) 5 1 v s.out.length (s.out.map u8C)∧∀b,v.ownBlock=some b→U b
 rd:IsRd w r bs false s.at_
 lt:r<sb
 own:U sb∧U r
 ult:∀b,U b→r≤b∧b<w.heap.size
def zaZ (w:World) (U:Nat→Prop) (sb r:Nat) (bs:List UInt8) (most:Nat) (s:IS) (w':World):Prop:=∃U',IsSt w' U' sb r bs most s∧Keeps U w w'∧∀b,U' b→U b∨w.heap.size≤b
theorem IsRd.keeps {w w':World} {V:Nat→Prop} {r:Nat} {bs:List UInt8} {high:Bool} {at_:Nat} (h:IsRd w r bs high at_) (hk:Keeps V w w') (hV:∀b,b≤r→¬V b):IsRd w' r bs high at_:=by
 obtain ⟨⟨a,cap,h1,h2,h3⟩,h4,h5⟩:=h
 exact ⟨⟨a,cap,hk.obj h1 (hV r (Nat.le_refl _)),h2.keeps hk (fun x hx=>hV _ (Nat.le_of_lt (h3 x hx))),h3⟩,h4,h5⟩
theorem IsSt.keeps {w w':World} {U V:Nat→Prop} {sb r:Nat} {bs:List UInt8} {most:Nat} {s:IS} (h:IsSt w U sb r bs most s) (hk:Keeps V w w') (hV:∀b,b≤r∨U b→¬V b):IsSt w' U sb r bs most s:=by
 obtain ⟨⟨v,h1,h2,h3⟩,h4,h5,h6,h7⟩:=h
 exact ⟨⟨v,hk.obj h1 (hV sb (.inr h6.1)),za8 h2 hk (fun b hb=>hV b (.inr (h3 b hb))),h3⟩,h4.keeps hk (fun b hb=>hV b (.inl hb)),h5,h6,fun b hb=>⟨(h7 b hb).1,Nat.lt_of_lt_of_le (h7 b hb).2 hk.size⟩⟩
theorem IsSt.mono {w w':World} {U:Nat→Prop} {sb r:Nat} {bs:List UInt8} {most:Nat} {s:IS} (h:IsSt w U sb r bs most s) (hb:Below w.heap.size w w'):IsSt w' U sb r bs most s :=
 h.keeps (Keeps.of_below (S := fun b => w.heap.size ≤ b) hb (fun _ h => h)) (fun b hb2 hn => by
   have:=(h.ult r h.own.2).2
   rcases hb2 with h1|h1
   · omega
   · have:=(h.ult b h1).2;omega)
theorem IsSt.got {w w':World} {U:Nat→Prop} {sb r:Nat} {bs:List UInt8} {most:Nat} {s:IS} {at2:Nat} (h:IsSt w U sb r bs most s) (hR:IsRd w' r bs false at2) (hg:w.grownBy w' (some r)):IsSt w' U sb r bs most { s with at_:=at2 }∧Keeps U w w':=by
 have hk:Keeps (fun b=>b=r) w w':=Keeps.of_grown (S:=fun b=>b=r) hg (fun k hk=>by simpa using hk.symm)
 obtain ⟨⟨v,h1,h2,h3⟩,h4,h5,h6,h7⟩:=h
 have hne:sb≠r:=by omega
 exact ⟨⟨⟨v,hk.obj h1 hne,za8 h2 hk (fun b hb e=>by have:=(h2.lt b hb).1;omega),h3⟩,hR,h5,h6,fun b hb=>⟨(h7 b hb).1,Nat.lt_of_lt_of_le (h7 b hb).2 hk.size⟩⟩,hk.weaken (fun b hb=>hb▸h6.2)⟩
theorem IsSt.cells {w:World} {U:Nat→Prop} {sb r:Nat} {bs:List UInt8} {most:Nat} {s:IS} (h:IsSt w U sb r bs most s) :
   w.cell? ⟨sb,0,none⟩=some (.pointer (some ⟨r,0,none⟩))∧w.cell? ⟨sb,1,none⟩=some (.int .i64 s.e)∧w.cell? ⟨sb,3,none⟩=some (.int .i64 most)∧w.frozen? ⟨sb,1,none⟩=false∧w.frozen? ⟨sb,2,none⟩=false:=by
 obtain ⟨⟨v,h1,-⟩,-⟩:=h
 refine ⟨?_,?_,?_,frozen_of_row w sb 1 _ _ h1,frozen_of_row w sb 2 _ _ h1⟩<;>(rw [cell_of_row w sb _ _ _ _ h1];rfl)
theorem IsSt.setE {w:World} {U:Nat→Prop} {sb r:Nat} {bs:List UInt8} {most:Nat} {s:IS} (h:IsSt w U sb r bs most s) (e:Int):IsSt (w.setCell ⟨sb,1,none⟩ (.int .i64 e)) U sb r bs most { s with e:=e }∧Keeps U w (w.setCell ⟨sb,1,none⟩ (.int .i64 e)):=by
 have hk:Keeps (fun b=>b=sb) w (w.setCell ⟨sb,1,none⟩ (.int .i64 e)):=Keeps.setCell (S:=fun b=>b=sb) (Keeps.refl _ w) (a:=⟨sb,1,none⟩) (.inl rfl) _
 obtain ⟨⟨v,h1,h2,h3⟩,h4,h5,h6,h7⟩:=h
 refine ⟨⟨⟨v,?_,za8 h2 hk (fun b hb e=>by have:=(h2.lt b hb).1;omega),h3⟩,h4.keeps hk (fun b hb e=>by omega),h5,h6,fun b hb=>⟨(h7 b hb).1,Nat.lt_of_lt_of_le (h7 b hb).2 hk.size⟩⟩,hk.weaken (fun b hb=>hb▸h6.1)⟩
 have:=zby (w:=w) (b:=sb) (n:=4) (enc:=fun i=>if i=0 then .pointer (some ⟨r,0,none⟩) else if i=1 then .int .i64 s.e else if i=2 then v else .int .i64 most) (t:=217) h1 1 (.int .i64 e)
 exact this
theorem IsSt.next {w w':World} {U:Nat→Prop} {sb r:Nat} {bs:List UInt8} {most:Nat} {s:IS} (h:IsSt w' U sb r bs most s∧Keeps U w w'):zaZ w U sb r bs most s w':=⟨U,h.1,h.2,fun _ h=>.inl h⟩
theorem zaZ.trans {w w1 w2:World} {U U1:Nat→Prop} {sb r:Nat} {bs:List UInt8} {most:Nat} {s:IS} (hk:Keeps U w w1) (hs:∀b,U1 b→U b∨w.heap.size≤b) (h2:zaZ w1 U1 sb r bs most s w2):zaZ w U sb r bs most s w2:=by
 obtain ⟨U2,h3,h4,h5⟩:=h2
 have:=hk.size
 exact ⟨U2,h3,hk.trans h4 hs,fun b hb=>(h5 b hb).elim (hs b) (fun h=>.inr (by omega))⟩
theorem IsSt.drewN {w:World} {U:Nat→Prop} {sb r:Nat} {bs:List UInt8} {most:Nat} {s:IS} (h:IsSt w U sb r bs most s) (q:Nat):IsSt (w.drewN q) U sb r bs most s∧Keeps U w (w.drewN q) :=
 ⟨h.keeps ((Keeps.refl (fun _=>False) w).drewN q) (fun _ _ h=>h),(Keeps.refl U w).drewN q⟩
theorem zaM {w:World} {U:Nat→Prop} {sb r:Nat} {bs:List UInt8} {most:Nat} {s:IS} (h:IsSt w U sb r bs most s) (e:Int) :
   Calls Tryz.prog 183 #[.pointer (some ⟨sb,0,none⟩),.int .i64 e] w fun x w'=>x=.returned (.tuple #[])∧IsSt w' U sb r bs most (zav e s)∧Keeps U w w':=by
 obtain ⟨c0,c1,-,f1,-⟩:=h.cells
 have HS:=Lib.hid h
 have HE:=Lib.hid (h.setE e)
 clear h
 by_cases he:s.e=0
 · have HF : Hid (zav e s = { s with e := e }) := Lib.hid (by unfold zav; rw [if_pos he])
   rw [he] at c1
   go_enter Tryz.func183,Tryz.ntmps183
   go_wp2
   go_end0
   exact ⟨rfl,by rw [HF.out];exact HE.out⟩
 · have HF : Hid (zav e s = s) := Lib.hid (by unfold zav; rw [if_neg he])
   go_enter Tryz.func183,Tryz.ntmps183
   go_wp2
   go_end0
   exact ⟨rfl,by rw [HF.out];exact ⟨HS.out,Keeps.refl _ _⟩⟩
theorem zg0 (s:IS):zav 0 s=s:=by
 obtain ⟨a,e,o⟩:=s
 unfold zav
 split
 · rename_i h;simp only at h;rw [h]
 · rfl
theorem failV_set (e:Int) (s:IS) (h:s.e=0):zav e s={ s with e:=e }:=by unfold zav;rw [if_pos h]
theorem ssym_any {w:World} {U Bl:Nat→Prop} {sb r p:Nat} {bs:List UInt8} {most:Nat} {s:IS} {l:List Int} (h:IsSt w U sb r bs most s) (hT:IsTb w Bl p l) (hU:¬Bl r) (pt:Option Addr) (hpt:s.e=0→pt=some ⟨p,0,none⟩) :
   Calls Tryz.prog 210 #[.pointer (some ⟨sb,0,none⟩),.pointer pt] w fun x w'=>x=.returned (.int .i64 (zaG bs l s).1)∧IsSt w' U sb r bs most (zaG bs l s).2∧Keeps U w w':=by
 obtain ⟨c0,c1,-,f1,-⟩:=h.cells
 have HS:=Lib.hid h
 by_cases he:s.e=0
 · obtain rfl:=hpt he
   rw [he] at c1
   obtain ⟨V,hV⟩:∃V,V=zeR l (bitF bs s.at_) (8 * bs.length-s.at_):=⟨_,rfl⟩
   have HV:Hid (zaG bs l s=(V.1,{ s with at_:=s.at_+V.2.1,e:=V.2.2 })):=Lib.hid (by unfold zaG;rw [if_neg (by simp [he]),←hV])
   have hg:=tget_any Bl p r l bs false s.at_ w hT h.rd hU
   rw [show zeR l (fun k=>zbi bs false (s.at_+k)) (8 * bs.length-s.at_)=V from hV.symm] at hg
   have HG:=Lib.hid hg
   obtain ⟨x,m,e⟩:=V
   clear h hg hV
   go_enter Tryz.func210,Tryz.ntmps210
   go_wp2_with fail
   refine HG.out.mono ?_
   rintro e2 w1 ⟨rfl,hR,hgr⟩
   have HN:=Lib.hid (HS.out.got hR hgr)
   have HF:=Lib.hid (zaM (HS.out.got hR hgr).1 e)
   clear c0 c1 f1 hR hgr
   dsimp only
   go_wp2_with fail
   refine HF.out.mono ?_
   rintro e2 w2 ⟨rfl,h2,k2⟩
   rw [failV_set e { s with at_:=s.at_+m } he] at h2
   have H2:=Lib.hid h2
   have K2:=Lib.hid k2
   clear h2 k2
   go_wp2
   go_ret
   exact ⟨by rw [HV.out];rfl,by rw [HV.out];exact ⟨H2.out,HN.out.2.trans K2.out (fun b hb=>.inl hb)⟩⟩
 · have HV : Hid (zaG bs l s = (0, s)) := Lib.hid (by unfold zaG; rw [if_pos he])
   clear h
   go_enter Tryz.func210,Tryz.ntmps210
   go_wp2
   go_ret
   exact ⟨by rw [HV.out];rfl,by rw [HV.out];exact ⟨HS.out,Keeps.refl _ _⟩⟩
theorem zbc {w:World} {U:Nat→Prop} {sb r:Nat} {bs:List UInt8} {most:Nat} {s:IS} (h:IsSt w U sb r bs most s) (n:Nat) (hn:n≤32) :
   Calls Tryz.prog 177 #[.pointer (some ⟨sb,0,none⟩),.int .i64 n] w fun x w'=>x=.returned (.int .i64 (numV bs n s).1)∧IsSt w' U sb r bs most (numV bs n s).2∧Keeps U w w':=by
 obtain ⟨c0,c1,-,f1,-⟩:=h.cells
 have HS:=Lib.hid h
 by_cases he:s.e=0
 · rw [he] at c1
   by_cases hl:8 * bs.length<s.at_+n
   · have HV : Hid (numV bs n s = (0, zav 10 s)) := Lib.hid (by unfold numV zav; rw [if_neg (by simp [he]), if_pos hl, if_pos he])
     have HG:=Lib.hid (get_cut r n bs false s.at_ w h.rd hn hl)
     clear h hl
     go_enter Tryz.func177,Tryz.ntmps177
     go_wp2_with fail
     refine HG.out.mono ?_
     rintro e w1 ⟨rfl,q,rfl⟩
     have HF:=Lib.hid (zaM (HS.out.drewN q).1 10)
     clear c0 c1 f1
     go_wp2_with fail
     refine HF.out.mono ?_
     rintro e w2 ⟨rfl,h2,k2⟩
     have H2:=Lib.hid h2
     have K2:=Lib.hid k2
     clear h2 k2
     go_wp2
     go_ret
     exact ⟨by rw [HV.out];rfl,by rw [HV.out];exact ⟨H2.out,(HS.out.drewN q).2.trans K2.out (fun b hb=>.inl hb)⟩⟩
   · have HV : Hid (numV bs n s = (getV (bitF bs s.at_) false n n, { s with at_ := s.at_ + n })) := Lib.hid (by unfold numV; rw [if_neg (by simp [he]), if_neg hl])
     have HG:=Lib.hid (get_ok r n bs false s.at_ w h.rd hn (by omega))
     have HE:=Lib.hid he
     clear h hl
     go_enter Tryz.func177,Tryz.ntmps177
     go_wp2_with fail
     refine HG.out.mono ?_
     rintro e w1 ⟨rfl,hR,hg⟩
     have HN:=Lib.hid (HS.out.got hR hg)
     have HF:=Lib.hid (zaM (HS.out.got hR hg).1 0)
     have hlt:=zhE (bitF bs s.at_) false n n (Nat.le_refl _)
     have h32:=pow32 hn
     obtain ⟨g,hgv⟩:∃g,g=getV (bitF bs s.at_) false n n:=⟨_,rfl⟩
     rw [←hgv] at HV hlt
     rw [show getV (fun k=>zbi bs false (s.at_+k)) false n n=g from hgv.symm]
     have hg32:g<4294967296:=by omega
     clear c0 c1 f1 hR hg hlt h32 hgv
     go_wp2_with fail
     refine HF.out.mono ?_
     rintro e w2 ⟨rfl,h2,k2⟩
     have h3:=zg0 { s with at_:=s.at_+n }
     rw [h3] at h2
     have H2:=Lib.hid h2
     have K2:=Lib.hid k2
     clear h2 k2 h3
     go_wp2
     go_ret
     refine ⟨?_,by rw [HV.out];exact ⟨H2.out,HN.out.2.trans K2.out (fun b hb=>.inl hb)⟩⟩
     rw [HV.out];rfl
 · have HV : Hid (numV bs n s = (0, s)) := Lib.hid (by unfold numV; rw [if_pos he])
   clear h
   go_enter Tryz.func177,Tryz.ntmps177
   go_wp2
   go_ret
   exact ⟨by rw [HV.out];rfl,by rw [HV.out];exact ⟨HS.out,Keeps.refl _ _⟩⟩
theorem zfM {α:Type} [Inhabited α] (enc:α→Value) (hE:∀x,∃n,enc x=.int .i64 n) (F:Value) (g cap a b n:Nat) (rest:List Value) (d:Array α) (w0 w:World)
   (hS:SB enc w0 g 3 rest d w) (hab:a+n≤b) (hb:b+n≤d.size) (hsz:d.size<4611686018427387904) :
   Calls Tryz.prog 254 #[.slice (some ⟨g,0,none⟩) d.size cap,.int .i64 a,.int .i64 b,.int .i64 n,F] w fun e w'=>e=.returned (.tuple #[])∧∃R:Array α,R.size=d.size∧SB enc w0 g 3 rest R w'∧(∀k,R[k]! = swR d a b n k)∧PermIn a (b+n) d R:=by
 have HS:=Lib.hid hS
 clear hS
 go_enter Tryz.func254,Tryz.ntmps254
 go_wp2
 go_loopw [10] (fun vi wr=>∃(i:Nat) (dk:Array α),vi=.int .i64 i∧i≤n∧dk.size=d.size∧Hid (SB enc w0 g 3 rest dk wr)∧Hid (∀k,dk[k]! = swR d a b i k)∧Hid (PermIn a (b+n) d dk)) (fun vi _=>n-(intOf vi).toNat)
 case atStart=>exact ⟨0,d,rfl,by omega,rfl,HS,Lib.hid (fun k=>(swR_zero d a b k).symm),Lib.hid (permIn_refl _ _ _)⟩
 case round =>
   obtain ⟨i,dk,rfl,hin,hsk,HSk,HR,HP⟩:=hrel
   clear HS
   by_cases hlt:i<n
   · have hc1 := HSk.out.cell (a + i) (by omega)
     have hc2:=HSk.out.cell (b+i) (by omega)
     have hf1:=HSk.out.free (a+i)
     have hf2:=HSk.out.free (b+i)
     obtain ⟨X,hX⟩:∃X,X=dk[a+i]! := ⟨_,rfl⟩
     obtain ⟨Y,hY⟩:∃Y,Y=dk[b+i]! := ⟨_,rfl⟩
     rw [←hX] at hc1
     rw [←hY] at hc2
     have HX:=Lib.hid hX
     have HY:=Lib.hid hY
     obtain ⟨x,hx⟩:=hE X
     obtain ⟨y,hy⟩:=hE Y
     rw [hx] at hc1
     rw [hy] at hc2
     have HEx:=Lib.hid hx
     have HEy:=Lib.hid hy
     clear hx hy hX hY
     have hj1:((a:Int)+(i:Int)).toNat=a+i:=by omega
     have hj2:((b:Int)+(i:Int)).toNat=b+i:=by omega
     have hb1:(a:Int)+(i:Int)<(d.size:Int):=by omega
     have hb2:(b:Int)+(i:Int)<(d.size:Int):=by omega
     go_wp2
     go_region
     all_goals go_wp2
     go_roundw
     case rel =>
       refine ⟨i+1,swp dk (a+i) (b+i),by go_num,by omega,by rw [size_swp];exact hsk,?_,Lib.hid (swR_step d dk a b n i hlt hab (by omega) HR.out),Lib.hid (permIn_trans _ _ _ _ _ HP.out (swp_permIn dk a (b+n) (a+i) (b+i) (by omega) (by omega) (by omega) (by omega) (by omega)))⟩
       have hw:=HSk.out.swp (a+i) (b+i) (by omega) (by omega) 1
       rw [←HX.out,←HY.out,HEx.out,HEy.out] at hw
       exact Lib.hid hw
     case measure=>simp [intOf];omega
   · obtain rfl : n = i := by omega
     go_wp2
     go_end0
     exact ⟨rfl,dk,hsk,HSk.out,HR.out,HP.out⟩
theorem rot_any {α:Type} [Inhabited α] (enc:α→Value) (hE:∀x,∃n,enc x=.int .i64 n) (F:Value) (g cap a m b:Nat) (rest:List Value) (d:Array α) (w0 w:World)
   (hS:SB enc w0 g 3 rest d w) (ham:a<m) (hmb:m<b) (hb:b≤d.size) (hsz:d.size<4611686018427387904) :
   Calls Tryz.prog 253 #[.slice (some ⟨g,0,none⟩) d.size cap,.int .i64 a,.int .i64 m,.int .i64 b,F] w fun e w'=>e=.returned (.tuple #[])∧∃R:Array α,R.size=d.size∧SB enc w0 g 3 rest R w'∧(∀k,R[k]! = rotF d a m b k)∧PermIn a b d R:=by
 have HS:=Lib.hid hS
 clear hS
 go_enter Tryz.func253,Tryz.ntmps253
 go_wp2
 go_loopw [10,11] (fun vi vj wr=>∃(i j:Nat) (dk:Array α),vi=.int .i64 i∧vj=.int .i64 j∧0<i∧0<j∧i≤m-a∧j≤b-m∧dk.size=d.size∧Hid (SB enc w0 g 3 rest dk wr)∧Hid (∀k,rotF dk (m-i) m (m+j) k=rotF d a m b k)∧Hid (PermIn a b d dk)) (fun vi vj _=>(intOf vi).toNat+(intOf vj).toNat)
 case atStart=>exact ⟨m-a,b-m,d,by go_num,by go_num,by omega,by omega,by omega,by omega,rfl,HS,Lib.hid (fun k=>by rw [show m-(m-a)=a from by omega,show m+(b-m)=b from by omega]),Lib.hid (permIn_refl _ _ _)⟩
 case round =>
   obtain ⟨i,j,dk,rfl,rfl,hi,hj,him,hjm,hsk,HSk,HR,HP⟩:=hrel
   clear HS
   have hmi:((m-i:Nat):Int)=(m:Int)-i:=by omega
   by_cases hgt:j<i
   · have hsw := zfM enc hE F g cap (m - i) m j rest dk w0 wr HSk.out (by omega) (by omega) (by omega)
     rw [hmi,hsk] at hsw
     have HSW:=Lib.hid hsw
     have hne:((i:Int)==(j:Int))=false:=by rw [beq_eq_false_iff_ne];omega
     clear hsw
     go_wp2_with (go_at_call 254;refine HSW.out.mono ?_;rintro e w2 ⟨rfl,R,hRs,hRB,hRk,hRP⟩;have HB2:=Lib.hid hRB;have HK2:=Lib.hid hRk;have HP2:=Lib.hid hRP;clear hRB hRk hRP)
     go_roundw
     case rel=>exact ⟨i-j,j,R,by go_num,rfl,by omega,by omega,by omega,by omega,hRs,HB2,Lib.hid (fun k=>by rw [rot_gt dk R m i j hgt (by omega) HK2.out k];exact HR.out k),Lib.hid (permIn_trans _ _ _ _ _ HP.out (permIn_mono dk R (m-i) (m+j) a b (by omega) (by omega) (by omega) HP2.out))⟩
     case measure=>simp [intOf];omega
   · by_cases hlt:i<j
     · have hsw := zfM enc hE F g cap (m - i) (m + j - i) i rest dk w0 wr HSk.out (by omega) (by omega) (by omega)
       rw [hmi,hsk,show ((m+j-i:Nat):Int)=(m:Int)+j-i from by omega] at hsw
       have HSW:=Lib.hid hsw
       have hne:((i:Int)==(j:Int))=false:=by rw [beq_eq_false_iff_ne];omega
       clear hsw
       go_wp2_with (go_at_call 254;refine HSW.out.mono ?_;rintro e w2 ⟨rfl,R,hRs,hRB,hRk,hRP⟩;have HB2:=Lib.hid hRB;have HK2:=Lib.hid hRk;have HP2:=Lib.hid hRP;clear hRB hRk hRP)
       go_roundw
       case rel=>exact ⟨i,j-i,R,rfl,by go_num,by omega,by omega,by omega,by omega,hRs,HB2,Lib.hid (fun k=>by rw [rot_lt dk R m i j hlt (by omega) HK2.out k];exact HR.out k),Lib.hid (permIn_trans _ _ _ _ _ HP.out (permIn_mono dk R (m-i) (m+j-i+i) a b (by omega) (by omega) (by omega) HP2.out))⟩
       case measure=>simp [intOf];omega
     · obtain rfl : i = j := by omega
       have hsw:=zfM enc hE F g cap (m-i) m i rest dk w0 wr HSk.out (by omega) (by omega) (by omega)
       rw [hmi,hsk] at hsw
       have HSW:=Lib.hid hsw
       clear hsw
       go_wp2_with (go_at_call 254;refine HSW.out.mono ?_;rintro e w2 ⟨rfl,R,hRs,hRB,hRk,hRP⟩;have HB2:=Lib.hid hRB;have HK2:=Lib.hid hRk;have HP2:=Lib.hid hRP;clear hRB hRk hRP)
       go_end0
       exact ⟨rfl,R,hRs,HB2.out,fun k=>by rw [rot_eq dk R m i (by omega) HK2.out k];exact HR.out k,permIn_trans _ _ _ _ _ HP.out (permIn_mono dk R (m-i) (m+i) a b (by omega) (by omega) (by omega) HP2.out)⟩
def zfQ {α:Type} [Inhabited α] (enc:α→Value) (lt:α→α→Bool) (g a b:Nat) (rest:List Value) (d:Array α) (w0:World) (e:Ending) (w':World):Prop :=
 e=.returned (.tuple #[])∧∃R:Array α,R.size=d.size∧SB enc w0 g 3 rest R w'∧PermIn a b d R∧SortedIn lt a b R
theorem sym_left {α:Type} [Inhabited α] (enc:α→Value) (hE:∀x,∃n,enc x=.int .i64 n) (cf:α→α→Int) (lt:α→α→Bool) (hL:SWO lt) (D:α→Prop) (f:FuncId) (cb:Array Value) (g cap a m b:Nat) (rest:List Value) (d:Array α) (w0 w:World)
   (hC:CmpQ Tryz.prog f cb enc cf D w0 g) (hS:SB enc w0 g 3 rest d w) (hD:∀i,i<d.size→D d[i]!) (hm:m=a+1) (hmb:m<b) (hb:b≤d.size) (hsz:d.size<4611686018427387904)
   (h2:SortedIn lt m b d) (hA:zcO (ltOf cf) lt d a m b) :
   Calls Tryz.prog 250 #[.slice (some ⟨g,0,none⟩) d.size cap,.int .i64 a,.int .i64 m,.int .i64 b,.func (.func f) #[] cb] w fun e w'=>zfQ enc lt g a b rest d w0 e w':=by
 have eg:=hC.enters
 have HC:=Lib.hid hC
 have HS:=Lib.hid hS
 have HD:=Lib.hid hD
 have H2:=Lib.hid h2
 have HA:=Lib.hid hA
 clear hC hS hD h2 hA
 have heq:((m:Int)-(a:Int)==1)=true:=by rw [beq_iff_eq];omega
 go_enter Tryz.func250,Tryz.ntmps250
 go_wp2
 go_loopw [10,11] (fun vi vj wr=>∃(i j:Nat),vi=.int .i64 i∧vj=.int .i64 j∧m≤i∧i≤j∧j≤b∧Hid (SB enc w0 g 3 rest d wr)∧Hid (∀q,m≤q→q<i→lt d[q]! d[a]! = true)∧Hid (∀q,j≤q→q<b→lt d[q]! d[a]! = false)) (fun vi vj _=>(intOf vj).toNat-(intOf vi).toNat)
 case atStart=>exact ⟨m,b,rfl,rfl,Nat.le_refl _,by omega,Nat.le_refl _,HS,Lib.hid (fun q h1 h2=>by omega),Lib.hid (fun q h1 h2=>by omega)⟩
 case round =>
   obtain ⟨i,j,rfl,rfl,hai,hij,hjb,HSk,HLo,HHi⟩:=hrel
   clear HS
   by_cases hlt:i<j
   · obtain ⟨h,hh⟩:∃h,h=(i+j) / 2:=⟨_,rfl⟩
     have hc1:=HSk.out.cell h (by omega)
     have hc2:=HSk.out.cell a (by omega)
     have hcall:=fun q=>HC.out.calls (wr.drewN q) (HSk.out.drewN q).grown d[h]! d[a]! (HD.out h (by omega)) (HD.out a (by omega))
     have hag:=HA.out a h (Nat.le_refl _) (by omega) (by omega) (by omega)
     obtain ⟨X,hX⟩:∃X,X=d[h]! := ⟨_,rfl⟩
     obtain ⟨Y,hY⟩:∃Y,Y=d[a]! := ⟨_,rfl⟩
     rw [←hX] at hc1 hcall hag
     rw [←hY] at hc2 hcall hag
     have HX:=Lib.hid hX
     have HY:=Lib.hid hY
     obtain ⟨x,hx⟩:=hE X
     obtain ⟨y,hy⟩:=hE Y
     rw [hx] at hc1 hcall
     rw [hy] at hc2 hcall
     have HCALL:=Lib.hid hcall
     have HAG:=Lib.hid hag
     clear hcall hx hy hX hY hag
     have hh1:((i:Int)+(j:Int)) / 2=(h:Int):=by omega
     have hhb:(h:Int)<(d.size:Int):=by omega
     have hab:(a:Int)<(d.size:Int):=by omega
     have hhi:i≤h:=by omega
     have hhj:h<j:=by omega
     clear hh
     by_cases hcf:cf X Y<0
     · have hl : lt X Y = true := by rw [← HAG.out]; simpa [ltOf] using hcf
       have HL:=Lib.hid hl
       have hcf2:cf X Y<0:=hcf
       clear hl hcf
       go_wp2_with fail
       go_quiet ((refine Calls.quiet_of (HCALL.out _)))
       go_wp2
       go_roundw
       case rel=>exact ⟨h+1,j,by go_num,rfl,by omega,by omega,hjb,Lib.hid (HSk.out.drewN _),Lib.hid (fun q h3 h4=>low_all hL H2.out (by omega:h<b) (by rw [←HX.out,←HY.out];exact HL.out) q h3 (by omega)),HHi⟩
       case measure=>simp [intOf];omega
     · have hl : lt X Y = false := by rw [← HAG.out]; simpa [ltOf] using hcf
       have HL:=Lib.hid hl
       have hcf2:0≤cf X Y:=by omega
       clear hl hcf
       go_wp2_with fail
       go_quiet ((refine Calls.quiet_of (HCALL.out _)))
       go_wp2
       go_roundw
       case rel=>exact ⟨i,h,rfl,rfl,hai,hhi,by omega,Lib.hid (HSk.out.drewN _),HLo,Lib.hid (fun q h3 h4=>high_all hL H2.out (by omega) (by rw [←HX.out,←HY.out];exact HL.out) q h3 h4)⟩
       case measure=>simp [intOf];omega
   · obtain rfl : i = j := by omega
     go_wp2
     go_loopw [13] (fun vk wr2=>∃(k:Nat) (dk:Array α),vk=.int .i64 k∧a≤k∧k≤i-1∧dk.size=d.size∧Hid (SB enc w0 g 3 rest dk wr2)∧Hid (∀q,dk[q]! = shlF d a k q)∧Hid (PermIn a b d dk)) (fun vk _=>i-(intOf vk).toNat)
     case atStart=>exact ⟨a,d,rfl,Nat.le_refl _,by omega,rfl,HSk,Lib.hid (fun q=>(shlF_zero d a q).symm),Lib.hid (permIn_refl _ _ _)⟩
     case round =>
       obtain ⟨k,dk,rfl,hak,hki,hsk,HSk2,HR,HP⟩:=hrel
       clear HSk
       by_cases hk:k<i-1
       · have hc1 := HSk2.out.cell k (by omega)
         have hc2:=HSk2.out.cell (k+1) (by omega)
         have hf1:=HSk2.out.free k
         have hf2:=HSk2.out.free (k+1)
         obtain ⟨X,hX⟩:∃X,X=dk[k]! := ⟨_,rfl⟩
         obtain ⟨Y,hY⟩:∃Y,Y=dk[k+1]! := ⟨_,rfl⟩
         rw [←hX] at hc1
         rw [←hY] at hc2
         have HX:=Lib.hid hX
         have HY:=Lib.hid hY
         obtain ⟨x,hx⟩:=hE X
         obtain ⟨y,hy⟩:=hE Y
         rw [hx] at hc1
         rw [hy] at hc2
         have HEx:=Lib.hid hx
         have HEy:=Lib.hid hy
         clear hx hy hX hY
         have hj1:((k:Int)+1).toNat=k+1:=by omega
         have hb1:(k:Int)<(d.size:Int):=by omega
         have hb2:(k:Int)+1<(d.size:Int):=by omega
         go_wp2
         go_region
         all_goals go_wp2
         go_roundw
         case rel =>
           refine ⟨k+1,swp dk k (k+1),by go_num,by omega,by omega,by rw [size_swp];exact hsk,?_,Lib.hid (shlF_step d dk a k hak (by omega) HR.out),Lib.hid (permIn_trans _ _ _ _ _ HP.out (swp_permIn dk a b k (k+1) (by omega) (by omega) (by omega) (by omega) (by omega)))⟩
           have hw:=HSk2.out.swp k (k+1) (by omega) (by omega) 1
           rw [←HX.out,←HY.out,HEx.out,HEy.out] at hw
           exact Lib.hid hw
         case measure=>simp [intOf];omega
       · obtain rfl : k = i - 1 := by omega
         go_wp2
         go_end0
         exact ⟨rfl,dk,hsk,HSk2.out,HP.out,left_done hL d dk a b i (by omega) hjb (by rw [←hm];exact H2.out) (by rw [←hm];exact HLo.out) HHi.out HR.out⟩
theorem sym_right {α:Type} [Inhabited α] (enc:α→Value) (hE:∀x,∃n,enc x=.int .i64 n) (cf:α→α→Int) (lt:α→α→Bool) (hL:SWO lt) (D:α→Prop) (f:FuncId) (cb:Array Value) (g cap a m b:Nat) (rest:List Value) (d:Array α) (w0 w:World)
   (hC:CmpQ Tryz.prog f cb enc cf D w0 g) (hS:SB enc w0 g 3 rest d w) (hD:∀i,i<d.size→D d[i]!) (ham:a+1<m) (hbm:b=m+1) (hb:b≤d.size) (hsz:d.size<4611686018427387904)
   (h1:SortedIn lt a m d) (hA:zcO (ltOf cf) lt d a m b) :
   Calls Tryz.prog 250 #[.slice (some ⟨g,0,none⟩) d.size cap,.int .i64 a,.int .i64 m,.int .i64 b,.func (.func f) #[] cb] w fun e w'=>zfQ enc lt g a b rest d w0 e w':=by
 have eg:=hC.enters
 have HC:=Lib.hid hC
 have HS:=Lib.hid hS
 have HD:=Lib.hid hD
 have H1:=Lib.hid h1
 have HA:=Lib.hid hA
 clear hC hS hD h1 hA
 have hne:((m:Int)-(a:Int)==1)=false:=by rw [beq_eq_false_iff_ne];omega
 have heq:((b:Int)-(m:Int)==1)=true:=by rw [beq_iff_eq];omega
 go_enter Tryz.func250,Tryz.ntmps250
 go_wp2
 go_loopw [14,15] (fun vi vj wr=>∃(i j:Nat),vi=.int .i64 i∧vj=.int .i64 j∧a≤i∧i≤j∧j≤m∧Hid (SB enc w0 g 3 rest d wr)∧Hid (∀q,a≤q→q<i→lt d[m]! d[q]! = false)∧Hid (∀q,j≤q→q<m→lt d[m]! d[q]! = true)) (fun vi vj _=>(intOf vj).toNat-(intOf vi).toNat)
 case atStart=>exact ⟨a,m,rfl,rfl,Nat.le_refl _,by omega,Nat.le_refl _,HS,Lib.hid (fun q h1 h2=>by omega),Lib.hid (fun q h1 h2=>by omega)⟩
 case round =>
   obtain ⟨i,j,rfl,rfl,hai,hij,hjb,HSk,HLo,HHi⟩:=hrel
   clear HS
   by_cases hlt:i<j
   · obtain ⟨h,hh⟩:∃h,h=(i+j) / 2:=⟨_,rfl⟩
     have hc1:=HSk.out.cell m (by omega)
     have hc2:=HSk.out.cell h (by omega)
     have hcall:=fun q=>HC.out.calls (wr.drewN q) (HSk.out.drewN q).grown d[m]! d[h]! (HD.out m (by omega)) (HD.out h (by omega))
     have hag:=HA.out h m (by omega) (by omega) (by omega) (by omega)
     obtain ⟨X,hX⟩:∃X,X=d[m]! := ⟨_,rfl⟩
     obtain ⟨Y,hY⟩:∃Y,Y=d[h]! := ⟨_,rfl⟩
     rw [←hX] at hc1 hcall hag
     rw [←hY] at hc2 hcall hag
     have HX:=Lib.hid hX
     have HY:=Lib.hid hY
     obtain ⟨x,hx⟩:=hE X
     obtain ⟨y,hy⟩:=hE Y
     rw [hx] at hc1 hcall
     rw [hy] at hc2 hcall
     have HCALL:=Lib.hid hcall
     have HAG:=Lib.hid hag
     clear hcall hx hy hX hY hag
     have hh1:((i:Int)+(j:Int)) / 2=(h:Int):=by omega
     have hhb:(h:Int)<(d.size:Int):=by omega
     have hmd:(m:Int)<(d.size:Int):=by omega
     have hhi:i≤h:=by omega
     have hhj:h<j:=by omega
     clear hh
     by_cases hcf:cf X Y<0
     · have hl : lt X Y = true := by rw [← HAG.out]; simpa [ltOf] using hcf
       have HL:=Lib.hid hl
       have hcf2:cf X Y<0:=hcf
       have hcfB:decide (cf X Y<0)=true:=by rw [decide_eq_true_iff];exact hcf
       clear hl hcf
       go_wp2_with fail
       go_quiet ((refine Calls.quiet_of (HCALL.out _)))
       go_wp2
       go_roundw
       case rel=>exact ⟨i,h,rfl,rfl,hai,hhi,by omega,Lib.hid (HSk.out.drewN _),HLo,Lib.hid (fun q h3 h4=>high_all' hL H1.out (by omega) (by rw [←HX.out,←HY.out];exact HL.out) q h3 h4)⟩
       case measure=>simp [intOf];omega
     · have hl : lt X Y = false := by rw [← HAG.out]; simpa [ltOf] using hcf
       have HL:=Lib.hid hl
       have hcf2:0≤cf X Y:=by omega
       have hcfB:decide (cf X Y<0)=false:=by rw [decide_eq_false_iff_not];omega
       clear hl hcf
       go_wp2_with fail
       go_quiet ((refine Calls.quiet_of (HCALL.out _)))
       go_wp2
       go_roundw
       case rel=>exact ⟨h+1,j,by go_num,rfl,by omega,by omega,hjb,Lib.hid (HSk.out.drewN _),Lib.hid (fun q h3 h4=>low_all' hL H1.out (by omega:h<m) (by rw [←HX.out,←HY.out];exact HL.out) q h3 (by omega)),HHi⟩
       case measure=>simp [intOf];omega
   · obtain rfl : i = j := by omega
     go_wp2
     go_loopw [17] (fun vk wr2=>∃(k:Nat) (dk:Array α),vk=.int .i64 k∧i≤k∧k≤m∧dk.size=d.size∧Hid (SB enc w0 g 3 rest dk wr2)∧Hid (∀q,dk[q]! = shrF d m k q)∧Hid (PermIn a b d dk)) (fun vk _=>(intOf vk).toNat)
     case atStart=>exact ⟨m,d,rfl,hjb,Nat.le_refl _,rfl,HSk,Lib.hid (fun q=>(shrF_zero d m q).symm),Lib.hid (permIn_refl _ _ _)⟩
     case round =>
       obtain ⟨k,dk,rfl,hik,hkm,hsk,HSk2,HR,HP⟩:=hrel
       clear HSk
       by_cases hk:i<k
       · obtain ⟨u, rfl⟩ : ∃ u, k = u + 1 := ⟨k - 1, by omega⟩
         have hc1:=HSk2.out.cell (u+1) (by omega)
         have hc2:=HSk2.out.cell u (by omega)
         have hf1:=HSk2.out.free (u+1)
         have hf2:=HSk2.out.free u
         obtain ⟨X,hX⟩:∃X,X=dk[u+1]! := ⟨_,rfl⟩
         obtain ⟨Y,hY⟩:∃Y,Y=dk[u]! := ⟨_,rfl⟩
         rw [←hX] at hc1
         rw [←hY] at hc2
         have HX:=Lib.hid hX
         have HY:=Lib.hid hY
         obtain ⟨x,hx⟩:=hE X
         obtain ⟨y,hy⟩:=hE Y
         rw [hx] at hc1
         rw [hy] at hc2
         have HEx:=Lib.hid hx
         have HEy:=Lib.hid hy
         clear hx hy hX hY
         have hj1:((u:Int)+1).toNat=u+1:=by omega
         have hj2:((u:Int)+1-1)=u:=by omega
         have hb1:(u:Int)<(d.size:Int):=by omega
         have hb2:(u:Int)+1<(d.size:Int):=by omega
         go_wp2
         go_region
         all_goals go_wp2
         go_roundw
         case rel =>
           refine ⟨u,swp dk (u+1) u,by go_num,by omega,by omega,by rw [size_swp];exact hsk,?_,Lib.hid (shrF_step d dk m u (by omega) (by omega) HR.out),Lib.hid (permIn_trans _ _ _ _ _ HP.out (swp_permIn dk a b (u+1) u (by omega) (by omega) (by omega) (by omega) (by omega)))⟩
           have hw:=HSk2.out.swp (u+1) u (by omega) (by omega) 1
           rw [←HX.out,←HY.out,HEx.out,HEy.out] at hw
           exact Lib.hid hw
         case measure=>simp [intOf]
       · obtain rfl : i = k := by omega
         go_wp2
         go_end0
         refine ⟨rfl,dk,hsk,HSk2.out,HP.out,?_⟩
         rw [hbm]
         exact zg1 hL d dk a m i hai hjb H1.out HLo.out HHi.out HR.out
def MergeSaid {α:Type} [Inhabited α] (enc:α→Value) (cf:α→α→Int) (lt:α→α→Bool) (D:α→Prop) (f:FuncId) (cb:Array Value) (g cap:Nat) (rest:List Value) (n:Nat) (w0:World) (N:Nat):Prop :=
 ∀(a m b:Nat) (d:Array α) (w:World),b-a≤N→d.size=n→SB enc w0 g 3 rest d w→(∀i,i<d.size→D d[i]!)→a<m→m<b→b≤n→SortedIn lt a m d→SortedIn lt m b d→zcO (ltOf cf) lt d a m b →
   Calls Tryz.prog 250 #[.slice (some ⟨g,0,none⟩) n cap,.int .i64 a,.int .i64 m,.int .i64 b,.func (.func f) #[] cb] w fun e w'=>zfQ enc lt g a b rest d w0 e w'
def FinSaid {α:Type} [Inhabited α] (enc:α→Value) (lt:α→α→Bool) (f:FuncId) (cb:Array Value) (g cap:Nat) (rest:List Value) (n:Nat) (w0:World) (a m b mid s0 r0:Nat) (d:Array α):Prop :=
 ∀(s:Nat) (wr:World),s0≤s→s≤r0→SB enc w0 g 3 rest d wr→(s0<s→lt d[mid+m-s]! d[s-1]! = false)→(s<r0→lt d[mid+m-s-1]! d[s]! = true) →
     ∃e,e=mid+m-s∧m≤e∧e≤b∧mid≤e∧s+(e-m)=mid ∧
     (s<m→m<e→Calls Tryz.prog 253 #[.slice (some ⟨g,0,none⟩) n cap,.int .i64 s,.int .i64 m,.int .i64 e,.func (.func f) #[] cb] wr fun e1 w'=>e1=.returned (.tuple #[])∧∃R:Array α,R.size=n∧SB enc w0 g 3 rest R w'∧(∀k,R[k]! = rotF d s m e k)∧PermIn a b d R) ∧
     (∀(R:Array α) (W:World),R.size=n→SB enc w0 g 3 rest R W→(∀k,R[k]! = rotF d s m e k)→PermIn a b d R→a<s→s<mid→Calls Tryz.prog 250 #[.slice (some ⟨g,0,none⟩) n cap,.int .i64 a,.int .i64 s,.int .i64 mid,.func (.func f) #[] cb] W fun e1 w'=>zfQ enc lt g a mid rest R w0 e1 w') ∧
     (∀(R R1:Array α) (W:World),R.size=n→R1.size=n→SB enc w0 g 3 rest R1 W→(∀k,R[k]! = rotF d s m e k)→PermIn a b d R→PermIn a mid R R1→mid<e→e<b→Calls Tryz.prog 250 #[.slice (some ⟨g,0,none⟩) n cap,.int .i64 mid,.int .i64 e,.int .i64 b,.func (.func f) #[] cb] W fun e1 w'=>zfQ enc lt g mid b rest R1 w0 e1 w') ∧
     (∀R:Array α,(∀k,R[k]! = rotF d s m e k)→(s=a∨s=mid)→SortedIn lt a mid R) ∧
     (∀R R1:Array α,(∀k,R[k]! = rotF d s m e k)→PermIn a mid R R1→(e=mid∨e=b)→SortedIn lt mid b R1) ∧
     (∀R R1 R2:Array α,R.size=n→(∀k,R[k]! = rotF d s m e k)→PermIn a b d R→PermIn a mid R R1→SortedIn lt a mid R1→PermIn mid b R1 R2→SortedIn lt mid b R2→PermIn a b d R2∧SortedIn lt a b R2)
theorem sym_fin {α:Type} [Inhabited α] (enc:α→Value) (hE:∀x,∃n,enc x=.int .i64 n) (cf:α→α→Int) (lt:α→α→Bool) (hL:SWO lt) (D:α→Prop) (f:FuncId) (cb:Array Value) (g cap:Nat) (rest:List Value) (n:Nat) (w0:World) (N:Nat)
   (hsz:n<4611686018427387904) (ih:MergeSaid enc cf lt D f cb g cap rest n w0 N)
   (a m b mid s0 r0:Nat) (d:Array α) (hN:b-a≤N+1) (hdn:d.size=n) (hD:∀i,i<d.size→D d[i]!) (hb:b≤n) (h1:SortedIn lt a m d) (h2:SortedIn lt m b d) (hA:zcO (ltOf cf) lt d a m b)
   (hma:a<mid) (hmB:mid<b) (hs0a:a≤s0) (hr0m:r0≤m) (hr0d:r0≤mid) (hs0b:mid+m-s0≤b) (hend0:s0=a∨mid+m-s0=b) (hend1:r0=m∨r0=mid):FinSaid enc lt f cb g cap rest n w0 a m b mid s0 r0 d:=by
 have HD:=Lib.hid hD
 have H1:=Lib.hid h1
 have H2:=Lib.hid h2
 have HA:=Lib.hid hA
 have HI:=Lib.hid ih
 clear hD h1 h2 hA ih
 intro s wr h3 h4 hSB h5 h6
 refine ⟨mid+m-s,rfl,by omega,by omega,by omega,by omega,?_,?_,?_,?_,?_,?_⟩
 · intro h7 h8
   have h9:=rot_any enc hE (.func (.func f) #[] cb) g cap s m (mid+m-s) rest d w0 wr hSB h7 h8 (by omega) (by omega)
   rw [hdn] at h9
   exact h9.mono fun e1 w' ⟨q1,R,q2,q3,q4,q5⟩=>⟨q1,R,q2,q3,q4,permIn_mono d R s (mid+m-s) a b (by omega) (by omega) (by omega) q5⟩
 · intro R W hR1 hR2 hR3 hR4 h7 h8
   refine HI.out a s mid R W (by omega) hR1 hR2 (zbO D (by omega) hR4 HD.out) h7 h8 (by omega) (sp1 hR3 (by omega) (by omega) H1.out) ?_ ?_
   · have := sp2 hR3 (by omega) (by omega) (by omega) H2.out
     rwa [show s+(mid+m-s-m)=mid from by omega] at this
   · have := agree_lo hR3 (a := a) (by omega) (by omega) (by omega : mid + m - s ≤ b) HA.out
     rwa [show s+(mid+m-s-m)=mid from by omega] at this
 · intro R R1 W hR1 hR2 hR3 hR4 hR5 hR6 h7 h8
   have hc:∀k,mid≤k→R1[k]! = R[k]! := fun k hk=>hR6.2.1 k (by omega)
   refine HI.out mid (mid+m-s) b R1 W (by omega) hR2 hR3 (zbO D (by omega) hR6 (zbO D (by omega) hR5 HD.out)) h7 h8 hb ?_ ?_ ?_
   · have := sp3 hR4 (a := a) (by omega) (by omega) (by omega) H1.out
     rw [show s+(mid+m-s-m)=mid from by omega] at this
     exact zbf this (fun k h9 _=>hc k h9)
   · exact zbf (sp4 hR4 (by omega) (by omega) (by omega) H2.out) (fun k h9 _=>hc k (by omega))
   · have := agree_hi hR4 (b := b) (by omega : a ≤ s) (by omega) (by omega) HA.out
     rw [show s+(mid+m-s-m)=mid from by omega] at this
     exact zgs this (fun k h9 _=>hc k h9)
 · intro R hR h7
   have:=skip_lo hR (by omega:a≤s) (by omega) (by omega) (by omega:mid+m-s≤b) H1.out H2.out (by omega)
   rwa [show s+(mid+m-s-m)=mid from by omega] at this
 · intro R R1 hR hP h7
   have:=skip_hi hR (by omega:a≤s) (by omega) (by omega) (by omega:mid+m-s≤b) H1.out H2.out (by omega)
   rw [show s+(mid+m-s-m)=mid from by omega] at this
   exact zbf this (fun k h9 _=>hP.2.1 k (by omega))
 · intro R R1 R2 hR1 hR hP p1 s1 p2 s2
   have hm2:s+(mid+m-s-m)=mid:=by omega
   refine ⟨permIn_trans _ _ _ _ _ (permIn_trans _ _ _ _ _ hP (permIn_mono R R1 a mid a b (by omega) (by omega) (by omega) p1)) (permIn_mono R1 R2 mid b a b (by omega) (by omega) (by have:=p1.1;omega) p2),?_⟩
   refine zgH hL d R R1 R2 a m b s (mid+m-s) (by omega) (by omega) (by omega) (by omega) (by omega) (by omega) H1.out H2.out hR (fun q1 q2=>h5 (by omega)) (fun q1 q2=>?_) (by rw [hm2];exact p1) (by rw [hm2];exact s1) (by rw [hm2];exact p2) (by rw [hm2];exact s2)
   have h8:=h6 (by omega)
   cases h9:lt d[s]! d[mid+m-s-1]! with
   | false=>rfl
   | true=>have:=hL.trans _ _ _ h8 h9;rw [hL.irrefl] at this;cases this
theorem sym_hi {α:Type} [Inhabited α] (enc:α→Value) (hE:∀x,∃n,enc x=.int .i64 n) (cf:α→α→Int) (lt:α→α→Bool) (D:α→Prop) (f:FuncId) (cb:Array Value) (g cap:Nat) (rest:List Value) (n:Nat) (w0:World)
   (hC:CmpQ Tryz.prog f cb enc cf D w0 g) (hsz:n<4611686018427387904) (a m b mid s0 r0:Nat) (d:Array α) (w:World) (hdn:d.size=n) (hS:SB enc w0 g 3 rest d w) (hD:∀i,i<d.size→D d[i]!) (ham:a+1<m) (hmb:m+1<b) (hb:b≤n) (hA:zcO (ltOf cf) lt d a m b)
   (hmid:mid=(a+b) / 2) (hcase:mid<m) (hs0:s0=mid+m-b) (hr0:r0=mid) (hfin:FinSaid enc lt f cb g cap rest n w0 a m b mid s0 r0 d) :
   Calls Tryz.prog 250 #[.slice (some ⟨g,0,none⟩) n cap,.int .i64 a,.int .i64 m,.int .i64 b,.func (.func f) #[] cb] w fun e w'=>zfQ enc lt g a b rest d w0 e w':=by
 have hne1:((m:Int)-(a:Int)==1)=false:=by rw [beq_eq_false_iff_ne];omega
 have hne2:((b:Int)-(m:Int)==1)=false:=by rw [beq_eq_false_iff_ne];omega
 have hmid1:((a:Int)+(b:Int)) / 2=(mid:Int):=by omega
 have hma:a<mid:=by omega
 have hmB:mid<b:=by omega
 have hsr:s0≤r0:=by omega
 have hs0a:a≤s0:=by omega
 have hr0m:r0≤m:=by omega
 have hr0d:r0≤mid:=by omega
 have hs0b:mid+m-s0≤b:=by omega
 have hend0:s0=a∨mid+m-s0=b:=by omega
 have hend1:r0=m∨r0=mid:=by omega
 have eg:=hC.enters
 have HC:=Lib.hid hC
 have HS:=Lib.hid hS
 have HD:=Lib.hid hD
 have HA:=Lib.hid hA
 have HS0:=Lib.hid hs0
 have HR0:=Lib.hid hr0
 have FIN:=Lib.hid hfin
 clear hC hS hD hA hs0 hr0 hmid hfin
 go_enter Tryz.func250,Tryz.ntmps250
 go_wp2
 go_loopw [20,21] (fun vs vr wr=>∃(s r:Nat),vs=.int .i64 s∧vr=.int .i64 r∧s0≤s∧s≤r∧r≤r0∧Hid (SB enc w0 g 3 rest d wr)∧Hid (s0<s→lt d[mid+m-s]! d[s-1]! = false)∧Hid (r<r0→lt d[mid+m-r-1]! d[r]! = true)) (fun vs vr _=>(intOf vr).toNat-(intOf vs).toNat)
 case atStart=>exact ⟨s0,r0,by have:=HS0.out;go_num,by have:=HR0.out;go_num,Nat.le_refl _,hsr,Nat.le_refl _,HS,Lib.hid (fun h=>absurd h (Nat.lt_irrefl _)),Lib.hid (fun h=>absurd h (Nat.lt_irrefl _))⟩
 case round =>
   obtain ⟨s,r,rfl,rfl,h3,h4,h5,HSk,HLo,HHi⟩:=hrel
   clear HS
   by_cases hlt:s<r
   · obtain ⟨c,hc⟩:∃c,c=(s+r) / 2:=⟨_,rfl⟩
     have hc1:=HSk.out.cell (mid+m-1-c) (by omega)
     have hc2:=HSk.out.cell c (by omega)
     have hcall:=fun q=>HC.out.calls (wr.drewN q) (HSk.out.drewN q).grown d[mid+m-1-c]! d[c]! (HD.out (mid+m-1-c) (by omega)) (HD.out c (by omega))
     have hag:=HA.out c (mid+m-1-c) (by omega) (by omega) (by omega) (by omega)
     obtain ⟨X,hX⟩:∃X,X=d[mid+m-1-c]! := ⟨_,rfl⟩
     obtain ⟨Y,hY⟩:∃Y,Y=d[c]! := ⟨_,rfl⟩
     rw [←hX] at hc1 hcall hag
     rw [←hY] at hc2 hcall hag
     have HX:=Lib.hid hX
     have HY:=Lib.hid hY
     obtain ⟨x,hx⟩:=hE X
     obtain ⟨y,hy⟩:=hE Y
     rw [hx] at hc1 hcall
     rw [hy] at hc2 hcall
     have HCALL:=Lib.hid hcall
     have HAG:=Lib.hid hag
     clear hcall hx hy hX hY hag
     have hh1:((s:Int)+(r:Int)) / 2=(c:Int):=by omega
     have hidx:((mid:Int)+(m:Int)-1-(c:Int)).toNat=mid+m-1-c:=by omega
     have hi0:0≤(mid:Int)+(m:Int)-1-(c:Int):=by omega
     have hi1:(mid:Int)+(m:Int)-1-(c:Int)<(n:Int):=by omega
     have hcn:(c:Int)<(n:Int):=by omega
     have hhi:s≤c:=by omega
     have hhj:c<r:=by omega
     clear hc
     by_cases hcf:cf X Y<0
     · have hl : lt X Y = true := by rw [← HAG.out]; simpa [ltOf] using hcf
       have HL:=Lib.hid hl
       have hcf2:cf X Y<0:=hcf
       have hcfB:decide (cf X Y<0)=true:=by rw [decide_eq_true_iff];exact hcf
       clear hl hcf
       go_wp2_with fail
       go_quiet ((refine Calls.quiet_of (HCALL.out _)))
       go_wp2
       go_roundw
       case rel=>exact ⟨s,c,rfl,rfl,h3,hhi,by omega,Lib.hid (HSk.out.drewN _),HLo,Lib.hid (fun _=>by rw [show mid+m-c-1=mid+m-1-c from by omega,←HX.out,←HY.out];exact HL.out)⟩
       case measure=>simp [intOf];omega
     · have hl : lt X Y = false := by rw [← HAG.out]; simpa [ltOf] using hcf
       have HL:=Lib.hid hl
       have hcf2:0≤cf X Y:=by omega
       have hcfB:decide (cf X Y<0)=false:=by rw [decide_eq_false_iff_not];omega
       clear hl hcf
       go_wp2_with fail
       go_quiet ((refine Calls.quiet_of (HCALL.out _)))
       go_wp2
       go_roundw
       case rel=>exact ⟨c+1,r,by go_num,rfl,by omega,by omega,h5,Lib.hid (HSk.out.drewN _),Lib.hid (fun _=>by rw [show mid+m-(c+1)=mid+m-1-c from by omega,Nat.add_sub_cancel,←HX.out,←HY.out];exact HL.out),HHi⟩
       case measure=>simp [intOf];omega
   · obtain rfl : s = r := by omega
     obtain ⟨e,he,hme,heb,hde,hsum,FROT,FS1,FS2,FK1,FK2,FD⟩:=FIN.out s wr h3 h5 HSk.out HLo.out HHi.out
     have he1:(mid:Int)+(m:Int)-(s:Int)=(e:Int):=by omega
     replace FROT:=Lib.hid FROT
     replace FS1:=Lib.hid FS1
     replace FS2:=Lib.hid FS2
     replace FK1:=Lib.hid FK1
     replace FK2:=Lib.hid FK2
     replace FD:=Lib.hid FD
     clear he
     by_cases hA1:s<m
     · by_cases hB1:m<e
       · by_cases hC1:a<s
         · by_cases hE1:e<b
           · have hq0 : (s : Int) < (mid : Int) := by omega
             have hq1:(mid:Int)<(e:Int):=by omega
             have HROT:=Lib.hid (FROT.out (by omega) (by omega))
             go_wp2_with fail
             (with_reducible refine HROT.out.mono ?_)
             rintro e1 w2 ⟨rfl,R,hRs,hRB,hRk,hRp⟩
             have HB2:=Lib.hid hRB
             have HRK:=Lib.hid hRk
             have HRP:=Lib.hid hRp
             clear hRB hRk hRp
             have hs1:=FS1.out R w2 hRs HB2.out HRK.out HRP.out (by omega) (by omega)
             have HS1C:=Lib.hid hs1
             clear hs1
             go_wp2_with fail
             (with_reducible refine HS1C.out.mono ?_)
             rintro e2 w3 ⟨rfl,R1,hR1s',hR1B,hR1p,hR1o⟩
             have hR1s:R1.size=n:=hR1s'.trans hRs
             have HB3:=Lib.hid hR1B
             have HP1:=Lib.hid hR1p
             have HO1:=Lib.hid hR1o
             clear hR1s' hR1B hR1p hR1o
             have hs2:=FS2.out R R1 w3 hRs hR1s HB3.out HRK.out HRP.out HP1.out (by omega) (by omega)
             have HS2C:=Lib.hid hs2
             clear hs2
             go_wp2_with fail
             (with_reducible refine HS2C.out.mono ?_)
             rintro e3 w4 ⟨rfl,R2,hR2s',hR2B,hR2p,hR2o⟩
             have hR2s:R2.size=n:=hR2s'.trans hR1s
             have HB4:=Lib.hid hR2B
             have HP2:=Lib.hid hR2p
             have HO2:=Lib.hid hR2o
             clear hR2s' hR2B hR2p hR2o
             go_wp2
             all_goals go_end0
             all_goals exact ⟨rfl,R2,hR2s.trans hdn.symm,HB4.out,FD.out R R1 R2 hRs HRK.out HRP.out HP1.out HO1.out HP2.out HO2.out⟩
           · have hq0 : (s : Int) < (mid : Int) := by omega
             have hq1:(mid:Int)<(e:Int):=by omega
             have hq2:(b:Int)≤(e:Int):=by omega
             have HROT:=Lib.hid (FROT.out (by omega) (by omega))
             go_wp2_with fail
             (with_reducible refine HROT.out.mono ?_)
             rintro e1 w2 ⟨rfl,R,hRs,hRB,hRk,hRp⟩
             have HB2:=Lib.hid hRB
             have HRK:=Lib.hid hRk
             have HRP:=Lib.hid hRp
             clear hRB hRk hRp
             have hs1:=FS1.out R w2 hRs HB2.out HRK.out HRP.out (by omega) (by omega)
             have HS1C:=Lib.hid hs1
             clear hs1
             go_wp2_with fail
             (with_reducible refine HS1C.out.mono ?_)
             rintro e2 w3 ⟨rfl,R1,hR1s',hR1B,hR1p,hR1o⟩
             have hR1s:R1.size=n:=hR1s'.trans hRs
             have HB3:=Lib.hid hR1B
             have HP1:=Lib.hid hR1p
             have HO1:=Lib.hid hR1o
             clear hR1s' hR1B hR1p hR1o
             have hR2s:R1.size=n:=hR1s
             have HB4:=Lib.hid HB3.out
             have HP2:=Lib.hid (permIn_refl R1 mid b)
             have HO2:=Lib.hid (FK2.out R R1 HRK.out HP1.out (by omega))
             go_wp2
             all_goals go_end0
             all_goals exact ⟨rfl,R1,hR2s.trans hdn.symm,HB4.out,FD.out R R1 R1 hRs HRK.out HRP.out HP1.out HO1.out HP2.out HO2.out⟩
         · by_cases hE1:e<b
           · have hq0 : (s : Int) < (mid : Int) := by omega
             have hq1:(mid:Int)<(e:Int):=by omega
             have hq2:(s:Int)≤(a:Int):=by omega
             have HROT:=Lib.hid (FROT.out (by omega) (by omega))
             go_wp2_with fail
             (with_reducible refine HROT.out.mono ?_)
             rintro e1 w2 ⟨rfl,R,hRs,hRB,hRk,hRp⟩
             have HB2:=Lib.hid hRB
             have HRK:=Lib.hid hRk
             have HRP:=Lib.hid hRp
             clear hRB hRk hRp
             have hR1s:R.size=n:=hRs
             have HB3:=Lib.hid HB2.out
             have HP1:=Lib.hid (permIn_refl R a mid)
             have HO1:=Lib.hid (FK1.out R HRK.out (by omega))
             have hs2:=FS2.out R R w2 hRs hR1s HB3.out HRK.out HRP.out HP1.out (by omega) (by omega)
             have HS2C:=Lib.hid hs2
             clear hs2
             go_wp2_with fail
             (with_reducible refine HS2C.out.mono ?_)
             rintro e3 w4 ⟨rfl,R2,hR2s',hR2B,hR2p,hR2o⟩
             have hR2s:R2.size=n:=hR2s'.trans hR1s
             have HB4:=Lib.hid hR2B
             have HP2:=Lib.hid hR2p
             have HO2:=Lib.hid hR2o
             clear hR2s' hR2B hR2p hR2o
             go_wp2
             all_goals go_end0
             all_goals exact ⟨rfl,R2,hR2s.trans hdn.symm,HB4.out,FD.out R R R2 hRs HRK.out HRP.out HP1.out HO1.out HP2.out HO2.out⟩
           · have hq0 : (s : Int) < (mid : Int) := by omega
             have hq1:(mid:Int)<(e:Int):=by omega
             have hq2:(s:Int)≤(a:Int):=by omega
             have hq3:(b:Int)≤(e:Int):=by omega
             have HROT:=Lib.hid (FROT.out (by omega) (by omega))
             go_wp2_with fail
             (with_reducible refine HROT.out.mono ?_)
             rintro e1 w2 ⟨rfl,R,hRs,hRB,hRk,hRp⟩
             have HB2:=Lib.hid hRB
             have HRK:=Lib.hid hRk
             have HRP:=Lib.hid hRp
             clear hRB hRk hRp
             have hR1s:R.size=n:=hRs
             have HB3:=Lib.hid HB2.out
             have HP1:=Lib.hid (permIn_refl R a mid)
             have HO1:=Lib.hid (FK1.out R HRK.out (by omega))
             have hR2s:R.size=n:=hR1s
             have HB4:=Lib.hid HB3.out
             have HP2:=Lib.hid (permIn_refl R mid b)
             have HO2:=Lib.hid (FK2.out R R HRK.out HP1.out (by omega))
             go_wp2
             all_goals go_end0
             all_goals exact ⟨rfl,R,hR2s.trans hdn.symm,HB4.out,FD.out R R R hRs HRK.out HRP.out HP1.out HO1.out HP2.out HO2.out⟩
       · have hq0 : (e : Int) ≤ (m : Int) := by omega
         have hq1:(mid:Int)≤(s:Int):=by omega
         have hq2:(a:Int)<(s:Int):=by omega
         have hq3:(e:Int)<(b:Int):=by omega
         have hq4:(mid:Int)<(e:Int):=by omega
         have hRs:d.size=n:=hdn
         have HB2:=Lib.hid HSk.out
         have HRK:=Lib.hid (zbx d s m e (by omega) (by omega) (by omega))
         have HRP:=Lib.hid (permIn_refl d a b)
         have hR1s:d.size=n:=hRs
         have HB3:=Lib.hid HB2.out
         have HP1:=Lib.hid (permIn_refl d a mid)
         have HO1:=Lib.hid (FK1.out d HRK.out (by omega))
         have hs2:=FS2.out d d wr hRs hR1s HB3.out HRK.out HRP.out HP1.out (by omega) (by omega)
         have HS2C:=Lib.hid hs2
         clear hs2
         go_wp2_with fail
         all_goals
           (with_reducible refine HS2C.out.mono ?_)
           rintro e3 w4 ⟨rfl,R2,hR2s',hR2B,hR2p,hR2o⟩
           have hR2s:R2.size=n:=hR2s'.trans hR1s
           have HB4:=Lib.hid hR2B
           have HP2:=Lib.hid hR2p
           have HO2:=Lib.hid hR2o
           clear hR2s' hR2B hR2p hR2o
           go_wp2
           all_goals go_end0
           all_goals exact ⟨rfl,R2,hR2s.trans hdn.symm,HB4.out,FD.out d d R2 hRs HRK.out HRP.out HP1.out HO1.out HP2.out HO2.out⟩
     · by_cases hB1:m<e
       · have hq0 : (m : Int) ≤ (s : Int) := by omega
         have hq1:(s:Int)<(mid:Int):=by omega
         have hq2:(a:Int)<(s:Int):=by omega
         have hq3:(e:Int)<(b:Int):=by omega
         have hq4:(e:Int)≤(mid:Int):=by omega
         have hRs:d.size=n:=hdn
         have HB2:=Lib.hid HSk.out
         have HRK:=Lib.hid (zbx d s m e (by omega) (by omega) (by omega))
         have HRP:=Lib.hid (permIn_refl d a b)
         have hs1:=FS1.out d wr hRs HB2.out HRK.out HRP.out (by omega) (by omega)
         have HS1C:=Lib.hid hs1
         clear hs1
         go_wp2_with fail
         all_goals
           (with_reducible refine HS1C.out.mono ?_)
           rintro e2 w3 ⟨rfl,R1,hR1s',hR1B,hR1p,hR1o⟩
           have hR1s:R1.size=n:=hR1s'.trans hRs
           have HB3:=Lib.hid hR1B
           have HP1:=Lib.hid hR1p
           have HO1:=Lib.hid hR1o
           clear hR1s' hR1B hR1p hR1o
           have hR2s:R1.size=n:=hR1s
           have HB4:=Lib.hid HB3.out
           have HP2:=Lib.hid (permIn_refl R1 mid b)
           have HO2:=Lib.hid (FK2.out d R1 HRK.out HP1.out (by omega))
           go_wp2
           all_goals go_end0
           all_goals exact ⟨rfl,R1,hR2s.trans hdn.symm,HB4.out,FD.out d R1 R1 hRs HRK.out HRP.out HP1.out HO1.out HP2.out HO2.out⟩
       · have hq0 : (m : Int) ≤ (s : Int) := by omega
         have hq1:(e:Int)≤(m:Int):=by omega
         have hq2:(mid:Int)≤(s:Int):=by omega
         have hq3:(a:Int)<(s:Int):=by omega
         have hq4:(e:Int)<(b:Int):=by omega
         have hq5:(e:Int)≤(mid:Int):=by omega
         have hRs:d.size=n:=hdn
         have HB2:=Lib.hid HSk.out
         have HRK:=Lib.hid (zbx d s m e (by omega) (by omega) (by omega))
         have HRP:=Lib.hid (permIn_refl d a b)
         have hR1s:d.size=n:=hRs
         have HB3:=Lib.hid HB2.out
         have HP1:=Lib.hid (permIn_refl d a mid)
         have HO1:=Lib.hid (FK1.out d HRK.out (by omega))
         have hR2s:d.size=n:=hR1s
         have HB4:=Lib.hid HB3.out
         have HP2:=Lib.hid (permIn_refl d mid b)
         have HO2:=Lib.hid (FK2.out d d HRK.out HP1.out (by omega))
         go_wp2
         all_goals
           all_goals go_end0
           all_goals exact ⟨rfl,d,hR2s.trans hdn.symm,HB4.out,FD.out d d d hRs HRK.out HRP.out HP1.out HO1.out HP2.out HO2.out⟩
theorem sym_lo {α:Type} [Inhabited α] (enc:α→Value) (hE:∀x,∃n,enc x=.int .i64 n) (cf:α→α→Int) (lt:α→α→Bool) (D:α→Prop) (f:FuncId) (cb:Array Value) (g cap:Nat) (rest:List Value) (n:Nat) (w0:World)
   (hC:CmpQ Tryz.prog f cb enc cf D w0 g) (hsz:n<4611686018427387904) (a m b mid s0 r0:Nat) (d:Array α) (w:World) (hdn:d.size=n) (hS:SB enc w0 g 3 rest d w) (hD:∀i,i<d.size→D d[i]!) (ham:a+1<m) (hmb:m+1<b) (hb:b≤n) (hA:zcO (ltOf cf) lt d a m b)
   (hmid:mid=(a+b) / 2) (hcase:m≤mid) (hs0:s0=a) (hr0:r0=m) (hfin:FinSaid enc lt f cb g cap rest n w0 a m b mid s0 r0 d) :
   Calls Tryz.prog 250 #[.slice (some ⟨g,0,none⟩) n cap,.int .i64 a,.int .i64 m,.int .i64 b,.func (.func f) #[] cb] w fun e w'=>zfQ enc lt g a b rest d w0 e w':=by
 have hne1:((m:Int)-(a:Int)==1)=false:=by rw [beq_eq_false_iff_ne];omega
 have hne2:((b:Int)-(m:Int)==1)=false:=by rw [beq_eq_false_iff_ne];omega
 have hmid1:((a:Int)+(b:Int)) / 2=(mid:Int):=by omega
 have hma:a<mid:=by omega
 have hmB:mid<b:=by omega
 have hsr:s0≤r0:=by omega
 have hs0a:a≤s0:=by omega
 have hr0m:r0≤m:=by omega
 have hr0d:r0≤mid:=by omega
 have hs0b:mid+m-s0≤b:=by omega
 have hend0:s0=a∨mid+m-s0=b:=by omega
 have hend1:r0=m∨r0=mid:=by omega
 have eg:=hC.enters
 have HC:=Lib.hid hC
 have HS:=Lib.hid hS
 have HD:=Lib.hid hD
 have HA:=Lib.hid hA
 have HS0:=Lib.hid hs0
 have HR0:=Lib.hid hr0
 have FIN:=Lib.hid hfin
 clear hC hS hD hA hs0 hr0 hmid hfin
 go_enter Tryz.func250,Tryz.ntmps250
 go_wp2
 go_loopw [20,21] (fun vs vr wr=>∃(s r:Nat),vs=.int .i64 s∧vr=.int .i64 r∧s0≤s∧s≤r∧r≤r0∧Hid (SB enc w0 g 3 rest d wr)∧Hid (s0<s→lt d[mid+m-s]! d[s-1]! = false)∧Hid (r<r0→lt d[mid+m-r-1]! d[r]! = true)) (fun vs vr _=>(intOf vr).toNat-(intOf vs).toNat)
 case atStart=>exact ⟨s0,r0,by have:=HS0.out;go_num,by have:=HR0.out;go_num,Nat.le_refl _,hsr,Nat.le_refl _,HS,Lib.hid (fun h=>absurd h (Nat.lt_irrefl _)),Lib.hid (fun h=>absurd h (Nat.lt_irrefl _))⟩
 case round =>
   obtain ⟨s,r,rfl,rfl,h3,h4,h5,HSk,HLo,HHi⟩:=hrel
   clear HS
   by_cases hlt:s<r
   · obtain ⟨c,hc⟩:∃c,c=(s+r) / 2:=⟨_,rfl⟩
     have hc1:=HSk.out.cell (mid+m-1-c) (by omega)
     have hc2:=HSk.out.cell c (by omega)
     have hcall:=fun q=>HC.out.calls (wr.drewN q) (HSk.out.drewN q).grown d[mid+m-1-c]! d[c]! (HD.out (mid+m-1-c) (by omega)) (HD.out c (by omega))
     have hag:=HA.out c (mid+m-1-c) (by omega) (by omega) (by omega) (by omega)
     obtain ⟨X,hX⟩:∃X,X=d[mid+m-1-c]! := ⟨_,rfl⟩
     obtain ⟨Y,hY⟩:∃Y,Y=d[c]! := ⟨_,rfl⟩
     rw [←hX] at hc1 hcall hag
     rw [←hY] at hc2 hcall hag
     have HX:=Lib.hid hX
     have HY:=Lib.hid hY
     obtain ⟨x,hx⟩:=hE X
     obtain ⟨y,hy⟩:=hE Y
     rw [hx] at hc1 hcall
     rw [hy] at hc2 hcall
     have HCALL:=Lib.hid hcall
     have HAG:=Lib.hid hag
     clear hcall hx hy hX hY hag
     have hh1:((s:Int)+(r:Int)) / 2=(c:Int):=by omega
     have hidx:((mid:Int)+(m:Int)-1-(c:Int)).toNat=mid+m-1-c:=by omega
     have hi0:0≤(mid:Int)+(m:Int)-1-(c:Int):=by omega
     have hi1:(mid:Int)+(m:Int)-1-(c:Int)<(n:Int):=by omega
     have hcn:(c:Int)<(n:Int):=by omega
     have hhi:s≤c:=by omega
     have hhj:c<r:=by omega
     clear hc
     by_cases hcf:cf X Y<0
     · have hl : lt X Y = true := by rw [← HAG.out]; simpa [ltOf] using hcf
       have HL:=Lib.hid hl
       have hcf2:cf X Y<0:=hcf
       have hcfB:decide (cf X Y<0)=true:=by rw [decide_eq_true_iff];exact hcf
       clear hl hcf
       go_wp2_with fail
       go_quiet ((refine Calls.quiet_of (HCALL.out _)))
       go_wp2
       go_roundw
       case rel=>exact ⟨s,c,rfl,rfl,h3,hhi,by omega,Lib.hid (HSk.out.drewN _),HLo,Lib.hid (fun _=>by rw [show mid+m-c-1=mid+m-1-c from by omega,←HX.out,←HY.out];exact HL.out)⟩
       case measure=>simp [intOf];omega
     · have hl : lt X Y = false := by rw [← HAG.out]; simpa [ltOf] using hcf
       have HL:=Lib.hid hl
       have hcf2:0≤cf X Y:=by omega
       have hcfB:decide (cf X Y<0)=false:=by rw [decide_eq_false_iff_not];omega
       clear hl hcf
       go_wp2_with fail
       go_quiet ((refine Calls.quiet_of (HCALL.out _)))
       go_wp2
       go_roundw
       case rel=>exact ⟨c+1,r,by go_num,rfl,by omega,by omega,h5,Lib.hid (HSk.out.drewN _),Lib.hid (fun _=>by rw [show mid+m-(c+1)=mid+m-1-c from by omega,Nat.add_sub_cancel,←HX.out,←HY.out];exact HL.out),HHi⟩
       case measure=>simp [intOf];omega
   · obtain rfl : s = r := by omega
     obtain ⟨e,he,hme,heb,hde,hsum,FROT,FS1,FS2,FK1,FK2,FD⟩:=FIN.out s wr h3 h5 HSk.out HLo.out HHi.out
     have he1:(mid:Int)+(m:Int)-(s:Int)=(e:Int):=by omega
     replace FROT:=Lib.hid FROT
     replace FS1:=Lib.hid FS1
     replace FS2:=Lib.hid FS2
     replace FK1:=Lib.hid FK1
     replace FK2:=Lib.hid FK2
     replace FD:=Lib.hid FD
     clear he
     by_cases hA1:s<m
     · by_cases hB1:m<e
       · by_cases hC1:a<s
         · by_cases hE1:e<b
           · have hq0 : (s : Int) < (mid : Int) := by omega
             have hq1:(mid:Int)<(e:Int):=by omega
             have HROT:=Lib.hid (FROT.out (by omega) (by omega))
             go_wp2_with fail
             (with_reducible refine HROT.out.mono ?_)
             rintro e1 w2 ⟨rfl,R,hRs,hRB,hRk,hRp⟩
             have HB2:=Lib.hid hRB
             have HRK:=Lib.hid hRk
             have HRP:=Lib.hid hRp
             clear hRB hRk hRp
             have hs1:=FS1.out R w2 hRs HB2.out HRK.out HRP.out (by omega) (by omega)
             have HS1C:=Lib.hid hs1
             clear hs1
             go_wp2_with fail
             (with_reducible refine HS1C.out.mono ?_)
             rintro e2 w3 ⟨rfl,R1,hR1s',hR1B,hR1p,hR1o⟩
             have hR1s:R1.size=n:=hR1s'.trans hRs
             have HB3:=Lib.hid hR1B
             have HP1:=Lib.hid hR1p
             have HO1:=Lib.hid hR1o
             clear hR1s' hR1B hR1p hR1o
             have hs2:=FS2.out R R1 w3 hRs hR1s HB3.out HRK.out HRP.out HP1.out (by omega) (by omega)
             have HS2C:=Lib.hid hs2
             clear hs2
             go_wp2_with fail
             (with_reducible refine HS2C.out.mono ?_)
             rintro e3 w4 ⟨rfl,R2,hR2s',hR2B,hR2p,hR2o⟩
             have hR2s:R2.size=n:=hR2s'.trans hR1s
             have HB4:=Lib.hid hR2B
             have HP2:=Lib.hid hR2p
             have HO2:=Lib.hid hR2o
             clear hR2s' hR2B hR2p hR2o
             go_wp2
             all_goals go_end0
             all_goals exact ⟨rfl,R2,hR2s.trans hdn.symm,HB4.out,FD.out R R1 R2 hRs HRK.out HRP.out HP1.out HO1.out HP2.out HO2.out⟩
           · have hq0 : (s : Int) < (mid : Int) := by omega
             have hq1:(mid:Int)<(e:Int):=by omega
             have hq2:(b:Int)≤(e:Int):=by omega
             have HROT:=Lib.hid (FROT.out (by omega) (by omega))
             go_wp2_with fail
             (with_reducible refine HROT.out.mono ?_)
             rintro e1 w2 ⟨rfl,R,hRs,hRB,hRk,hRp⟩
             have HB2:=Lib.hid hRB
             have HRK:=Lib.hid hRk
             have HRP:=Lib.hid hRp
             clear hRB hRk hRp
             have hs1:=FS1.out R w2 hRs HB2.out HRK.out HRP.out (by omega) (by omega)
             have HS1C:=Lib.hid hs1
             clear hs1
             go_wp2_with fail
             (with_reducible refine HS1C.out.mono ?_)
             rintro e2 w3 ⟨rfl,R1,hR1s',hR1B,hR1p,hR1o⟩
             have hR1s:R1.size=n:=hR1s'.trans hRs
             have HB3:=Lib.hid hR1B
             have HP1:=Lib.hid hR1p
             have HO1:=Lib.hid hR1o
             clear hR1s' hR1B hR1p hR1o
             have hR2s:R1.size=n:=hR1s
             have HB4:=Lib.hid HB3.out
             have HP2:=Lib.hid (permIn_refl R1 mid b)
             have HO2:=Lib.hid (FK2.out R R1 HRK.out HP1.out (by omega))
             go_wp2
             all_goals go_end0
             all_goals exact ⟨rfl,R1,hR2s.trans hdn.symm,HB4.out,FD.out R R1 R1 hRs HRK.out HRP.out HP1.out HO1.out HP2.out HO2.out⟩
         · by_cases hE1:e<b
           · have hq0 : (s : Int) < (mid : Int) := by omega
             have hq1:(mid:Int)<(e:Int):=by omega
             have hq2:(s:Int)≤(a:Int):=by omega
             have HROT:=Lib.hid (FROT.out (by omega) (by omega))
             go_wp2_with fail
             (with_reducible refine HROT.out.mono ?_)
             rintro e1 w2 ⟨rfl,R,hRs,hRB,hRk,hRp⟩
             have HB2:=Lib.hid hRB
             have HRK:=Lib.hid hRk
             have HRP:=Lib.hid hRp
             clear hRB hRk hRp
             have hR1s:R.size=n:=hRs
             have HB3:=Lib.hid HB2.out
             have HP1:=Lib.hid (permIn_refl R a mid)
             have HO1:=Lib.hid (FK1.out R HRK.out (by omega))
             have hs2:=FS2.out R R w2 hRs hR1s HB3.out HRK.out HRP.out HP1.out (by omega) (by omega)
             have HS2C:=Lib.hid hs2
             clear hs2
             go_wp2_with fail
             (with_reducible refine HS2C.out.mono ?_)
             rintro e3 w4 ⟨rfl,R2,hR2s',hR2B,hR2p,hR2o⟩
             have hR2s:R2.size=n:=hR2s'.trans hR1s
             have HB4:=Lib.hid hR2B
             have HP2:=Lib.hid hR2p
             have HO2:=Lib.hid hR2o
             clear hR2s' hR2B hR2p hR2o
             go_wp2
             all_goals go_end0
             all_goals exact ⟨rfl,R2,hR2s.trans hdn.symm,HB4.out,FD.out R R R2 hRs HRK.out HRP.out HP1.out HO1.out HP2.out HO2.out⟩
           · have hq0 : (s : Int) < (mid : Int) := by omega
             have hq1:(mid:Int)<(e:Int):=by omega
             have hq2:(s:Int)≤(a:Int):=by omega
             have hq3:(b:Int)≤(e:Int):=by omega
             have HROT:=Lib.hid (FROT.out (by omega) (by omega))
             go_wp2_with fail
             (with_reducible refine HROT.out.mono ?_)
             rintro e1 w2 ⟨rfl,R,hRs,hRB,hRk,hRp⟩
             have HB2:=Lib.hid hRB
             have HRK:=Lib.hid hRk
             have HRP:=Lib.hid hRp
             clear hRB hRk hRp
             have hR1s:R.size=n:=hRs
             have HB3:=Lib.hid HB2.out
             have HP1:=Lib.hid (permIn_refl R a mid)
             have HO1:=Lib.hid (FK1.out R HRK.out (by omega))
             have hR2s:R.size=n:=hR1s
             have HB4:=Lib.hid HB3.out
             have HP2:=Lib.hid (permIn_refl R mid b)
             have HO2:=Lib.hid (FK2.out R R HRK.out HP1.out (by omega))
             go_wp2
             all_goals go_end0
             all_goals exact ⟨rfl,R,hR2s.trans hdn.symm,HB4.out,FD.out R R R hRs HRK.out HRP.out HP1.out HO1.out HP2.out HO2.out⟩
       · have hq0 : (e : Int) ≤ (m : Int) := by omega
         have hq1:(mid:Int)≤(s:Int):=by omega
         have hq2:(a:Int)<(s:Int):=by omega
         have hq3:(e:Int)<(b:Int):=by omega
         have hq4:(mid:Int)<(e:Int):=by omega
         have hRs:d.size=n:=hdn
         have HB2:=Lib.hid HSk.out
         have HRK:=Lib.hid (zbx d s m e (by omega) (by omega) (by omega))
         have HRP:=Lib.hid (permIn_refl d a b)
         have hR1s:d.size=n:=hRs
         have HB3:=Lib.hid HB2.out
         have HP1:=Lib.hid (permIn_refl d a mid)
         have HO1:=Lib.hid (FK1.out d HRK.out (by omega))
         have hs2:=FS2.out d d wr hRs hR1s HB3.out HRK.out HRP.out HP1.out (by omega) (by omega)
         have HS2C:=Lib.hid hs2
         clear hs2
         go_wp2_with fail
         all_goals
           (with_reducible refine HS2C.out.mono ?_)
           rintro e3 w4 ⟨rfl,R2,hR2s',hR2B,hR2p,hR2o⟩
           have hR2s:R2.size=n:=hR2s'.trans hR1s
           have HB4:=Lib.hid hR2B
           have HP2:=Lib.hid hR2p
           have HO2:=Lib.hid hR2o
           clear hR2s' hR2B hR2p hR2o
           go_wp2
           all_goals go_end0
           all_goals exact ⟨rfl,R2,hR2s.trans hdn.symm,HB4.out,FD.out d d R2 hRs HRK.out HRP.out HP1.out HO1.out HP2.out HO2.out⟩
     · by_cases hB1:m<e
       · have hq0 : (m : Int) ≤ (s : Int) := by omega
         have hq1:(s:Int)<(mid:Int):=by omega
         have hq2:(a:Int)<(s:Int):=by omega
         have hq3:(e:Int)<(b:Int):=by omega
         have hq4:(e:Int)≤(mid:Int):=by omega
         have hRs:d.size=n:=hdn
         have HB2:=Lib.hid HSk.out
         have HRK:=Lib.hid (zbx d s m e (by omega) (by omega) (by omega))
         have HRP:=Lib.hid (permIn_refl d a b)
         have hs1:=FS1.out d wr hRs HB2.out HRK.out HRP.out (by omega) (by omega)
         have HS1C:=Lib.hid hs1
         clear hs1
         go_wp2_with fail
         all_goals
           (with_reducible refine HS1C.out.mono ?_)
           rintro e2 w3 ⟨rfl,R1,hR1s',hR1B,hR1p,hR1o⟩
           have hR1s:R1.size=n:=hR1s'.trans hRs
           have HB3:=Lib.hid hR1B
           have HP1:=Lib.hid hR1p
           have HO1:=Lib.hid hR1o
           clear hR1s' hR1B hR1p hR1o
           have hR2s:R1.size=n:=hR1s
           have HB4:=Lib.hid HB3.out
           have HP2:=Lib.hid (permIn_refl R1 mid b)
           have HO2:=Lib.hid (FK2.out d R1 HRK.out HP1.out (by omega))
           go_wp2
           all_goals go_end0
           all_goals exact ⟨rfl,R1,hR2s.trans hdn.symm,HB4.out,FD.out d R1 R1 hRs HRK.out HRP.out HP1.out HO1.out HP2.out HO2.out⟩
       · have hq0 : (m : Int) ≤ (s : Int) := by omega
         have hq1:(e:Int)≤(m:Int):=by omega
         have hq2:(mid:Int)≤(s:Int):=by omega
         have hq3:(a:Int)<(s:Int):=by omega
         have hq4:(e:Int)<(b:Int):=by omega
         have hq5:(e:Int)≤(mid:Int):=by omega
         have hRs:d.size=n:=hdn
         have HB2:=Lib.hid HSk.out
         have HRK:=Lib.hid (zbx d s m e (by omega) (by omega) (by omega))
         have HRP:=Lib.hid (permIn_refl d a b)
         have hR1s:d.size=n:=hRs
         have HB3:=Lib.hid HB2.out
         have HP1:=Lib.hid (permIn_refl d a mid)
         have HO1:=Lib.hid (FK1.out d HRK.out (by omega))
         have hR2s:d.size=n:=hR1s
         have HB4:=Lib.hid HB3.out
         have HP2:=Lib.hid (permIn_refl d mid b)
         have HO2:=Lib.hid (FK2.out d d HRK.out HP1.out (by omega))
         go_wp2
         all_goals
           all_goals go_end0
           all_goals exact ⟨rfl,d,hR2s.trans hdn.symm,HB4.out,FD.out d d d hRs HRK.out HRP.out HP1.out HO1.out HP2.out HO2.out⟩
end Go.Proofs.YtkhcjoomijkfbaaGreatDoor.Z
