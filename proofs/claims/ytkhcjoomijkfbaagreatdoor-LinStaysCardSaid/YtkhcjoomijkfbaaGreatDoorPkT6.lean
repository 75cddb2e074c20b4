/-
  Our texts Ps1 to Ps8, in one.
-/
import Derived.Test.YtkhcjoomijkfbaaGreatDoorPkT5
import Derived.Test.YtkhcjoomijkfbaaGreatDoorProg
import Derived.IntWalk
import Derived.Deep.RegionHeld3
import Derived.Deep.AppendLies
import Derived.PlainAid
import Derived.Deep.DeepCutAuto
import Derived.BigQuiet
import Derived.Sort.LotA
import Derived.Sort.Lot0
import Derived.Deep.Draws
import Derived.RangeFuncBox
import Derived.RangeFuncNested
import Derived.RangeFuncBound
import Derived.RangeFuncCalls
import Derived.RangeFuncLeaves
import Derived.Shelf.Abstract
import Derived.Shelf.RegionOpen
import Derived.OwnWalkIn
import Derived.TacticsInMore
import Derived.LoopNIn
import Derived.LoopIn
import Derived.Lib.AppendZeros
set_option maxRecDepth 8000
set_option maxHeartbeats 8000000
namespace Go.Proofs.YtkhcjoomijkfbaaGreatDoor
open Go.RowKit
theorem more_any (e : Int) (w : World) : Calls Tryz.prog 200 #[.int .i64 e] w fun x w' => x = .returned (.int .i64 (moreV e)) ∧ w = w' := by
 unfold moreV
 by_cases h:e=6
 · subst h
   go_enter Tryz.func200,Tryz.ntmps200
   go_wp2
   go_ret
   exact ⟨rfl,rfl⟩
 · have hd : (e == 6) = false := by rw [beq_eq_false_iff_ne]; exact h
   rw [if_neg h]
   clear h
   go_enter Tryz.func200,Tryz.ntmps200
   go_wp2
   go_ret
   exact ⟨rfl,rfl⟩
theorem zaB:(Tryz.prog.info? 48).map (·.size)=some 4:=by kernel_rfl
theorem zhq (x : Tk) (f t : Int) (w : World) : Calls Tryz.prog 93 #[.agg (tokN x f t)] w fun e w' => e = .returned (.bool (zaH x)) ∧ Below w.heap.size w w' := by
 unfold tokN zaH
 generalize x.kind=a0 at *
 generalize x.vk=a1 at *
 generalize x.vn=a2 at *
 generalize mkB x.vs=s1 at *
 generalize mkB x.s=s2 at *
 cases h0:(a0==1)
 · go_enter Tryz.func93,Tryz.ntmps93
   go_wp2
   go_ret
   exact ⟨rfl,zah w _⟩
 · go_enter Tryz.func93,Tryz.ntmps93
   go_wp2
   go_ret
   exact ⟨rfl,zah w _⟩
def wordE (s:List UInt8):PV×Int:=match zeM s with|none=>(PV.none,11)|some v=>(v,0)
theorem zd6 (a b:List UInt8):((mkB a).toList==b)=decide (a=b):=by
 have:(mkB a).toList=a:=by unfold mkB;exact ByteArray.toList_eq _
 rw [this];by_cases h:a=b<;>simp [h]
theorem pword_any (s : List UInt8) (w : World) : Calls Tryz.prog 164 #[.string (mkB s)] w fun e w' => e = .returned (.tuple #[pvA (wordE s).1 (.slice none 0 0), .int .i64 (wordE s).2]) ∧ Below w.heap.size w w' := by
 have h1:=zd6 s [116,114,117,101]
 have h2:=zd6 s [102,97,108,115,101]
 have h3:=zd6 s [110,117,108,108]
 unfold wordE zeM pvA
 by_cases g1:s=[116,114,117,101]
 · rw [if_pos g1]
   rw [decide_eq_true g1] at h1
   clear g1 h2 h3
   go_enter Tryz.func164,Tryz.ntmps164
   go_wp2
   refine bodyPost_ret (zaa rfl _ _ w.heap.size 48 _ (0,0) _ rfl (zac _ rfl) Tryz.underlying48 rfl (by exact zaB) _ rfl) rfl ?_
   exact ⟨rfl,zah _ _⟩
 rw [if_neg g1]
 rw [decide_eq_false g1] at h1
 by_cases g2:s=[102,97,108,115,101]
 · rw [if_pos g2]
   rw [decide_eq_true g2] at h2
   clear g1 g2 h3
   go_enter Tryz.func164,Tryz.ntmps164
   go_wp2
   refine bodyPost_ret (zaa rfl _ _ w.heap.size 48 _ (0,0) _ rfl (zac _ rfl) Tryz.underlying48 rfl (by exact zaB) _ rfl) rfl ?_
   exact ⟨rfl,zah _ _⟩
 rw [if_neg g2]
 rw [decide_eq_false g2] at h2
 by_cases g3:s=[110,117,108,108]
 · rw [if_pos g3]
   rw [decide_eq_true g3] at h3
   clear g1 g2 g3
   go_enter Tryz.func164,Tryz.ntmps164
   go_wp2
   refine bodyPost_ret (zaa rfl _ _ w.heap.size 48 _ (0,0) _ rfl (zac _ rfl) Tryz.underlying48 rfl (by exact zaB) _ rfl) rfl ?_
   exact ⟨rfl,zah _ _⟩
 · rw [if_neg g3]
   rw [decide_eq_false g3] at h3
   clear g1 g2 g3
   go_enter Tryz.func164,Tryz.ntmps164
   go_wp2
   refine bodyPost_ret (zaa rfl _ _ w.heap.size 48 _ (0,0) _ rfl (zac _ rfl) Tryz.underlying48 rfl (by exact zaB) _ rfl) rfl ?_
   exact ⟨rfl,zah _ _⟩
def pk:List Int→List UInt8
 | a::b::t=>UInt8.ofNat (16 * a+b).toNat::pk t
 | _=>[]
theorem pk_append:∀(n:Nat) (l m:List Int),l.length=2 * n→pk (l++m)=pk l++pk m
 | 0, l, m, h => by
   obtain rfl:l=[]:=List.eq_nil_of_length_eq_zero (by omega)
   rfl
 | n + 1, l, m, h => by
   rcases l with _|⟨a,_|⟨b,t⟩⟩
   · simp at h
   · simp at h;omega
   · simp only [List.cons_append,pk]
     rw [pk_append n t m (by simp at h;omega)]
structure DgP (ds:List Int) (out:List UInt8) (half:Int):Prop where
 bd:∀d∈ds,0≤d∧d≤15
 form:∃ps:List Int,ps.length=2 * out.length∧pk ps=out∧((half=-1∧ds=ps)∨(0≤half∧ds=ps++[half]))
theorem DgP.nil:DgP [] [] (-1):=⟨fun d h=>(by cases h),[],rfl,rfl,.inl ⟨rfl,rfl⟩⟩
theorem DgP.put {ds:List Int} {out:List UInt8} {half:Int} (h:DgP ds out half) {d:Int} (h0:0≤d) (h1:d≤15):(half<0→DgP (ds++[d]) out d)∧(0≤half→DgP (ds++[d]) (out++[UInt8.ofNat (16 * half+d).toNat]) (-1)):=by
 obtain ⟨hb,ps,hl,hp,hf⟩:=h
 have hb2 : ∀ x ∈ ds ++ [d], 0 ≤ x ∧ x ≤ 15 := fun x hx => by
   rcases List.mem_append.1 hx with h|h
   · exact hb x h
   · simp at h;subst h;exact ⟨h0,h1⟩
 refine ⟨fun hn=>⟨hb2,ps,hl,hp,.inr ⟨h0,?_⟩⟩,fun hn=>⟨hb2,ds++[d],?_,?_,.inl ⟨rfl,rfl⟩⟩⟩
 · rcases hf with ⟨_,rfl⟩|⟨h,_⟩
   · rfl
   · omega
 · rcases hf with ⟨h,_⟩|⟨h,rfl⟩
   · omega
   · simp;omega
 · rcases hf with ⟨h,_⟩|⟨h,rfl⟩
   · omega
   · rw [List.append_assoc,pk_append _ _ _ hl,hp];rfl
def i64C (x:Int):Value:=.int .i64 x
theorem EInt:zfp Tryz.prog 188 3 (.int .i64 0) 1 8:=⟨Tryz.underlying188,by kernel_rfl,rfl,by omega⟩
structure DgM (w:World) (v:Value) (ds:List Int) (wr:World):Prop where
 row:wr.ownsRow w.heap.size 3 1 v ds.length (ds.map i64C)
 bel:Below w.heap.size w wr
theorem DgM.put {w wr w5:World} {v v':Value} {ds:List Int} (h:DgM w v ds wr) (d:Int) (O:Obj) (hO5:w5.ownsRow w.heap.size 3 1 v' (ds.length+1) (ds.map i64C++[.int .i64 d])) (hg5:(wr.alloc O).grownBy w5 v.ownBlock):DgM w v' (ds++[d]) w5 :=
 ⟨by have h:=hO5;simpa [i64C] using h,(h.bel.alloc h.bel.size _).grown hg5 (by rw [zal];have:=h.bel.size;omega) (fun q hq=>(h.row.lt q hq).1)⟩
theorem DgM.len {w wr:World} {v:Value} {ds:List Int} (h:DgM w v ds wr):∃a cap,v=.slice a ds.length cap∧Row wr 1 a ds.length cap (ds.map i64C):=by
 obtain ⟨a,cap,hv,hr,-⟩:=Row.of_owns h.row
 exact ⟨a,cap,hv,hr⟩
structure PA (p:List UInt8) (N:Int) (ov:Bool):Prop where
 dg:p.all isDg=true
 ov_:ov=decide (2147483647<valD p)
 n:ov=false→N=(valD p:Nat)
def PB (p:List UInt8) (i:Nat) (N P:Int) (ov:Bool):Prop:=∃w r,p=w++46::r∧w.length=i∧PA w N ov∧r.all isDg=true∧P=(mil r:Nat)
theorem PA.nil:PA [] 0 false:=⟨rfl,rfl,fun _=>rfl⟩
theorem PA.more {p:List UInt8} {N:Int} (h:PA p N false) {c:UInt8} (hc:isDg c=true) (M:Int) (hM:M=10 * N+(dgV c:Nat)) (o:Bool) (ho:o=decide (2147483647<M)):PA (p++[c]) M o:=by
 have h1:=h.n rfl
 have hv:M=(valD (p++[c]):Nat):=by rw [zcd,hM,h1];omega
 refine ⟨zed _ _ h.dg hc,?_,fun _=>hv⟩
 rw [ho,Bool.eq_iff_iff,decide_eq_true_iff,decide_eq_true_iff];omega
theorem mil_by (r:List UInt8) (c:UInt8) (b:Nat) (hb:b=100000 / 10 ^ (min (r.length+1) 7-1)):mil (r++[c])=mil r+b * dgV c:=by
 by_cases h:r.length<6
 · rw [mil_snoc_lt r c h, hb, Nat.min_eq_left (by omega)]
   congr 2
   have:r.length=0∨r.length=1∨r.length=2∨r.length=3∨r.length=4∨r.length=5:=by omega
   rcases this with h|h|h|h|h|h<;>rw [h]
 · rw [mil_snoc_ge r c (by omega), hb, Nat.min_eq_right (by omega)]
   simp
theorem PB.more {p:List UInt8} {i:Nat} {N P:Int} {ov:Bool} (h:PB p i N P ov) {c:UInt8} (hc:isDg c=true) (b:Nat) (hb:b=100000 / 10 ^ (min (p.length-i) 7-1)) (Q:Int) (hQ:Q=P+(b:Int) * ((c.toNat:Int)-48)):PB (p++[c]) i N Q ov:=by
 obtain ⟨w,r,e,hl,hA,hr,hP⟩:=h
 have hlen:=congrArg List.length e
 simp only [List.length_append,List.length_cons] at hlen
 refine ⟨w,r++[c],by rw [e];simp,hl,hA,zed _ _ hr hc,?_⟩
 rw [mil_by r c b (by rw [hb];congr 3;omega),hQ,hP,←zhy hc]
 push_cast
 rfl
theorem PB.bad {p:List UInt8} {i:Nat} {N P:Int} {ov:Bool} (h:PB p i N P ov) (sg:Int) (c:UInt8) (t:List UInt8) (hc:isDg c=false):za0 sg (p++c::t)=(0,0,11):=by
 obtain ⟨w,r,e,hl,hA,hr,hP⟩:=h
 rw [e]
 have:w++46::r++c::t=w++46::(r++c::t):=by simp
 rw [this]
 exact parseB_bad2 sg w r t c hA.dg hc
theorem PB.bd {p:List UInt8} {i:Nat} {N P:Int} {ov:Bool} (h:PB p i N P ov):0≤P∧P≤999999:=by
 obtain ⟨w,r,e,hl,hA,hr,rfl⟩:=h
 have:=zg9 r hr
 omega
theorem PA.fin {p:List UInt8} {N:Int} {ov:Bool} (h:PA p N ov) (sg:Int):za0 sg p=if p.length=0 then (0,0,11) else if ov=true then (0,0,5) else (2,sg * N,0):=by
 rw [zgO sg p h.dg]
 by_cases h0:p.length=0
 · rw [if_pos h0,if_pos h0]
 · rw [if_neg h0,if_neg h0]
   have h1:=h.ov_
   cases ov
   · rw [eq_comm,decide_eq_false_iff_not] at h1
     rw [if_neg h1,if_neg (by decide),h.n rfl]
   · rw [eq_comm,decide_eq_true_iff] at h1
     rw [if_pos h1,if_pos rfl]
theorem PB.fin {p:List UInt8} {i:Nat} {N P:Int} {ov:Bool} (h:PB p i N P ov) (sg:Int):za0 sg p=if p.length=1 then (0,0,11) else if ov=true∨(N=2147483647∧0<P) then (0,0,5) else (3,sg * (1000000 * N+P),0):=by
 obtain ⟨w,r,e,hl,hA,hr,rfl⟩:=h
 have hlen:=congrArg List.length e
 simp only [List.length_append,List.length_cons] at hlen
 rw [e,parseB_real sg w r hA.dg hr,←e]
 by_cases h0:p.length=1
 · rw [if_pos h0,if_pos (by omega)]
 · rw [if_neg h0, if_neg (by omega)]
   have h1:=hA.ov_
   cases ov
   · rw [eq_comm,decide_eq_false_iff_not] at h1
     have h2:=hA.n rfl
     by_cases h3:N=2147483647∧0<((mil r:Nat):Int)
     · rw [if_pos (.inr (by omega)),if_pos (.inr h3)]
     · rw [if_neg (by rintro (h | h); exact h1 h; exact h3 (by omega)), if_neg (by rintro (h | h); cases h; exact h3 h), h2]
       rw [Int.natCast_add,Int.natCast_mul,Int.mul_comm 1000000];rfl
   · rw [eq_comm,decide_eq_true_iff] at h1
     rw [if_pos (.inl h1),if_pos (.inl rfl)]
structure Rx (w:World) (r n:Nat) (f:Nat) (W:World):Prop where
 blk:W.heap[r]?=some (.cells #[.int .i64 0,.int .i64 0,.int .i64 0,.int .i64 0,.int .i64 0,.string ⟨#[]⟩,.slice none 0 0,.string ⟨#[]⟩] 91 (0,0))
 no:W.heap[n]?=some (.cells #[.int .i64 0,.int .i64 f,.int .i64 f,.int .i64 0,.int .i64 0,.string ⟨#[]⟩,.slice none 0 0,.string ⟨#[]⟩] 91 (0,0))
 bel:Below w.heap.size w W
 wr:w.heap.size≤r
theorem Rx.on {w W W':World} {r n f:Nat} (h:Rx w r n f W) (hb:Below W.heap.size W W'):Rx w r n f W':=⟨zab hb h.blk,zab hb h.no,h.bel.trans (hb.mono h.bel.size),h.wr⟩
theorem Rx.alloc {w W:World} {r n f:Nat} (h:Rx w r n f W) (o:Obj):Rx w r n f (W.alloc o):=h.on (zah W o)
end Go.Proofs.YtkhcjoomijkfbaaGreatDoor
namespace Go.Proofs.YtkhcjoomijkfbaaGreatDoor
open Go.RowKit
def ptrs (gs:List Nat):List Value:=gs.reverse.map fun g=>.pointer (some ⟨g,0,none⟩)
def Lvs (w:World) (B:Nat) (F:Nat→Prop):(Nat→Prop)→List Lv→List Nat→Prop
 | _,[],gs=>gs=[]
 | G, v :: st, gs => ∃ g t sl cs, gs = g :: t ∧ B ≤ g ∧ ¬ G g ∧ w.heap[g]? = some (.cells #[.bool v.dict, sl] 168 (0, 0)) ∧ w.ownsRow B 48 4 sl v.l.length cs ∧ IsVs w F v.l cs ∧
     (∀b,sl.ownBlock=some b→¬F b∧¬G b)∧Lvs w B F (fun b=>G b∨b=g∨sl.ownBlock=some b) st t
theorem zbC {w w':World} {base e sz:Nat} {v:Value} {n:Nat} {xs:List Value} (h:w.ownsRow base e sz v n xs) (hk:∀b,v.ownBlock=some b→w'.heap[b]?=w.heap[b]?):w'.ownsRow base e sz v n xs:=by
 obtain ⟨h1,h2⟩:=h
 refine ⟨h1,?_⟩
 rcases h2 with h2|⟨g,cap,cur,hv,hg,hh,r⟩
 · exact .inl h2
 · exact .inr ⟨g,cap,cur,hv,hg,by rw [hk g (by rw [hv];rfl)];exact hh,r⟩
theorem zaz {w:World} {base e sz:Nat} {v:Value} {n:Nat} {xs:List Value} (h:w.ownsRow base e sz v n xs) {b:Nat} (hb:v.ownBlock=some b):∃cs,w.heap[b]?=some (.cells cs e (0,0)):=by
 rcases h.2 with ⟨rfl,_⟩|⟨g,cap,cur,rfl,hg,hh,r⟩
 · cases hb
 · cases hb;exact ⟨cur,hh⟩
theorem zbK {w:World} {base e sz:Nat} {v:Value} {n:Nat} {xs:List Value} (h:w.ownsRow base e sz v n xs):∃a cap,v=.slice a n cap∧n≤cap∧cap≤maxLen:=by
 obtain ⟨a,cap,rfl,hr,_⟩:=Row.of_owns h
 exact ⟨a,cap,rfl,hr.2.1,hr.2.2.1⟩
theorem zag {w:World} {b:Nat} {o:Obj} (h:w.heap[b]?=some o):b<w.heap.size:=(Array.getElem?_eq_some_iff.1 h).1
theorem za2 {w:World} {b c:Nat} {x y:Array Value} {t u:TypeId} {f1 f2:Nat×Nat} (hb:w.heap[b]?=some (.cells x t f1)) (hc:w.heap[c]?=some (.cells y u f2)) (h:t≠u):b≠c:=by
 rintro rfl
 rw [hb] at hc
 injection hc with hc
 injection hc with _ h2 _
 exact h h2
def IsLV (w:World) (b:Nat):Prop:=(∃cs,w.heap[b]?=some (.cells cs 168 (0,0)))∨∃cs,w.heap[b]?=some (.cells cs 48 (0,0))
theorem Lvs.keep' {w w':World} {B:Nat} {F F':Nat→Prop} (hF:zaU F w w') (hFF:∀b,F b→F' b):∀ {st:List Lv} {G G':Nat→Prop} {gs:List Nat},Lvs w B F G st gs →
   (∀b,b<w.heap.size→¬G b→IsLV w b→w'.heap[b]?=w.heap[b]?)→(∀b,F' b→F b∨G b∨w.heap.size≤b)→(∀b,G' b→G b∨w.heap.size≤b)→Lvs w' B F' G' st gs
 | [],_,_,_,h,_,_,_=>h
 | v :: st, G, G', _, ⟨g, t, sl, cs, h1, h2, h3, h4, h5, h6, h7, h8⟩, hg, hF', hG' => by
   have hgl:=zag h4
   have hbl:∀b,sl.ownBlock=some b→b<w.heap.size:=fun b hb=>(h5.lt b hb).2
   refine ⟨g,t,sl,cs,h1,h2,fun h=>?_,?_,zbC h5 fun b hb=>hg b (hbl b hb) (h7 b hb).2 (.inr (zaz h5 hb)),IsVs.keep hF hFF _ h6,fun b hb=>⟨fun h=>?_,fun h=>?_⟩,?_⟩
   · rcases hG' g h with h|h
     · exact h3 h
     · omega
   · rw [hg g hgl h3 (.inl ⟨_,h4⟩)];exact h4
   · rcases hF' b h with h|h|h
     · exact (h7 b hb).1 h
     · exact (h7 b hb).2 h
     · have:=hbl b hb;omega
   · rcases hG' b h with h|h
     · exact (h7 b hb).2 h
     · have:=hbl b hb;omega
   · refine Lvs.keep' hF hFF h8 (fun b hb hn => hg b hb fun h => hn (.inl h)) (fun b h => ?_) (fun b h => ?_)
     · rcases hF' b h with h|h|h
       · exact .inl h
       · exact .inr (.inl (.inl h))
       · exact .inr (.inr h)
     · rcases h with h|h|h
       · rcases hG' b h with h|h
         · exact .inl (.inl h)
         · exact .inr h
       · exact .inl (.inr (.inl h))
       · exact .inl (.inr (.inr h))
theorem Lvs.keep {w w':World} {B:Nat} {F F':Nat→Prop} (hF:zaU F w w') (hFF:∀b,F b→F' b) {st:List Lv} {G G':Nat→Prop} {gs:List Nat} (h:Lvs w B F G st gs)
   (hg:∀b,b<w.heap.size→¬G b→w'.heap[b]?=w.heap[b]?) (hF':∀b,F' b→F b∨G b∨w.heap.size≤b) (hG':∀b,G' b→G b∨w.heap.size≤b):Lvs w' B F' G' st gs :=
 h.keep' hF hFF (fun b h1 h2 _=>hg b h1 h2) hF' hG'
theorem Lvs.len {w:World} {B:Nat} {F:Nat→Prop}:∀ {st:List Lv} {G:Nat→Prop} {gs:List Nat},Lvs w B F G st gs→gs.length=st.length
 | [],_,_,h=>by cases h;rfl
 | _::_,_,_,⟨_,_,_,_,h1,_,_,_,_,_,_,h8⟩=>by subst h1;simp [h8.len]
structure zam (w0 w:World) (F G:Nat→Prop) (p:Nat) (a:Option Addr) (cap:Nat) (bs:List UInt8) (last:Bool) (st:List Lv) (at_:Int) (gs:List Nat) (osl:Value):Prop where
 blk:w.heap[p]?=some (.cells #[.slice a bs.length cap,.int .i64 at_,.bool last,osl] 161 (0,0))
 base:w0.heap.size≤p
 gp:¬G p
 own:w.ownsRow w0.heap.size 165 1 osl st.length (ptrs gs)
 go:∀b,osl.ownBlock=some b→¬G b
 lvs:Lvs w w0.heap.size F G st gs
 fb:∀b,F b→w0.heap.size≤b∧¬G b∧∃cs,w.heap[b]?=some (.cells cs 48 (0,0))
 gb:∀b,G b→w0.heap.size≤b∧b<w.heap.size
 bel:Below w0.heap.size w0 w
 row:Row w0 1 a bs.length cap (bs.map u8C)
 small:bs.length≤400000
 deep:st.length≤64
section
variable {w0 w w' : World} {F F' G G' : Nat → Prop} {p : Nat} {a : Option Addr} {cap : Nat} {bs : List UInt8} {last : Bool} {st : List Lv} {at_ : Int} {gs : List Nat} {osl : Value}
theorem zam.lt (h:zam w0 w F G p a cap bs last st at_ gs osl):p<w.heap.size:=zag h.blk
theorem zam.frame' (h:zam w0 w F G p a cap bs last st at_ gs osl) (hk:Keeps G w w') (hG':∀b,G' b→G b∨(w.heap.size≤b∧b<w'.heap.size)) (hFF:∀b,F b→F' b) (hF':∀b,F' b→F b∨(w.heap.size≤b∧¬G' b∧∃cs,w'.heap[b]?=some (.cells cs 48 (0,0)))) :
   zam w0 w' F' G' p a cap bs last st at_ gs osl:=by
 have hsz:=h.bel.size
 have hp:=h.lt
 have hFl:∀b,F b→b<w.heap.size:=fun b hb=>by obtain ⟨_,_,cs,hc⟩:=h.fb b hb;exact zag hc
 have hol:∀b,osl.ownBlock=some b→b<w.heap.size:=fun b hb=>(h.own.lt b hb).2
 refine ⟨by rw [hk.block p hp h.gp];exact h.blk,h.base,fun h1=>?_,zbC h.own fun b hb=>hk.block b (hol b hb) (h.go b hb),fun b hb h1=>?_,?_,fun b hb=>?_,fun b hb=>?_,?_,h.row,h.small,h.deep⟩
 · rcases hG' p h1 with h1|h1
   · exact h.gp h1
   · omega
 · rcases hG' b h1 with h1|h1
   · exact h.go b hb h1
   · have:=hol b hb;omega
 · refine h.lvs.keep ⟨hk.size, fun b hb hf => hk.block b hb (h.fb b hf).2.1⟩ hFF (fun b hb hn => hk.block b hb hn) (fun b hb => ?_) (fun b hb => ?_)
   · rcases hF' b hb with h1|h1
     · exact .inl h1
     · exact .inr (.inr h1.1)
   · exact (hG' b hb).imp id fun h=>h.1
 · rcases hF' b hb with h1|⟨h1,h2,h3⟩
   · obtain ⟨h2,h3,cs,h4⟩:=h.fb b h1
     refine ⟨h2,fun h5=>?_,cs,by rw [hk.block b (hFl b h1) h3];exact h4⟩
     rcases hG' b h5 with h5|h5
     · exact h3 h5
     · have:=hFl b h1;omega
   · exact ⟨by omega,h2,h3⟩
 · have:=hk.size
   rcases hG' b hb with h1|h1
   · have:=h.gb b h1;omega
   · omega
 · exact h.bel.trans ⟨hk.os,hk.tape,hk.output,hk.size,fun b hb=>hk.block b (by omega) (fun h1=>by have:=h.gb b h1;omega)⟩
theorem zam.frame (h:zam w0 w F G p a cap bs last st at_ gs osl) (hk:Keeps G w w') (hG':∀b,G' b→G b∨(w.heap.size≤b∧b<w'.heap.size)):zam w0 w' F G' p a cap bs last st at_ gs osl :=
 h.frame' hk hG' (fun _ h=>h) (fun _ h=>.inl h)
theorem zam.mono (h:zam w0 w F G p a cap bs last st at_ gs osl) (hb:Below w.heap.size w w'):zam w0 w' F G p a cap bs last st at_ gs osl :=
 h.frame ⟨hb.os,hb.tape,hb.output,hb.size,fun b h1 _=>hb.block b h1⟩ (fun _ h=>.inl h)
theorem zam.cells (h:zam w0 w F G p a cap bs last st at_ gs osl):(w.cell? ⟨p,0,none⟩=some (.slice a bs.length cap)∧w.cell? ⟨p,1,none⟩=some (.int .i64 at_)∧w.cell? ⟨p,2,none⟩=some (.bool last)∧w.cell? ⟨p,3,none⟩=some osl) ∧
   (w.frozen? ⟨p,0,none⟩=false∧w.frozen? ⟨p,1,none⟩=false∧w.frozen? ⟨p,2,none⟩=false∧w.frozen? ⟨p,3,none⟩=false):=zaf h.blk
theorem zam.notF (h:zam w0 w F G p a cap bs last st at_ gs osl) {b:Nat} (hb:F b):b≠p:=by obtain ⟨_,_,cs,hc⟩:=h.fb b hb;exact za2 hc h.blk (by decide)
theorem zam.setAt (h:zam w0 w F G p a cap bs last st at_ gs osl) (at2:Int):zam w0 (w.setCell ⟨p,1,none⟩ (.int .i64 at2)) F G p a cap bs last st at2 gs osl:=by
 have hk:∀b,b≠p→(w.setCell ⟨p,1,none⟩ (.int .i64 at2)).heap[b]?=w.heap[b]?:=fun b hb=>heap_setCell_other _ _ _ _ hb
 have hs:(w.setCell ⟨p,1,none⟩ (.int .i64 at2)).heap.size=w.heap.size:=by simp [World.setCell]
 have hl:∀ {st:List Lv} {G:Nat→Prop} {gs:List Nat},Lvs w w0.heap.size F G st gs→Lvs (w.setCell ⟨p,1,none⟩ (.int .i64 at2)) w0.heap.size F G st gs:=by
   intro st
   induction st with
   | nil=>exact fun h=>h
   | cons v st ih =>
     rintro G gs ⟨g,t,sl,cs,h1,h2,h3,h4,h5,h6,h7,h8⟩
     exact ⟨g, t, sl, cs, h1, h2, h3, by rw [hk g (za2 h4 h.blk (by decide))]; exact h4, zbC h5 fun b hb => hk b (by obtain ⟨cs, hc⟩ := zaz h5 hb; exact za2 hc h.blk (by decide)),
       IsVs.keep ⟨by omega,fun b _ hb=>hk b (h.notF hb)⟩ (fun _ h=>h) _ h6,h7,ih h8⟩
 exact ⟨heap_setCell_same w p 1 _ _ _ h.blk, h.base, h.gp, zbC h.own fun b hb => hk b (by obtain ⟨cs, hc⟩ := zaz h.own hb; exact za2 hc h.blk (by decide)), h.go, hl h.lvs, fun b hb => by
   obtain ⟨h1,h2,cs,h3⟩:=h.fb b hb
   exact ⟨h1,h2,cs,by rw [hk b (h.notF hb)];exact h3⟩,fun b hb=>by rw [hs];exact h.gb b hb,h.bel.trans ((Below.refl _ _).setCell h.base _),h.row,h.small,h.deep⟩
theorem zam.drewN (h:zam w0 w F G p a cap bs last st at_ gs osl) (q:Nat):zam w0 (w.drewN q) F G p a cap bs last st at_ gs osl:=h.mono (zad (Below.refl _ _) q)
theorem zam.alloc (h:zam w0 w F G p a cap bs last st at_ gs osl) (o:Obj):zam w0 (w.alloc o) F G p a cap bs last st at_ gs osl:=h.mono (zah w o)
theorem zam.bytes (h:zam w0 w F G p a cap bs last st at_ gs osl):Row w 1 a bs.length cap (bs.map u8C):=h.row.mono h.bel
theorem zam.res (h:zam w0 w F G p a cap bs last st at_ gs osl) (hb:Below w.heap.size w w') (hG':∀b,G' b→G b∨(w.heap.size≤b∧b<w'.heap.size)):zam w0 w' F G' p a cap bs last st at_ gs osl :=
 h.frame ⟨hb.os,hb.tape,hb.output,hb.size,fun b h1 _=>hb.block b h1⟩ hG'
theorem zam.set (h:zam w0 w F G p a cap bs last st at_ gs osl) {r:Nat} (hr:G r) (i:Nat) (v:Value):zam w0 (w.setCell ⟨r,i,none⟩ v) F G p a cap bs last st at_ gs osl :=
 h.frame ((Keeps.refl G w).setCell (a:=⟨r,i,none⟩) (.inl hr) v) (fun _ h=>.inl h)
theorem zam.set8 (h:zam w0 w F G p a cap bs last st at_ gs osl) {r:Nat} (hr:G r) (y0 y1 y2 y3 y4 y5 y6 y7:Value) :
   zam w0 ((((((((w.setCell ⟨r,0,none⟩ y0).setCell ⟨r,1,none⟩ y1).setCell ⟨r,2,none⟩ y2).setCell ⟨r,3,none⟩ y3).setCell ⟨r,4,none⟩ y4).setCell ⟨r,5,none⟩ y5).setCell ⟨r,6,none⟩ y6).setCell ⟨r,7,none⟩ y7) F G p a cap bs last st at_ gs osl :=
 (((((((h.set hr _ _).set hr _ _).set hr _ _).set hr _ _).set hr _ _).set hr _ _).set hr _ _).set hr _ _
theorem zam.set4 (h:zam w0 w F G p a cap bs last st at_ gs osl) {r:Nat} (hr:G r) (y0 y1 y2 y3:Value) :
   zam w0 ((((w.setCell ⟨r,0,none⟩ y0).setCell ⟨r,1,none⟩ y1).setCell ⟨r,2,none⟩ y2).setCell ⟨r,3,none⟩ y3) F G p a cap bs last st at_ gs osl :=
 (((h.set hr _ _).set hr _ _).set hr _ _).set hr _ _
theorem zam.give (h:zam w0 w F G p a cap bs last st at_ gs osl) (hG:∀b,G' b→G b):zam w0 w F G' p a cap bs last st at_ gs osl:=h.frame (Keeps.refl G w) fun b hb=>.inl (hG b hb)
end
theorem zaq {w w':World} {S:Nat→Prop} (h:Below w.heap.size w w'):Keeps S w w':=⟨h.os,h.tape,h.output,h.size,fun b hb _=>h.block b hb⟩
section
variable {w0 w w' : World} {F G : Nat → Prop} {p : Nat} {a : Option Addr} {cap : Nat} {bs : List UInt8} {last : Bool} {st : List Lv} {at_ : Int}
def Stk (w0 w:World) (F G:Nat→Prop) (p:Nat) (a:Option Addr) (cap:Nat) (bs:List UInt8) (last:Bool) (st:List Lv) (at_:Int):Prop:=∃gs osl,zam w0 w F G p a cap bs last st at_ gs osl
structure Nxt (w0 w:World) (F G:Nat→Prop) (p:Nat) (a:Option Addr) (cap:Nat) (bs:List UInt8) (last:Bool) (st:List Lv) (at_:Int) (F':Nat→Prop) (w':World):Prop where
 stk:Stk w0 w' F' G p a cap bs last st at_
 sg:zaU G w w'
 sf:zaU F w w'
 ff:∀b,F b→F' b
end
end Go.Proofs.YtkhcjoomijkfbaaGreatDoor
namespace Go.Proofs.YtkhcjoomijkfbaaGreatDoor
open Go.RowKit
section
variable {w w' : World} {p q u o0 o1 o2 r : Nat} {x0 x1 x2 : Value}
def S3 (w:World) (p o0:Nat) (x0:Value) (q o1:Nat) (x1:Value) (u o2:Nat) (x2:Value):Prop:=w.cell? ⟨p,o0,none⟩=some x0∧w.cell? ⟨q,o1,none⟩=some x1∧w.cell? ⟨u,o2,none⟩=some x2
theorem S3.below (h:S3 w p o0 x0 q o1 x1 u o2 x2) (hb:Below w.heap.size w w'):S3 w' p o0 x0 q o1 x1 u o2 x2:=⟨cell?_keep hb h.1,cell?_keep hb h.2.1,cell?_keep hb h.2.2⟩
theorem S3.alloc (h:S3 w p o0 x0 q o1 x1 u o2 x2) (o:Obj):S3 (w.alloc o) p o0 x0 q o1 x1 u o2 x2:=h.below (zah w o)
theorem S3.drew (h:S3 w p o0 x0 q o1 x1 u o2 x2):S3 w.drew p o0 x0 q o1 x1 u o2 x2:=h
theorem S3.set8 (h:S3 w p o0 x0 q o1 x1 u o2 x2) (hp:p≠r) (hq:q≠r) (hu:u≠r) (y0 y1 y2 y3 y4 y5 y6 y7:Value) :
   S3 ((((((((w.setCell ⟨r,0,none⟩ y0).setCell ⟨r,1,none⟩ y1).setCell ⟨r,2,none⟩ y2).setCell ⟨r,3,none⟩ y3).setCell ⟨r,4,none⟩ y4).setCell ⟨r,5,none⟩ y5).setCell ⟨r,6,none⟩ y6).setCell ⟨r,7,none⟩ y7) p o0 x0 q o1 x1 u o2 x2 :=
 ⟨(zcS hp _ _ _ _ _ _ _ _ _).trans h.1,(zcS hq _ _ _ _ _ _ _ _ _).trans h.2.1,(zcS hu _ _ _ _ _ _ _ _ _).trans h.2.2⟩
end
structure TkM (w W:World) (r:Nat) (cs:Array Value):Prop where
 bel:Below w.heap.size w W
 blk:W.heap[r]?=some (.cells cs 112 (0,0))
 new:w.heap.size≤r
section
variable {w0 w w' : World} {F F' G : Nat → Prop} {p : Nat} {a : Option Addr} {cap : Nat} {bs : List UInt8} {last : Bool} {st : List Lv} {at_ : Int} {gs : List Nat} {osl : Value}
theorem pnext_any (h:zam w0 w F G p a cap bs last st at_ gs osl):Calls Tryz.prog 95 #[.pointer (some ⟨p,0,none⟩)] w fun e w' =>
   e=.returned (.tuple #[.agg (tokN (zae bs at_ last).1 (zae bs at_ last).2.1 (zae bs at_ last).2.2.1),.int .i64 (zae bs at_ last).2.2.2]) ∧
   zam w0 w' F G p a cap bs last st (if (zae bs at_ last).2.2.2=0 then (zae bs at_ last).2.2.1 else at_) gs osl∧Keeps (fun b=>b=p) w w':=by
 have HN:=Lib.hid (fun (W:World) (hb:Below w.heap.size w W)=>zel (h.bytes.mono hb) h.small at_ last)
 generalize zae bs at_ last=V at *
 unfold zeT tokN at HN
 obtain ⟨x,f,t,er⟩:=V
 simp only at HN ⊢
 unfold tokN
 generalize x.kind=a0 at *
 generalize x.vk=a1 at *
 generalize x.vn=a2 at *
 generalize mkB x.vs=s1 at *
 generalize mkB x.s=s2 at *
 have HS:=Lib.hid h
 have hpw:=h.lt
 clear h
 go_enter Tryz.func95,Tryz.ntmps95
 go_wp2
 have HB1:=Lib.hid (zah w (.cells #[.int .i64 0,.int .i64 0,.int .i64 0,.int .i64 0,.int .i64 0,.string ⟨#[]⟩,.slice none 0 0,.string ⟨#[]⟩] 112))
 have HS1:=Lib.hid (HS.out.mono HB1.out)
 have HR1:=Lib.hid (zac (w:=w) (b:=w.heap.size) (.cells #[.int .i64 0,.int .i64 0,.int .i64 0,.int .i64 0,.int .i64 0,.string ⟨#[]⟩,.slice none 0 0,.string ⟨#[]⟩] 112) rfl)
 generalize w.alloc _=W1 at *
 obtain ⟨r,hr⟩:∃r,r=w.heap.size:=⟨_,rfl⟩
 have hpr0:p≠r:=by omega
 rw [←hr] at HR1 ⊢
 have HRR:=Lib.hid hr
 clear hr hpw
 obtain ⟨⟨c0,c1,c2,c3⟩,f0,f1,f2,f3⟩:=HS1.out.cells
 have HA1:=Lib.hid (fun o:Obj=>(zah W1 o).drew)
 have HA2:=Lib.hid (fun o:Obj=>HB1.out.trans ((HA1.out o).mono (show w.heap.size≤W1.heap.size from HB1.out.size)))
 have HC0:Hid (S3 W1 p 0 (.slice a bs.length cap) p 1 (.int .i64 at_) p 2 (.bool last)):=Lib.hid ⟨c0,c1,c2⟩
 have hpr:p≠W1.heap.size:=Nat.ne_of_lt HS1.out.lt
 have HR1L:=Lib.hid (show r<W1.heap.size from zag HR1.out)
 go_region_held3 (fun w' => w'.cell? ⟨p, 0, none⟩ = some (.slice a bs.length cap) ∧ w'.cell? ⟨p, 1, none⟩ = some (.int .i64 at_) ∧ w'.cell? ⟨p, 2, none⟩ = some (.bool last))
   ((show S3 _ p 0 (.slice a bs.length cap) p 1 (.int .i64 at_) p 2 (.bool last);(first
     | (with_reducible exact HC0.out.drew)
     | (with_reducible exact HC0.out)
     | (with_reducible exact (HC0.out.alloc _).drew)
     | (with_reducible exact Hid.out (by assumption))
     | (with_reducible exact S3.alloc (Hid.out (by assumption)) _)
     | (with_reducible exact S3.set8 (Hid.out (by assumption)) hpr hpr hpr _ _ _ _ _ _ _ _))))
   ((go_at_call 56;first
     | ((with_reducible refine (HN.out _ HB1.out.drew).mono ?_);rintro e wN ⟨rfl,hbN⟩;have hbM:Below W1.heap.size W1 wN:=(Below.refl _ _).drew.trans hbN;have HSN:=Lib.hid (HC0.out.below hbM))
     | ((with_reducible refine (HN.out _ (HA2.out _)).mono ?_);rintro e wN ⟨rfl,hbN⟩;have hbM:Below W1.heap.size W1 wN:=(HA1.out _).trans (hbN.mono (HA1.out _).size);have HSN:=Lib.hid (HC0.out.below hbM);have HZ:=Lib.hid (zab hbN (zac (w:=W1) (b:=W1.heap.size) (.cells #[.int .i64 0,.int .i64 0,.int .i64 0,.int .i64 0,.int .i64 0,.string ⟨#[]⟩,.slice none 0 0,.string ⟨#[]⟩] 112) rfl));obtain ⟨⟨z0,z1,z2,z3,z4,z5,z6,z7⟩,y0,y1,y2,y3,y4,y5,y6,y7⟩:=zap HZ.out)))
 all_goals
   first
     | (obtain ⟨W2,hW2⟩:∃W2,W2=wN.alloc (.cells #[.int .i64 a0,.int .i64 f,.int .i64 t,.int .i64 a1,.int .i64 a2,.string s1,.slice none 0 0,.string s2] 112):=⟨_,rfl⟩
        rw [←hW2]
        have HT:=Lib.hid (show TkM W1 W2 wN.heap.size #[.int .i64 a0,.int .i64 f,.int .i64 t,.int .i64 a1,.int .i64 a2,.string s1,.slice none 0 0,.string s2] from ⟨by rw [hW2];exact hbM.alloc hbM.size _,by rw [hW2];exact zac _ rfl,hbM.size⟩)
        obtain ⟨r2,hr2⟩:∃r2,r2=wN.heap.size:=⟨_,rfl⟩
        rw [←hr2] at HT ⊢)
     | (obtain ⟨W2,hW2⟩:∃W2,W2=((((((((wN.setCell ⟨W1.heap.size,0,none⟩ (.int .i64 a0)).setCell ⟨W1.heap.size,1,none⟩ (.int .i64 f)).setCell ⟨W1.heap.size,2,none⟩ (.int .i64 t)).setCell ⟨W1.heap.size,3,none⟩ (.int .i64 a1)).setCell ⟨W1.heap.size,4,none⟩ (.int .i64 a2)).setCell ⟨W1.heap.size,5,none⟩ (.string s1)).setCell ⟨W1.heap.size,6,none⟩ (.slice none 0 0)).setCell ⟨W1.heap.size,7,none⟩ (.string s2)):=⟨_,rfl⟩
        rw [←hW2]
        have HT:=Lib.hid (show TkM W1 W2 W1.heap.size #[.int .i64 a0,.int .i64 f,.int .i64 t,.int .i64 a1,.int .i64 a2,.string s1,.slice none 0 0,.string s2] from ⟨by rw [hW2];exact zbj hbM (Nat.le_refl _) _ _ _ _ _ _ _ _,by rw [hW2];exact set8 HZ.out _ _ _ _ _ _ _ _,Nat.le_refl _⟩)
        clear z0 z1 z2 z3 z4 z5 z6 z7 y0 y1 y2 y3 y4 y5 y6 y7 HZ
        obtain ⟨r2,hr2⟩:∃r2,r2=W1.heap.size:=⟨_,rfl⟩
        rw [←hr2] at HT ⊢)
   clear hW2 hr2 hbN hbM HSN
   have HS2:=Lib.hid (HS1.out.mono HT.out.bel)
   have HR2:=Lib.hid (zab HT.out.bel HR1.out)
   have hp2:p≠r2:=by have:=HT.out.new;have:=HS1.out.lt;omega
   have hr22:r≠r2:=by have:=HT.out.new;have:=HR1L.out;omega
   have HB2:=Lib.hid (HB1.out.trans (HT.out.bel.mono HB1.out.size))
   clear c0 c1 c2 c3 f0 f1 f2 f3 hpr
   obtain ⟨⟨c0,c1,c2,c3⟩,f0,f1,f2,f3⟩:=HS2.out.cells
   obtain ⟨⟨k0,k1,k2,k3,k4,k5,k6,k7⟩,m0,m1,m2,m3,m4,m5,m6,m7⟩:=zap HT.out.blk
   obtain ⟨⟨g0,g1,g2,g3,g4,g5,g6,g7⟩,l0,l1,l2,l3,l4,l5,l6,l7⟩:=zap HR2.out
   by_cases her:er=0
   · subst her
     go_wp2
     refine bodyPost_ret (zaa rfl _ _ r 112 _ (0,0) _ rfl (set8 ((heap_setCell_other _ _ _ _ (Ne.symm hpr0)).trans HR2.out) _ _ _ _ _ _ _ _) Tryz.underlying112 rfl zat _ rfl) rfl ?_
     refine ⟨rfl,?_,?_⟩
     · exact (((HS.out.res (G':=fun b=>G b∨b=r) HB2.out (fun b hb=>hb.imp id fun e=>by rw [e];exact ⟨Nat.le_of_eq HRR.out.symm,zag HR2.out⟩)).setAt t).set8 (.inr rfl) _ _ _ _ _ _ _ _).give fun b hb=>.inl hb
     · exact zbL (Keeps.setCell (S:=fun b=>b=p) (a:=⟨p,1,none⟩) (zaq HB2.out) (.inl rfl) _) (Nat.le_of_eq HRR.out.symm) _ _ _ _ _ _ _ _
   · have e1 : (er == 0) = false := by rw [beq_eq_false_iff_ne]; exact her
     go_wp2
     refine bodyPost_ret (zaa rfl _ _ r 112 _ (0,0) _ rfl (set8 HR2.out _ _ _ _ _ _ _ _) Tryz.underlying112 rfl zat _ rfl) rfl ?_
     refine ⟨rfl,?_,?_⟩
     · exact ((HS.out.res (G':=fun b=>G b∨b=r) HB2.out (fun b hb=>hb.imp id fun e=>by rw [e];exact ⟨Nat.le_of_eq HRR.out.symm,zag HR2.out⟩)).set8 (.inr rfl) _ _ _ _ _ _ _ _).give fun b hb=>.inl hb
     · exact zbL (zaq HB2.out) (Nat.le_of_eq HRR.out.symm) _ _ _ _ _ _ _ _
def topP:List Nat→Option Addr
 | []=>none
 | g::_=>some ⟨g,0,none⟩
theorem zhY (h : zam w0 w F G p a cap bs last st at_ gs osl) : Calls Tryz.prog 97 #[.pointer (some ⟨p, 0, none⟩)] w fun e w' => e = .returned (.pointer (topP gs)) ∧ ∃ q, w' = w.drewN q := by
 have hl:=h.lvs.len
 have hd:=h.deep
 obtain ⟨ao,oc,rfl,hro,-⟩:=Row.of_owns h.own
 obtain ⟨⟨c0,c1,c2,c3⟩,f0,f1,f2,f3⟩:=h.cells
 cases gs with
 | nil =>
   have h0:st.length=0:=by simpa using hl.symm
   rw [h0] at c3
   clear hl hro h h0 hd
   go_enter Tryz.func97,Tryz.ntmps97
   go_wp2
   go_ret
   exact ⟨rfl,0,rfl⟩
 | cons g t =>
   have h0:st.length=t.length+1:=by simpa using hl.symm
   rw [h0] at hro c3 hd
   obtain ⟨b,off,rfl,hb,hc⟩:=hro.2.2.2.2 (by omega)
   have hcell:=hc t.length (.pointer (some ⟨g,0,none⟩)) (by simp [ptrs])
   have hce:decide (t.length+1=0)=false:=by simp
   have hci:((t.length:Int)+1==0)=false:=by rw [beq_eq_false_iff_ne];omega
   have h1:(0:Int)≤(t.length:Int)+1-1:=by omega
   have h2:((t.length:Int)+1-1).toNat=t.length:=by omega
   have h3:IntKind.i64.wrap ((t.length:Int)+1-1)=(t.length:Int):=by rw [IntWalk.i64_in _ (by omega)];omega
   have h4:(t.length:Int)<(t.length:Int)+1:=by omega
   have h5:(0:Int)≤(t.length:Int):=by omega
   have h6:((t.length:Int)).toNat=t.length:=by omega
   clear hc hro hl h h0
   unfold topP
   generalize t.length=n at *
   go_enter Tryz.func97,Tryz.ntmps97
   go_wp2
   go_quiet (fail)
   go_wp2
   go_ret
   exact ⟨rfl,_,rfl⟩
end
end Go.Proofs.YtkhcjoomijkfbaaGreatDoor
namespace Go.Proofs.YtkhcjoomijkfbaaGreatDoor
open Go.RowKit
theorem zge {w:World} {g n cap:Nat} {d:Bool} {a:Option Addr} (h:w.heap[g]?=some (.cells #[.bool d,.slice a n cap] 168 (0,0))) (hn:n≤maxLen) :
   Calls Tryz.prog 162 #[.pointer (some ⟨g,0,none⟩)] w fun e w'=>e=.returned (.bool (d&&n % 2==0))∧w=w':=by
 have c0:w.cell? ⟨g,0,none⟩=some (.bool d):=by rw [cell_of_row w g 0 _ _ _ h];rfl
 have c1:w.cell? ⟨g,1,none⟩=some (.slice a n cap):=by rw [cell_of_row w g 1 _ _ _ h];rfl
 have hi:(n:Int)≤9223372036854775807:=by unfold maxLen at hn;omega
 have he:((n:Int) % 2==0)=(n % 2==0):=by rw [Bool.eq_iff_iff];simp;omega
 have HE:=Lib.hid he
 clear h hn he
 cases d
 · go_enter Tryz.func162,Tryz.ntmps162
   go_wp2
   go_ret
   exact ⟨rfl,rfl⟩
 · go_enter Tryz.func162,Tryz.ntmps162
   go_wp2
   go_ret
   exact ⟨zbH (by rw [Bool.true_and];exact HE.out),rfl⟩
section
variable {w0 w w' : World} {F F' G : Nat → Prop} {p : Nat} {a : Option Addr} {cap : Nat} {bs : List UInt8} {last : Bool} {st : List Lv} {at_ : Int} {gs : List Nat} {osl : Value}
def RefEnd (w0 w:World) (F G:Nat→Prop) (p:Nat) (a:Option Addr) (cap:Nat) (bs:List UInt8) (last:Bool) (st:List Lv) (gs:List Nat) (osl:Value) (R:PV×Int×Int) (e:Ending) (w':World):Prop :=
 e=.returned (.tuple #[pvA R.1 (.slice none 0 0),.int .i64 R.2.2])∧zam w0 w' F G p a cap bs last st R.2.1 gs osl∧Keeps (fun b=>b=p) w w'
theorem fin4 (h:zam w0 w F G p a cap bs last st at_ gs osl) {W:World} (hb:Below w.heap.size w W) {q:Nat} (hq:w.heap.size≤q) (hl:q<W.heap.size) (y0 y1 y2 y3:Value) :
   zam w0 ((((W.setCell ⟨q,0,none⟩ y0).setCell ⟨q,1,none⟩ y1).setCell ⟨q,2,none⟩ y2).setCell ⟨q,3,none⟩ y3) F G p a cap bs last st at_ gs osl ∧
     Keeps (fun b=>b=p) w ((((W.setCell ⟨q,0,none⟩ y0).setCell ⟨q,1,none⟩ y1).setCell ⟨q,2,none⟩ y2).setCell ⟨q,3,none⟩ y3) :=
 ⟨((h.res (G':=fun b=>G b∨b=q) hb (fun b hb=>hb.imp id fun e=>by rw [e];exact ⟨hq,hl⟩)).set4 (.inr rfl) _ _ _ _).give fun b hb=>.inl hb,zaJ (zaq hb) hq _ _ _ _⟩
theorem fin4a (h:zam w0 w F G p a cap bs last st at_ gs osl) {W:World} (hb:Below w.heap.size w W) {q:Nat} (hq:w.heap.size≤q) (hl:q<W.heap.size) (at2:Int) (y0 y1 y2 y3:Value) :
   zam w0 (((((W.setCell ⟨p,1,none⟩ (.int .i64 at2)).setCell ⟨q,0,none⟩ y0).setCell ⟨q,1,none⟩ y1).setCell ⟨q,2,none⟩ y2).setCell ⟨q,3,none⟩ y3) F G p a cap bs last st at2 gs osl ∧
     Keeps (fun b=>b=p) w (((((W.setCell ⟨p,1,none⟩ (.int .i64 at2)).setCell ⟨q,0,none⟩ y0).setCell ⟨q,1,none⟩ y1).setCell ⟨q,2,none⟩ y2).setCell ⟨q,3,none⟩ y3) :=
 ⟨(((h.res (G' := fun b => G b ∨ b = q) hb (fun b hb => hb.imp id fun e => by rw [e]; exact ⟨hq, hl⟩)).setAt at2).set4 (.inr rfl) _ _ _ _).give fun b hb => .inl hb,
   zaJ (Keeps.setCell (S:=fun b=>b=p) (a:=⟨p,1,none⟩) (zaq hb) (.inl rfl) _) hq _ _ _ _⟩
theorem drew4 {W:World} {S:Nat→Prop} (h:zam w0 W F G p a cap bs last st at_ gs osl∧Keeps S w W):zam w0 W.drew F G p a cap bs last st at_ gs osl∧Keeps S w W.drew:=⟨h.1.drewN 1,h.2.drewN 1⟩
theorem ref_any (h:zam w0 w F G p a cap bs last st at_ gs osl) (v:PV):Calls Tryz.prog 165 #[.pointer (some ⟨p,0,none⟩),pvA v (.slice none 0 0)] w (RefEnd w0 w F G p a cap bs last st gs osl (refV bs last at_ v)):=by
 have HN:=Lib.hid (fun (W:World) (hb:Below w.heap.size w W)=>zel (h.bytes.mono hb) h.small at_ last)
 obtain ⟨R,hR⟩:∃R,R=refV bs last at_ v:=⟨_,rfl⟩
 rw [←hR]
 unfold refV at hR
 simp only at hR
 have HWH:=Lib.hid (fun (W:World)=>zhq (zae bs at_ last).1 (zae bs at_ last).2.1 (zae bs at_ last).2.2.1 W)
 have HN2:=Lib.hid (fun (W:World) (hb:Below w.heap.size w W)=>zel (h.bytes.mono hb) h.small (zae bs at_ last).2.2.1 last)
 generalize zae bs (zae bs at_ last).2.2.1 last=V2 at *
 generalize zae bs at_ last=V at *
 obtain ⟨x,gf,gt,ger⟩:=V
 obtain ⟨y,rf,rt,rer⟩:=V2
 simp only at hR HN2 HWH
 unfold zeT tokN at HN HN2
 unfold tokN at HWH
 simp only at HN HN2
 unfold pvA
 have HR:=Lib.hid hR
 have HYS:=Lib.hid (zd6 y.s [82])
 clear hR
 generalize x.kind=ga0 at *
 generalize x.vk=ga1 at *
 generalize x.vn=ga2 at *
 generalize mkB x.vs=gs1 at *
 generalize mkB x.s=gs2 at *
 generalize y.kind=ra0 at *
 generalize y.vk=ra1 at *
 generalize y.vn=ra2 at *
 generalize mkB y.vs=rs1 at *
 generalize mkB y.s=rs2 at *
 generalize zaH x=wh at *
 obtain ⟨vk,vn,vs,vl⟩:=v
 simp only [PV.kind,PV.n,PV.s] at HR ⊢
 have HS:=Lib.hid h
 have hpw:=h.lt
 clear h
 go_enter Tryz.func165,Tryz.ntmps165
 go_wp2
 have HB1:=Lib.hid (zcg w (.cells #[.int .i64 vk,.int .i64 vn,.string (mkB vs),.slice none 0 0] 48) (.cells #[.int .i64 0,.int .i64 0,.string ⟨#[]⟩,.slice none 0 0] 48))
 have HS1:=Lib.hid (HS.out.mono HB1.out)
 have HK3:=Lib.hid (zak (.cells #[.int .i64 0,.int .i64 0,.string ⟨#[]⟩,.slice none 0 0] 48) (zac (w:=w) (b:=w.heap.size) (.cells #[.int .i64 vk,.int .i64 vn,.string (mkB vs),.slice none 0 0] 48) rfl))
 have HK4:=Lib.hid (zac (w:=w.alloc (.cells #[.int .i64 vk,.int .i64 vn,.string (mkB vs),.slice none 0 0] 48)) (b:=w.heap.size+1) (.cells #[.int .i64 0,.int .i64 0,.string ⟨#[]⟩,.slice none 0 0] 48) (by rw [zal]))
 generalize (w.alloc _).alloc _=W1 at *
 obtain ⟨r,hr⟩:∃r,r=w.heap.size:=⟨_,rfl⟩
 have hpr0:p≠r:=by omega
 have hpr1:p≠r+1:=by omega
 rw [←hr] at HK3 HK4 ⊢
 have HRR:=Lib.hid hr
 clear hr hpw
 obtain ⟨⟨c0,c1,c2,c3⟩,f0,f1,f2,f3⟩:=HS1.out.cells
 go_upto_region 1 with fail
 go_cut [6,7] from 9 (fun v6 v7 wx=>∃r2,v6=.pointer (some ⟨r2,0,none⟩)∧v7=.int .i64 ger∧Hid (TkM W1 wx r2 #[.int .i64 ga0,.int .i64 gf,.int .i64 gt,.int .i64 ga1,.int .i64 ga2,.string gs1,.slice none 0 0,.string gs2]))
 case first =>
   have HA1:=Lib.hid (fun o:Obj=>(zah W1 o).drew)
   have HA2:=Lib.hid (fun o:Obj=>HB1.out.trans ((HA1.out o).mono (show w.heap.size≤W1.heap.size from HB1.out.size)))
   have HC0:Hid (S3 W1 p 0 (.slice a bs.length cap) p 1 (.int .i64 at_) p 2 (.bool last)):=Lib.hid ⟨c0,c1,c2⟩
   have HPR:Hid (p≠W1.heap.size∧p≠W1.heap.size∧p≠W1.heap.size):=Lib.hid ⟨Nat.ne_of_lt (World.block_lt_of_cell? W1 _ c0),Nat.ne_of_lt (World.block_lt_of_cell? W1 _ c1),Nat.ne_of_lt (World.block_lt_of_cell? W1 _ c2)⟩
   go_region_held3 (fun w' => w'.cell? ⟨p, 0, none⟩ = some (.slice a bs.length cap) ∧ w'.cell? ⟨p, 1, none⟩ = some (.int .i64 at_) ∧ w'.cell? ⟨p, 2, none⟩ = some (.bool last))
     ((show S3 _ p 0 (.slice a bs.length cap) p 1 (.int .i64 at_) p 2 (.bool last);(first
       | (with_reducible exact HC0.out.drew)
       | (with_reducible exact HC0.out)
       | (with_reducible exact (HC0.out.alloc _).drew)
       | (with_reducible exact Hid.out (by assumption))
       | (with_reducible exact S3.alloc (Hid.out (by assumption)) _)
       | (with_reducible exact S3.set8 (Hid.out (by assumption)) HPR.out.1 HPR.out.2.1 HPR.out.2.2 _ _ _ _ _ _ _ _))))
     ((go_at_call 56;first
       | ((with_reducible refine (HN.out _ HB1.out.drew).mono ?_);rintro e wN ⟨rfl,hbN⟩;have hbM:Below W1.heap.size W1 wN:=(Below.refl _ _).drew.trans hbN;have HSN:=Lib.hid (HC0.out.below hbM))
       | ((with_reducible refine (HN.out _ (HA2.out _)).mono ?_);rintro e wN ⟨rfl,hbN⟩;have hbM:Below W1.heap.size W1 wN:=(HA1.out _).trans (hbN.mono (HA1.out _).size);have HSN:=Lib.hid (HC0.out.below hbM);have HZ:=Lib.hid (zab hbN (zac (w:=W1) (b:=W1.heap.size) (.cells #[.int .i64 0,.int .i64 0,.int .i64 0,.int .i64 0,.int .i64 0,.string ⟨#[]⟩,.slice none 0 0,.string ⟨#[]⟩] 112) rfl));obtain ⟨⟨z0,z1,z2,z3,z4,z5,z6,z7⟩,y0,y1,y2,y3,y4,y5,y6,y7⟩:=zap HZ.out)))
   all_goals
     first
       | (obtain ⟨W2,hW2⟩:∃W2,W2=wN.alloc (.cells #[.int .i64 ga0,.int .i64 gf,.int .i64 gt,.int .i64 ga1,.int .i64 ga2,.string gs1,.slice none 0 0,.string gs2] 112):=⟨_,rfl⟩
          rw [←hW2]
          have HT:=Lib.hid (show TkM W1 W2 wN.heap.size #[.int .i64 ga0,.int .i64 gf,.int .i64 gt,.int .i64 ga1,.int .i64 ga2,.string gs1,.slice none 0 0,.string gs2] from ⟨by rw [hW2];exact hbM.alloc hbM.size _,by rw [hW2];exact zac _ rfl,hbM.size⟩)
          obtain ⟨r2,hr2⟩:∃r2,r2=wN.heap.size:=⟨_,rfl⟩
          rw [←hr2] at HT ⊢)
       | (obtain ⟨W2,hW2⟩:∃W2,W2=((((((((wN.setCell ⟨W1.heap.size,0,none⟩ (.int .i64 ga0)).setCell ⟨W1.heap.size,1,none⟩ (.int .i64 gf)).setCell ⟨W1.heap.size,2,none⟩ (.int .i64 gt)).setCell ⟨W1.heap.size,3,none⟩ (.int .i64 ga1)).setCell ⟨W1.heap.size,4,none⟩ (.int .i64 ga2)).setCell ⟨W1.heap.size,5,none⟩ (.string gs1)).setCell ⟨W1.heap.size,6,none⟩ (.slice none 0 0)).setCell ⟨W1.heap.size,7,none⟩ (.string gs2)):=⟨_,rfl⟩
          rw [←hW2]
          have HT:=Lib.hid (show TkM W1 W2 W1.heap.size #[.int .i64 ga0,.int .i64 gf,.int .i64 gt,.int .i64 ga1,.int .i64 ga2,.string gs1,.slice none 0 0,.string gs2] from ⟨by rw [hW2];exact zbj hbM (Nat.le_refl _) _ _ _ _ _ _ _ _,by rw [hW2];exact set8 HZ.out _ _ _ _ _ _ _ _,Nat.le_refl _⟩)
          clear z0 z1 z2 z3 z4 z5 z6 z7 y0 y1 y2 y3 y4 y5 y6 y7 HZ
          obtain ⟨r2,hr2⟩:∃r2,r2=W1.heap.size:=⟨_,rfl⟩
          rw [←hr2] at HT ⊢)
     clear hW2 hr2 hbN hbM HSN
   all_goals
     go_wp2
     go_meet
     exact ⟨r2,rfl,rfl,HT⟩
 case rest =>
   obtain ⟨r2,rfl,rfl,HT⟩:=hcut
   have HS2:=Lib.hid (HS1.out.mono HT.out.bel)
   have HB2:=Lib.hid (HB1.out.trans (HT.out.bel.mono HB1.out.size))
   have HL3:=Lib.hid (zab HT.out.bel HK3.out)
   have HL4:=Lib.hid (zab HT.out.bel HK4.out)
   have HTK:=Lib.hid HT.out.blk
   clear c0 c1 c2 c3 f0 f1 f2 f3 HT HK3 HK4 HS1 HB1 HN
   have hmv:=Lib.hid (fun e w=>more_any e w)
   by_cases hg:ger=0
   case neg =>
     have e1:(ger==0)=false:=by rw [beq_eq_false_iff_ne];exact hg
     have e2:(ger != 0)=true:=by simp only [bne,e1,Bool.not_false]
     have hr2:=HR.out
     rw [if_pos (.inl hg)] at hr2
     have HR2:=Lib.hid hr2
     obtain ⟨⟨k0,k1,k2,k3⟩,m0,m1,m2,m3⟩:=zaf HL3.out
     obtain ⟨⟨q0,q1,q2,q3⟩,n0,n1,n2,n3⟩:=zaf HL4.out
     clear hr2 hg HR HN2
     go_wp2
     go_region_with ((go_at_call 200;refine (hmv.out _ _).mono ?_;rintro e w' ⟨rfl,rfl⟩))
     all_goals
       go_wp2
       refine bodyPost_ret (zaa rfl _ _ (r+1) 48 _ (0,0) _ rfl (by exact set4 HL4.out _ _ _ _) Tryz.underlying48 rfl (by exact zaB) _ rfl) rfl ?_
       rw [HR2.out]
       exact ⟨rfl,drew4 (fin4 HS.out HB2.out (by rw [HRR.out];exact Nat.le_succ _) (zag HL4.out) _ _ _ _)⟩
   subst hg
   cases wh with
   | false =>
     have hr2:=HR.out
     rw [if_pos (.inr rfl)] at hr2
     have HR2:=Lib.hid hr2
     obtain ⟨⟨k0,k1,k2,k3,k4,k5,k6,k7⟩,-⟩:=zap HTK.out
     clear hr2 HR HN2
     go_wp2_with fail
     refine (HWH.out _).mono ?_
     rintro e w' ⟨rfl,hb⟩
     have HL3b:=Lib.hid (zab hb HL3.out)
     have HL4b:=Lib.hid (zab hb HL4.out)
     have HB3:=Lib.hid (HB2.out.trans (hb.mono HB2.out.size))
     obtain ⟨⟨k0,k1,k2,k3⟩,m0,m1,m2,m3⟩:=zaf HL3b.out
     obtain ⟨⟨q0,q1,q2,q3⟩,n0,n1,n2,n3⟩:=zaf HL4b.out
     clear hb
     go_wp2
     go_region_with ((go_at_call 200;refine (hmv.out _ _).mono ?_;rintro e w' ⟨rfl,rfl⟩))
     all_goals
       go_wp2
       refine bodyPost_ret (zaa rfl _ _ (r+1) 48 _ (0,0) _ rfl (by exact set4 HL4b.out _ _ _ _) Tryz.underlying48 rfl (by exact zaB) _ rfl) rfl ?_
       rw [HR2.out]
       exact ⟨rfl,drew4 (fin4 HS.out HB3.out (by rw [HRR.out];exact Nat.le_succ _) (zag HL4b.out) _ _ _ _)⟩
   | true =>
     have hr1:=HR.out
     rw [if_neg (by simp)] at hr1
     have HRX:=Lib.hid hr1
     obtain ⟨⟨k0,k1,k2,k3,k4,k5,k6,k7⟩,-⟩:=zap HTK.out
     clear hr1 HR
     go_upto_region 4 with (go_at_call 93;refine (HWH.out _).mono ?_;rintro e W3 ⟨rfl,hb3⟩)
     have HB3:=Lib.hid (HB2.out.trans (hb3.mono HB2.out.size))
     have HS3:=Lib.hid (HS2.out.mono hb3)
     have HL3b:=Lib.hid (zab hb3 HL3.out)
     have HL4b:=Lib.hid (zab hb3 HL4.out)
     have HTKb:=Lib.hid (zab hb3 HTK.out)
     clear hb3 k0 k1 k2 k3 k4 k5 k6 k7
     go_cut [7,8] from 9 (fun v7 v8 wx=>∃r3,v7=.int .i64 rer∧v8=.pointer (some ⟨r3,0,none⟩)∧Hid (TkM W3 wx r3 #[.int .i64 ra0,.int .i64 rf,.int .i64 rt,.int .i64 ra1,.int .i64 ra2,.string rs1,.slice none 0 0,.string rs2]))
     case first =>
       obtain ⟨⟨k0,k1,k2,k3,k4,k5,k6,k7⟩,-⟩:=zap HTKb.out
       obtain ⟨⟨c0,c1,c2,c3⟩,-⟩:=HS3.out.cells
       clear k0 k1 k3 k4 k5 k6 k7 c1 c3
       have HA1:=Lib.hid (fun o:Obj=>(zah W3 o).drew)
       have HA2:=Lib.hid (fun o:Obj=>HB3.out.trans ((HA1.out o).mono (show w.heap.size≤W3.heap.size from HB3.out.size)))
       have HC0:Hid (S3 W3 p 0 (.slice a bs.length cap) r2 2 (.int .i64 gt) p 2 (.bool last)):=Lib.hid ⟨c0,k2,c2⟩
       have HPR:Hid (p≠W3.heap.size∧r2≠W3.heap.size∧p≠W3.heap.size):=Lib.hid ⟨Nat.ne_of_lt (World.block_lt_of_cell? W3 _ c0),Nat.ne_of_lt (World.block_lt_of_cell? W3 _ k2),Nat.ne_of_lt (World.block_lt_of_cell? W3 _ c2)⟩
       go_region_held3 (fun w' => w'.cell? ⟨p, 0, none⟩ = some (.slice a bs.length cap) ∧ w'.cell? ⟨r2, 2, none⟩ = some (.int .i64 gt) ∧ w'.cell? ⟨p, 2, none⟩ = some (.bool last))
         ((show S3 _ p 0 (.slice a bs.length cap) r2 2 (.int .i64 gt) p 2 (.bool last);(first
           | (with_reducible exact HC0.out.drew)
           | (with_reducible exact HC0.out)
           | (with_reducible exact (HC0.out.alloc _).drew)
           | (with_reducible exact Hid.out (by assumption))
           | (with_reducible exact S3.alloc (Hid.out (by assumption)) _)
           | (with_reducible exact S3.set8 (Hid.out (by assumption)) HPR.out.1 HPR.out.2.1 HPR.out.2.2 _ _ _ _ _ _ _ _))))
         ((go_at_call 56;first
           | ((with_reducible refine (HN2.out _ HB3.out.drew).mono ?_);rintro e wN ⟨rfl,hbN⟩;have hbM:Below W3.heap.size W3 wN:=(Below.refl _ _).drew.trans hbN;have HSN:=Lib.hid (HC0.out.below hbM))
           | ((with_reducible refine (HN2.out _ (HA2.out _)).mono ?_);rintro e wN ⟨rfl,hbN⟩;have hbM:Below W3.heap.size W3 wN:=(HA1.out _).trans (hbN.mono (HA1.out _).size);have HSN:=Lib.hid (HC0.out.below hbM);have HZ:=Lib.hid (zab hbN (zac (w:=W3) (b:=W3.heap.size) (.cells #[.int .i64 0,.int .i64 0,.int .i64 0,.int .i64 0,.int .i64 0,.string ⟨#[]⟩,.slice none 0 0,.string ⟨#[]⟩] 112) rfl));obtain ⟨⟨z0,z1,z2,z3,z4,z5,z6,z7⟩,y0,y1,y2,y3,y4,y5,y6,y7⟩:=zap HZ.out)))
       all_goals
         first
           | (obtain ⟨W2,hW2⟩:∃W2,W2=wN.alloc (.cells #[.int .i64 ra0,.int .i64 rf,.int .i64 rt,.int .i64 ra1,.int .i64 ra2,.string rs1,.slice none 0 0,.string rs2] 112):=⟨_,rfl⟩
              rw [←hW2]
              have HT:=Lib.hid (show TkM W3 W2 wN.heap.size #[.int .i64 ra0,.int .i64 rf,.int .i64 rt,.int .i64 ra1,.int .i64 ra2,.string rs1,.slice none 0 0,.string rs2] from ⟨by rw [hW2];exact hbM.alloc hbM.size _,by rw [hW2];exact zac _ rfl,hbM.size⟩)
              obtain ⟨r2_1,hr2⟩:∃r2_1,r2_1=wN.heap.size:=⟨_,rfl⟩
              rw [←hr2] at HT ⊢)
           | (obtain ⟨W2,hW2⟩:∃W2,W2=((((((((wN.setCell ⟨W3.heap.size,0,none⟩ (.int .i64 ra0)).setCell ⟨W3.heap.size,1,none⟩ (.int .i64 rf)).setCell ⟨W3.heap.size,2,none⟩ (.int .i64 rt)).setCell ⟨W3.heap.size,3,none⟩ (.int .i64 ra1)).setCell ⟨W3.heap.size,4,none⟩ (.int .i64 ra2)).setCell ⟨W3.heap.size,5,none⟩ (.string rs1)).setCell ⟨W3.heap.size,6,none⟩ (.slice none 0 0)).setCell ⟨W3.heap.size,7,none⟩ (.string rs2)):=⟨_,rfl⟩
              rw [←hW2]
              have HT:=Lib.hid (show TkM W3 W2 W3.heap.size #[.int .i64 ra0,.int .i64 rf,.int .i64 rt,.int .i64 ra1,.int .i64 ra2,.string rs1,.slice none 0 0,.string rs2] from ⟨by rw [hW2];exact zbj hbM (Nat.le_refl _) _ _ _ _ _ _ _ _,by rw [hW2];exact set8 HZ.out _ _ _ _ _ _ _ _,Nat.le_refl _⟩)
              clear z0 z1 z2 z3 z4 z5 z6 z7 y0 y1 y2 y3 y4 y5 y6 y7 HZ
              obtain ⟨r2_1,hr2⟩:∃r2_1,r2_1=W3.heap.size:=⟨_,rfl⟩
              rw [←hr2] at HT ⊢)
         clear hW2 hr2 hbN hbM HSN
       all_goals
         go_wp2
         go_meet
         exact ⟨r2_1,rfl,rfl,HT⟩
     case rest =>
       obtain ⟨r3,rfl,rfl,HT⟩:=hcut
       have HS4:=Lib.hid (HS3.out.mono HT.out.bel)
       have HB4:=Lib.hid (HB3.out.trans (HT.out.bel.mono HB3.out.size))
       have HM3:=Lib.hid (zab HT.out.bel HL3b.out)
       have HM4:=Lib.hid (zab HT.out.bel HL4b.out)
       have HU1:=Lib.hid (zab HT.out.bel HTKb.out)
       have HU2:=Lib.hid HT.out.blk
       clear HT
       obtain ⟨⟨k0,k1,k2,k3⟩,m0,m1,m2,m3⟩:=zaf HM3.out
       obtain ⟨⟨q0,q1,q2,q3⟩,n0,n1,n2,n3⟩:=zaf HM4.out
       obtain ⟨⟨t0,t1,t2,t3,t4,t5,t6,t7⟩,-⟩:=zap HU2.out
       obtain ⟨⟨d0,d1,d2,d3,d4,d5,d6,d7⟩,-⟩:=zap HU1.out
       obtain ⟨⟨c0,c1,c2,c3⟩,f0,f1,f2,f3⟩:=HS4.out.cells
       have hys:=HYS.out
       by_cases h0:rer=0
       case neg =>
         have e1:(rer==0)=false:=by rw [beq_eq_false_iff_ne];exact h0
         have e2:(rer != 0)=true:=by simp only [bne,e1,Bool.not_false]
         have hr2:=HRX.out
         rw [if_pos (.inl h0)] at hr2
         have HR2:=Lib.hid hr2
         clear hr2 h0 hys
         go_wp2
         go_region_with ((go_at_call 200;refine (hmv.out _ _).mono ?_;rintro e w' ⟨rfl,rfl⟩))
         all_goals
           go_wp2
           refine bodyPost_ret (zaa rfl _ _ (r+1) 48 _ (0,0) _ rfl (by exact set4 HM4.out _ _ _ _) Tryz.underlying48 rfl (by exact zaB) _ rfl) rfl ?_
           rw [HR2.out]
           exact ⟨rfl,drew4 (fin4 HS.out HB4.out (by rw [HRR.out];exact Nat.le_succ _) (zag HM4.out) _ _ _ _)⟩
       subst h0
       by_cases h6:ra0=6
       case neg =>
         have e1:(ra0==6)=false:=by rw [beq_eq_false_iff_ne];exact h6
         have e2:(ra0 != 6)=true:=by simp only [bne,e1,Bool.not_false]
         have hr2:=HRX.out
         rw [if_pos (.inr (.inl h6))] at hr2
         have HR2:=Lib.hid hr2
         clear hr2 h6 hys
         go_wp2
         go_region_with ((go_at_call 200;refine (hmv.out _ _).mono ?_;rintro e w' ⟨rfl,rfl⟩))
         all_goals
           go_wp2
           refine bodyPost_ret (zaa rfl _ _ (r+1) 48 _ (0,0) _ rfl (by exact set4 HM4.out _ _ _ _) Tryz.underlying48 rfl (by exact zaB) _ rfl) rfl ?_
           rw [HR2.out]
           exact ⟨rfl,drew4 (fin4 HS.out HB4.out (by rw [HRR.out];exact Nat.le_succ _) (zag HM4.out) _ _ _ _)⟩
       subst h6
       by_cases hs:y.s=[82]
       case neg =>
         rw [decide_eq_false hs] at hys
         have hr2:=HRX.out
         rw [if_pos (.inr (.inr hs))] at hr2
         have HR2:=Lib.hid hr2
         clear hr2 hs
         go_wp2
         go_region_with ((go_at_call 200;refine (hmv.out _ _).mono ?_;rintro e w' ⟨rfl,rfl⟩))
         all_goals
           go_wp2
           refine bodyPost_ret (zaa rfl _ _ (r+1) 48 _ (0,0) _ rfl (by exact set4 HM4.out _ _ _ _) Tryz.underlying48 rfl (by exact zaB) _ rfl) rfl ?_
           rw [HR2.out]
           exact ⟨rfl,drew4 (fin4 HS.out HB4.out (by rw [HRR.out];exact Nat.le_succ _) (zag HM4.out) _ _ _ _)⟩
       rw [decide_eq_true hs] at hys
       have hr2:=HRX.out
       rw [if_neg (by rintro (h|h|h);exact h rfl;exact h rfl;exact h hs)] at hr2
       have HRY:=Lib.hid hr2
       clear hr2 hs
       by_cases hv1:vn<1
       case pos =>
         have hd:decide (vn<1)=true:=decide_eq_true hv1
         have hr2:=HRY.out.trans (if_pos (show vn<1∨4096<vn∨ga2≠0 from .inl hv1))
         have HR2:=Lib.hid hr2
         clear hr2 hv1
         go_wp2
         refine bodyPost_ret (zaa rfl _ _ (r+1) 48 _ (0,0) _ rfl (by exact set4 HM4.out _ _ _ _) Tryz.underlying48 rfl (by exact zaB) _ rfl) rfl ?_
         rw [HR2.out]
         exact ⟨rfl,fin4 HS.out HB4.out (by rw [HRR.out];exact Nat.le_succ _) (zag HM4.out) _ _ _ _⟩
       have hd1:decide (vn<1)=false:=decide_eq_false hv1
       by_cases hv2:4096<vn
       case pos =>
         have hd:decide (4096<vn)=true:=decide_eq_true hv2
         have hr2:=HRY.out.trans (if_pos (show vn<1∨4096<vn∨ga2≠0 from .inr (.inl hv2)))
         have HR2:=Lib.hid hr2
         clear hr2 hv2 hv1
         go_wp2
         refine bodyPost_ret (zaa rfl _ _ (r+1) 48 _ (0,0) _ rfl (by exact set4 HM4.out _ _ _ _) Tryz.underlying48 rfl (by exact zaB) _ rfl) rfl ?_
         rw [HR2.out]
         exact ⟨rfl,fin4 HS.out HB4.out (by rw [HRR.out];exact Nat.le_succ _) (zag HM4.out) _ _ _ _⟩
       have hd2:decide (4096<vn)=false:=decide_eq_false hv2
       by_cases hg2:ga2=0
       case neg =>
         have e1:(ga2==0)=false:=by rw [beq_eq_false_iff_ne];exact hg2
         have e2:(ga2 != 0)=true:=by simp only [bne,e1,Bool.not_false]
         have hr2:=HRY.out.trans (if_pos (show vn<1∨4096<vn∨ga2≠0 from .inr (.inr hg2)))
         have HR2:=Lib.hid hr2
         clear hr2 hv2 hv1 hg2
         go_wp2
         refine bodyPost_ret (zaa rfl _ _ (r+1) 48 _ (0,0) _ rfl (by exact set4 HM4.out _ _ _ _) Tryz.underlying48 rfl (by exact zaB) _ rfl) rfl ?_
         rw [HR2.out]
         exact ⟨rfl,fin4 HS.out HB4.out (by rw [HRR.out];exact Nat.le_succ _) (zag HM4.out) _ _ _ _⟩
       subst hg2
       have hr2:=HRY.out.trans (if_neg (show ¬(vn<1∨4096<vn∨(0:Int)≠0) by rintro (h|h|h);exact hv1 h;exact hv2 h;exact h rfl))
       have HR2:=Lib.hid hr2
       clear hr2 hv2 hv1
       go_wp2
       refine bodyPost_ret (zaa rfl _ _ (r+1) 48 _ (0,0) _ rfl (by exact set4 ((heap_setCell_other _ _ _ _ (Ne.symm hpr1)).trans HM4.out) _ _ _ _) Tryz.underlying48 rfl (by exact zaB) _ rfl) rfl ?_
       rw [HR2.out]
       exact ⟨rfl,fin4a HS.out HB4.out (by rw [HRR.out];exact Nat.le_succ _) (zag HM4.out) _ _ _ _ _⟩
end
end Go.Proofs.YtkhcjoomijkfbaaGreatDoor
namespace Go.Proofs.YtkhcjoomijkfbaaGreatDoor
open Go.RowKit
section
variable {w0 w w' : World} {F F' G : Nat → Prop} {p : Nat} {a : Option Addr} {cap : Nat} {bs : List UInt8} {last : Bool} {st : List Lv} {at_ : Int} {gs : List Nat} {osl : Value}
theorem zam.top (h:zam w0 w F G p a cap bs last st at_ gs osl):(st=[]∧gs=[])∨∃v st' g t sa sc,st=v::st'∧gs=g::t∧v.l.length≤sc∧sc≤maxLen∧w.heap[g]?=some (.cells #[.bool v.dict,.slice sa v.l.length sc] 168 (0,0)):=by
 cases st with
 | nil=>exact .inl ⟨rfl,List.eq_nil_of_length_eq_zero (by rw [h.lvs.len];rfl)⟩
 | cons v st' =>
   obtain ⟨g,t,sl,cs,h1,h2,h3,h4,h5,h6,h7,h8⟩:=h.lvs
   obtain ⟨sa,sc,rfl,h9,h10⟩:=zbK h5
   exact .inr ⟨v,st',g,t,sa,sc,rfl,h1,h9,h10,h4⟩
theorem single_any (h:zam w0 w F G p a cap bs last st at_ gs osl) (x:Tk) (f t:Int):Calls Tryz.prog 133 #[.pointer (some ⟨p,0,none⟩),.agg (tokN x f t)] w (RefEnd w0 w F G p a cap bs last st gs osl (zao bs last st at_ x)):=by
 obtain ⟨R,hR⟩:∃R,R=zao bs last st at_ x:=⟨_,rfl⟩
 rw [←hR]
 unfold zao at hR
 have HR:=Lib.hid hR
 have HTOP:=Lib.hid (fun (W:World) (hb:Below w.heap.size w W)=>zhY (h.mono hb))
 have HTP:=Lib.hid (fun (W:World) (hb:Below w.heap.size w W)=>(h.mono hb).top)
 have HREF:=Lib.hid (fun (W:World) (hb:Below w.heap.size w W) (hl:w.heap.size+1<W.heap.size)=>ref_any (h.res (G':=fun b=>G b∨b=w.heap.size+1) hb (fun b h=>h.imp id fun e=>by rw [e];exact ⟨Nat.le_succ _,hl⟩)) (tkV x))
 have HWD:=Lib.hid (fun (W:World)=>pword_any x.s W)
 have HWH:=Lib.hid (fun (W:World)=>zhq x f t W)
 have HTK:=Lib.hid (show tkV x=.mk x.vk x.vn x.vs [] from rfl)
 generalize tkV x=TV at *
 unfold tokN at *
 generalize zaH x=wh at *
 generalize x.kind=a0 at *
 generalize x.vk=a1 at *
 generalize x.vn=a2 at *
 generalize hxs:x.vs=xs at *
 generalize x.s=ys at *
 have HS:=Lib.hid h
 have hpw:=h.lt
 clear h hR hxs
 go_enter Tryz.func133,Tryz.ntmps133
 go_wp2_with fail
 have HB1:=Lib.hid (zcg w (.cells #[.int .i64 a0,.int .i64 f,.int .i64 t,.int .i64 a1,.int .i64 a2,.string (mkB xs),.slice none 0 0,.string (mkB ys)] 112) (.cells #[.int .i64 0,.int .i64 0,.string ⟨#[]⟩,.slice none 0 0] 48))
 have HK3:=Lib.hid (zak (.cells #[.int .i64 0,.int .i64 0,.string ⟨#[]⟩,.slice none 0 0] 48) (zac (w:=w) (b:=w.heap.size) (.cells #[.int .i64 a0,.int .i64 f,.int .i64 t,.int .i64 a1,.int .i64 a2,.string (mkB xs),.slice none 0 0,.string (mkB ys)] 112) rfl))
 have HK4:=Lib.hid (zac (w:=w.alloc (.cells #[.int .i64 a0,.int .i64 f,.int .i64 t,.int .i64 a1,.int .i64 a2,.string (mkB xs),.slice none 0 0,.string (mkB ys)] 112)) (b:=w.heap.size+1) (.cells #[.int .i64 0,.int .i64 0,.string ⟨#[]⟩,.slice none 0 0] 48) (by rw [zal]))
 refine (HTOP.out _ HB1.out).mono ?_
 rintro e w1 ⟨rfl,q,rfl⟩
 generalize (w.alloc _).alloc _=W1 at *
 have HB2:=Lib.hid (zad HB1.out q)
 have HL3:=Lib.hid (show (W1.drewN q).heap[w.heap.size]?=_ from HK3.out)
 have HL4:=Lib.hid (show (W1.drewN q).heap[w.heap.size+1]?=_ from HK4.out)
 clear HK3 HK4 HB1
 generalize W1.drewN q=W2 at *
 obtain ⟨r,hr⟩:∃r,r=w.heap.size:=⟨_,rfl⟩
 have hpr0:p≠r:=by omega
 have hpr1:p≠r+1:=by omega
 rw [←hr] at HL3 HL4 ⊢
 have HRR:=Lib.hid hr
 clear hr hpw
 go_upto_region 2 with fail
 go_cut [25] from 7 (fun v25 wx=>∃c:Bool,v25=.bool c∧Hid (c=true↔(topW st=true∧(a0≠1∨a1≠5)))∧W2=wx)
 case first =>
   obtain ⟨⟨k0,k1,k2,k3,k4,k5,k6,k7⟩,-⟩:=zap HL3.out
   rcases HTP.out _ HB2.out with ⟨rfl,rfl⟩|⟨v,st',g,t',sa,sc,rfl,rfl,h1,h2,h3⟩
   · unfold topP
     go_wp2
     go_meet
     exact ⟨false,rfl,Lib.hid (by simp [topW]),rfl⟩
   · have HWT := Lib.hid (zge h3 (by omega))
     have HTW:=Lib.hid (show topW (v::st')=(v.dict&&v.l.length % 2==0) from rfl)
     unfold topP
     generalize (v.dict&&v.l.length % 2==0)=tw at *
     clear h1 h2 h3
     cases tw
     · go_wp2_with (go_at_call 162;refine HWT.out.mono ?_;rintro e w' ⟨rfl,rfl⟩)
       go_meet
       exact ⟨false,rfl,Lib.hid (by rw [HTW.out];simp),rfl⟩
     · by_cases h1:a0=1
       · subst h1
         by_cases h5:a1=5
         · subst h5
           go_wp2_with (go_at_call 162;refine HWT.out.mono ?_;rintro e w' ⟨rfl,rfl⟩)
           go_meet
           exact ⟨false,rfl,Lib.hid (by simp),rfl⟩
         · have e1 : (a1 == 5) = false := by rw [beq_eq_false_iff_ne]; exact h5
           have e2:(a1 != 5)=true:=by simp only [bne,e1,Bool.not_false]
           go_wp2_with (go_at_call 162;refine HWT.out.mono ?_;rintro e w' ⟨rfl,rfl⟩)
           go_meet
           exact ⟨true,rfl,Lib.hid (by rw [HTW.out];simp [h5]),rfl⟩
       · have e1 : (a0 == 1) = false := by rw [beq_eq_false_iff_ne]; exact h1
         have e2:(a0 != 1)=true:=by simp only [bne,e1,Bool.not_false]
         go_wp2_with (go_at_call 162;refine HWT.out.mono ?_;rintro e w' ⟨rfl,rfl⟩)
         go_meet
         exact ⟨true,rfl,Lib.hid (by rw [HTW.out];simp [h1]),rfl⟩
 case rest =>
   obtain ⟨c,rfl,HC,rfl⟩:=hcut
   have hr1:w.heap.size≤r+1:=by rw [HRR.out];exact Nat.le_succ _
   have HR1:=Lib.hid hr1
   clear hr1
   cases c with
   | true =>
     have hr2:=HR.out
     rw [if_pos (HC.out.1 rfl)] at hr2
     have HR2:=Lib.hid hr2
     obtain ⟨⟨q0,q1,q2,q3⟩,n0,n1,n2,n3⟩:=zaf HL4.out
     clear hr2 HR HREF HWD HWH
     go_wp2
     refine bodyPost_ret (zaa rfl _ _ (r+1) 48 _ (0,0) _ rfl (by exact set4 HL4.out _ _ _ _) Tryz.underlying48 rfl (by exact zaB) _ rfl) rfl ?_
     rw [HR2.out]
     exact ⟨rfl,fin4 HS.out HB2.out HR1.out (zag HL4.out) _ _ _ _⟩
   | false =>
     have hr2:=HR.out
     rw [if_neg (fun h=>absurd (HC.out.2 h) (by decide))] at hr2
     have HRX:=Lib.hid hr2
     obtain ⟨⟨k0,k1,k2,k3,k4,k5,k6,k7⟩,-⟩:=zap HL3.out
     clear hr2 HR HC
     by_cases h6:a0=6
     · have hr2:=HRX.out
       rw [if_pos h6] at hr2
       subst h6
       have hr3:R=((wordE ys).1,at_,(wordE ys).2):=by
         rw [hr2];unfold wordE;cases zeM ys<;>rfl
       have HR2:=Lib.hid hr3
       unfold pvA at HWD
       clear hr2 hr3 HRX
       go_wp2_with fail
       refine (HWD.out _).mono ?_
       rintro e w3 ⟨rfl,hb3⟩
       have HL4b:=Lib.hid (zab hb3 HL4.out)
       have HB3:=Lib.hid (HB2.out.trans (hb3.mono HB2.out.size))
       obtain ⟨⟨q0,q1,q2,q3⟩,n0,n1,n2,n3⟩:=zaf HL4b.out
       clear hb3
       go_wp2
       refine bodyPost_ret (zaa rfl _ _ (r+1) 48 _ (0,0) _ rfl (by exact set4 HL4b.out _ _ _ _) Tryz.underlying48 rfl (by exact zaB) _ rfl) rfl ?_
       rw [HR2.out]
       exact ⟨rfl,fin4 HS.out HB3.out HR1.out (zag HL4b.out) _ _ _ _⟩
     · have hr2:=HRX.out
       rw [if_neg h6] at hr2
       have HRY:=Lib.hid hr2
       have e1:(a0==6)=false:=by rw [beq_eq_false_iff_ne];exact h6
       clear hr2 h6 HRX
       go_wp2_with fail
       refine (HWH.out _).mono ?_
       rintro e w3 ⟨rfl,hb3⟩
       have HL3b:=Lib.hid (zab hb3 HL3.out)
       have HL4b:=Lib.hid (zab hb3 HL4.out)
       have HB3:=Lib.hid (HB2.out.trans (hb3.mono HB2.out.size))
       clear k0 k1 k2 k3 k4 k5 k6 k7 hb3
       obtain ⟨⟨k0,k1,k2,k3,k4,k5,k6,k7⟩,-⟩:=zap HL3b.out
       cases wh with
       | true =>
         have hr2:=HRY.out
         rw [if_pos rfl] at hr2
         have HR2:=Lib.hid hr2
         have HC2:=Lib.hid (HREF.out _ HB3.out (by rw [←HRR.out];exact zag HL4b.out))
         rw [HTK.out] at HC2
         unfold pvA at HC2
         simp only [PV.kind,PV.n,PV.s] at HC2
         clear hr2 HRY HREF
         go_wp2_with fail
         refine HC2.out.mono ?_
         rintro e w4 ⟨he,hs4,hk4⟩
         unfold pvA at he
         subst he
         have HL4c:=Lib.hid (hk4.obj HL4b.out (fun e=>hpr1 e.symm))
         have HS4:=Lib.hid hs4
         have HK4:=Lib.hid ((zaq HB3.out).trans hk4 (fun b hb=>.inl hb))
         obtain ⟨⟨q0,q1,q2,q3⟩,n0,n1,n2,n3⟩:=zaf HL4c.out
         clear hs4 hk4 HC2
         go_wp2
         refine bodyPost_ret (zaa rfl _ _ (r+1) 48 _ (0,0) _ rfl (by exact set4 HL4c.out _ _ _ _) Tryz.underlying48 rfl (by exact zaB) _ rfl) rfl ?_
         rw [HR2.out]
         rw [HTK.out]
         exact ⟨rfl,(HS4.out.set4 (.inr (by rw [HRR.out])) _ _ _ _).give fun b hb=>.inl hb,zaJ HK4.out HR1.out _ _ _ _⟩
       | false =>
         have hr2:=HRY.out
         rw [if_neg (by decide)] at hr2
         have HR2:=Lib.hid hr2
         obtain ⟨⟨q0,q1,q2,q3⟩,n0,n1,n2,n3⟩:=zaf HL4b.out
         clear hr2 HRY HREF
         go_wp2
         refine bodyPost_ret (zaa rfl _ _ (r+1) 48 _ (0,0) _ rfl (by exact set4 HL4b.out _ _ _ _) Tryz.underlying48 rfl (by exact zaB) _ rfl) rfl ?_
         rw [HR2.out,HTK.out]
         exact ⟨rfl,fin4 HS.out HB3.out HR1.out (zag HL4b.out) _ _ _ _⟩
end
end Go.Proofs.YtkhcjoomijkfbaaGreatDoor
namespace Go.Proofs.YtkhcjoomijkfbaaGreatDoor
open Go.RowKit
theorem ptrs_cons (g:Nat) (gs:List Nat):ptrs (g::gs)=ptrs gs++[.pointer (some ⟨g,0,none⟩)]:=by simp [ptrs]
section
variable {w0 w w' : World} {F F' G G' : Nat → Prop} {p : Nat} {a : Option Addr} {cap : Nat} {bs : List UInt8} {last : Bool} {st : List Lv} {at_ : Int} {gs : List Nat} {osl : Value}
theorem zam.ownp (h:zam w0 w F G p a cap bs last st at_ gs osl) {b:Nat} (hb:osl.ownBlock=some b):b≠p:=by
 obtain ⟨cs,hc⟩:=zaz h.own hb;exact za2 hc h.blk (by decide)
theorem zam.ownF (h : zam w0 w F G p a cap bs last st at_ gs osl) {b : Nat} (hb : osl.ownBlock = some b) : ¬ F b := fun hf => by
 obtain ⟨cs,hc⟩:=zaz h.own hb
 obtain ⟨_,_,ds,hd⟩:=h.fb b hf
 exact za2 hc hd (by decide) rfl
theorem zam.Flt (h:zam w0 w F G p a cap bs last st at_ gs osl) {b:Nat} (hb:F b):b<w.heap.size:=by obtain ⟨_,_,cs,hc⟩:=h.fb b hb;exact zag hc
theorem isLV_ne {w:World} {b c:Nat} {x:Array Value} {t:TypeId} {f:Nat×Nat} (h:IsLV w b) (hc:w.heap[c]?=some (.cells x t f)) (h1:t≠168) (h2:t≠48):b≠c:=by
 rcases h with ⟨cs,h⟩|⟨cs,h⟩
 · exact za2 h hc (Ne.symm h1)
 · exact za2 h hc (Ne.symm h2)
theorem zam.push (h:zam w0 w F G p a cap bs last st at_ gs osl) (d:Bool) (hd:st.length<64) (o:Obj) {w2:World} {v':Value}
   (hO:w2.ownsRow w0.heap.size 165 1 v' (st.length+1) (ptrs gs++[.pointer (some ⟨w.heap.size,0,none⟩)]))
   (hg:((w.alloc (.cells #[.bool d,.slice none 0 0] 168)).alloc o).grownBy w2 osl.ownBlock) (hN:zhX ((w.alloc (.cells #[.bool d,.slice none 0 0] 168)).alloc o) osl v') :
   Nxt w0 w F G p a cap bs last ({ dict:=d,l:=[] }::st) at_ F (w2.setCell ⟨p,3,none⟩ v'):=by
 have hs1:((w.alloc (.cells #[.bool d,.slice none 0 0] 168)).alloc o).heap.size=w.heap.size+2:=by rw [zal,zal]
 have hs2:=hg.size
 rw [hs1] at hs2
 have hb1:=zcg w (.cells #[.bool d,.slice none 0 0] 168) o
 have hp:=h.lt
 have hol:∀b,osl.ownBlock=some b→b<w.heap.size:=fun b hb=>(h.own.lt b hb).2
 have hkw:∀b,b<w.heap.size→osl.ownBlock≠some b→w2.heap[b]?=w.heap[b]?:=fun b hb hn=>(hg.block b (by rw [hs1];omega) (fun e=>hn e.symm)).trans (hb1.block b hb)
 have hk3:∀b,b≠p→(w2.setCell ⟨p,3,none⟩ v').heap[b]?=w2.heap[b]?:=fun b hb=>heap_setCell_other _ _ _ _ hb
 have hs3:(w2.setCell ⟨p,3,none⟩ v').heap.size=w2.heap.size:=by simp [World.setCell]
 have hpo:osl.ownBlock≠some p:=fun e=>h.ownp e rfl
 have hgb:w2.heap[w.heap.size]?=some (.cells #[.bool d,.slice none 0 0] 168 (0,0)):=by
   rw [hg.block w.heap.size (by rw [hs1];omega) (fun e=>by have:=hol _ e.symm;omega)]
   exact zak o (zac _ rfl)
 have hp2:w2.heap[p]?=_:=(hkw p hp hpo).trans h.blk
 have hv':∀b,v'.ownBlock=some b→b≠p:=fun b hb=>by obtain ⟨cs,hc⟩:=zaz hO hb;exact za2 hc hp2 (by decide)
 have hFs : zaU F w (w2.setCell ⟨p, 3, none⟩ v') := ⟨by omega, fun b hb hf => by
   rw [hk3 b (h.notF hf),hkw b hb (fun e=>h.ownF e hf)]⟩
 refine ⟨⟨w.heap.size::gs,v',heap_setCell_same w2 p 3 _ _ _ hp2,h.base,h.gp,?_,fun b hb hG=>?_,?_,fun b hb=>?_,fun b hb=>?_,?_,h.row,h.small,by simp;omega⟩,⟨by omega,fun b hb hG=>?_⟩,hFs,fun _ h=>h⟩
 · rw [ptrs_cons];exact zbC hO fun b hb=>hk3 b (hv' b hb)
 · rcases hN b hb with e|e
   · exact h.go b e hG
   · have:=(h.gb b hG).2;rw [hs1] at e;omega
 · refine ⟨w.heap.size, gs, .slice none 0 0, [], rfl, h.bel.size, fun hG => by have := (h.gb _ hG).2; omega, (hk3 _ (by omega)).trans hgb, World.ownsRow_nil _ _ _ _, rfl, fun b hb => (by cases hb), ?_⟩
   refine h.lvs.keep' hFs (fun _ h=>h) (fun b hb hn hl=>?_) (fun b hb=>.inl hb) (fun b hb=>?_)
   · rw [hk3 b (isLV_ne hl h.blk (by decide) (by decide)),hkw b hb (fun e=>by obtain ⟨cs,hc⟩:=zaz h.own e;exact isLV_ne hl hc (by decide) (by decide) rfl)]
   · rcases hb with hb|hb|hb
     · exact .inl hb
     · exact .inr (Nat.le_of_eq hb.symm)
     · cases hb
 · obtain ⟨h1,h2,cs,h3⟩:=h.fb b hb
   exact ⟨h1,h2,cs,by rw [hFs.2 b (h.Flt hb) hb];exact h3⟩
 · have:=h.gb b hb;omega
 · refine h.bel.trans (Below.setCell (w := w2) (a := w) (p := ⟨p, 3, none⟩) ⟨?_, ?_, ?_, ?_, fun b hb => ?_⟩ h.base _)
   · exact hg.os.trans hb1.os
   · exact hg.tape.trans hb1.tape
   · exact hg.output.trans hb1.output
   · have:=h.bel.size;omega
   · exact hkw b (by have:=h.bel.size;omega) (fun e=>by have:=(h.own.lt b e).1;omega)
 · rw [hk3 b (fun e=>h.gp (e▸hG)),hkw b hb (fun e=>h.go b e hG)]
theorem zam.pop {v:Lv} (h:zam w0 w F G p a cap bs last (v::st) at_ gs osl) {ao:Option Addr} {oc:Nat} (ho:osl=.slice ao (st.length+1) oc) :
   ∃F' sl,(∀b,F b→F' b)∧(∃g t cs,gs=g::t∧w.heap[g]?=some (.cells #[.bool v.dict,sl] 168 (0,0))∧w.ownsRow w0.heap.size 48 4 sl v.l.length cs∧IsVs w F' v.l cs∧(∀b,sl.ownBlock=some b→F' b)) ∧
     Nxt w0 w F G p a cap bs last st at_ F' (w.setCell ⟨p,3,none⟩ (.slice ao st.length oc)):=by
 obtain ⟨g,t,sl,cs,h1,h2,h3,h4,h5,h6,h7,h8⟩:=h.lvs
 have hk3:∀b,b≠p→(w.setCell ⟨p,3,none⟩ (.slice ao st.length oc)).heap[b]?=w.heap[b]?:=fun b hb=>heap_setCell_other _ _ _ _ hb
 have hs3:(w.setCell ⟨p,3,none⟩ (.slice ao st.length oc)).heap.size=w.heap.size:=by simp [World.setCell]
 have hsp:∀b,sl.ownBlock=some b→b≠p:=fun b hb=>by obtain ⟨cs,hc⟩:=zaz h5 hb;exact za2 hc h.blk (by decide)
 subst ho h1
 have hFs:zaU F w (w.setCell ⟨p,3,none⟩ (.slice ao st.length oc)):=⟨by omega,fun b hb hf=>hk3 b (h.notF hf)⟩
 refine ⟨fun b => F b ∨ sl.ownBlock = some b, sl, fun b hb => .inl hb, ⟨g, t, cs, rfl, h4, h5, h6.weaken (fun b hb => .inl hb), fun b hb => .inr hb⟩, ⟨t, .slice ao st.length oc, heap_setCell_same w p 3 _ _ _ h.blk, h.base, h.gp, ?_, fun b hb => ?_, ?_, fun b hb => ?_, fun b hb => by rw [hs3]; exact h.gb b hb, h.bel.trans ((Below.refl _ _).setCell h.base _), h.row, h.small, by have := h.deep; simp at this; omega⟩,
   ⟨by omega,fun b hb hG=>hk3 b (fun e=>h.gp (e▸hG))⟩,hFs,fun b hb=>.inl hb⟩
 · have ho:=h.own
   rw [ptrs_cons] at ho
   obtain ⟨hl,ho⟩:=ho
   rcases ho with ⟨hn,-⟩|⟨gg,cc,cur,hv,hb,hh,hc1,hc2,hc3,hc4⟩
   · simp at hn
   · simp only [Value.slice.injEq] at hv
     obtain ⟨rfl,-,rfl⟩:=hv
     have hlp:(ptrs t).length=st.length:=by simpa using hl
     refine ⟨by simpa using hlp,.inr ⟨gg,oc,cur,rfl,hb,?_,by simp at hc1;omega,hc2,hc3,?_⟩⟩
     · rw [hk3 gg (by intro e;subst e;exact h.ownp rfl rfl)];exact hh
     · have:=congrArg (List.take st.length) hc4
       simpa [List.take_take,hlp] using this
 · refine h.go b ?_
   cases ao with
   | none=>cases hb
   | some x=>exact hb
 · refine h8.keep' hFs (fun b hb => .inl hb) (fun b hb hn hl => hk3 b (isLV_ne hl h.blk (by decide) (by decide))) (fun b hb => ?_) (fun b hb => .inl (.inl hb))
   rcases hb with hb|hb
   · exact .inl hb
   · exact .inr (.inl (.inr (.inr hb)))
 · rcases hb with hb|hb
   · obtain ⟨k1,k2,ds,k3⟩:=h.fb b hb
     exact ⟨k1,k2,ds,by rw [hk3 b (h.notF hb)];exact k3⟩
   · obtain ⟨ds,k3⟩:=zaz h5 hb
     exact ⟨(h5.lt b hb).1,(h7 b hb).2,ds,by rw [hk3 b (hsp b hb)];exact k3⟩
theorem zam.lastL {v:Lv} (h:zam w0 w F G p a cap bs last (v::st) at_ gs osl):∃g t sa sc cs,gs=g::t∧v.l.length≤sc∧sc≤maxLen∧w0.heap.size≤g∧¬G g∧w.heap[g]?=some (.cells #[.bool v.dict,.slice sa v.l.length sc] 168 (0,0)) ∧
   w.ownsRow w0.heap.size 48 4 (.slice sa v.l.length sc) v.l.length cs∧IsVs w F v.l cs∧∀b,(Value.slice sa v.l.length sc).ownBlock=some b→¬F b∧¬G b:=by
 obtain ⟨g,t,sl,cs,h1,h2,h3,h4,h5,h6,h7,h8⟩:=h.lvs
 obtain ⟨sa,sc,rfl,h9,h10⟩:=zbK h5
 exact ⟨g,t,sa,sc,cs,h1,h9,h10,h2,h3,h4,h5,h6,h7⟩
theorem zam.put {v:Lv} {g:Nat} {t:List Nat} (h:zam w0 w F G p a cap bs last (v::st) at_ (g::t) osl) {sl:Value} (h4:w.heap[g]?=some (.cells #[.bool v.dict,sl] 168 (0,0))) {cs:List Value}
   (h6:IsVs w F v.l cs) {x:PV} {sx:Value} (hx:IsV w F x sx) {w3:World} {v':Value} (hO:w3.ownsRow w0.heap.size 48 4 v' (v.l.length+1) (cs++pvC x sx)) (hk:Keeps (fun b=>sl.ownBlock=some b) w w3)
   (hN:∀b,v'.ownBlock=some b→sl.ownBlock=some b∨w.heap.size≤b) :
   Nxt w0 w F G p a cap bs last ({ v with l:=v.l++[x] }::st) at_ F (w3.setCell ⟨g,1,none⟩ v'):=by
 obtain ⟨g',t',sl',cs',h1,h2,h3,h4',h5,-,h7,h8⟩:=h.lvs
 simp only [List.cons.injEq] at h1
 obtain ⟨rfl,rfl⟩:=h1
 have hsl:sl'=sl:=by
   rw [h4] at h4'
   simpa using h4'.symm
 subst hsl
 have hgl:=zag h4
 have hsg:∀b,sl'.ownBlock=some b→b≠g:=fun b hb=>by obtain ⟨ds,hc⟩:=zaz h5 hb;exact za2 hc h4 (by decide)
 have hsl:∀b,sl'.ownBlock=some b→b<w.heap.size:=fun b hb=>(h5.lt b hb).2
 have hk4:∀b,b≠g→(w3.setCell ⟨g,1,none⟩ v').heap[b]?=w3.heap[b]?:=fun b hb=>heap_setCell_other _ _ _ _ hb
 have hs4:(w3.setCell ⟨g,1,none⟩ v').heap.size=w3.heap.size:=by simp [World.setCell]
 have hsz:=hk.size
 have hg3:w3.heap[g]?=some (.cells #[.bool v.dict,sl'] 168 (0,0)):=hk.obj h4 (fun e=>hsg g e rfl)
 have hvg:∀b,v'.ownBlock=some b→b≠g:=fun b hb=>by obtain ⟨ds,hc⟩:=zaz hO hb;exact za2 hc hg3 (by decide)
 have hpg:p≠g:=za2 h.blk h4 (by decide)
 have hps:sl'.ownBlock≠some p:=fun e=>by obtain ⟨ds,hc⟩:=zaz h5 e;exact za2 hc h.blk (by decide) rfl
 have hFg:∀b,F b→b≠g:=fun b hb=>by obtain ⟨_,_,ds,hc⟩:=h.fb b hb;exact za2 hc h4 (by decide)
 have hFs:zaU F w (w3.setCell ⟨g,1,none⟩ v'):=⟨by omega,fun b hb hf=>by rw [hk4 b (hFg b hf),hk.block b hb (fun e=>(h7 b e).1 hf)]⟩
 have hob : ∀ b, osl.ownBlock = some b → b ≠ g ∧ sl'.ownBlock ≠ some b ∧ b < w.heap.size := fun b hb => by
   obtain ⟨ds,hc⟩:=zaz h.own hb
   exact ⟨za2 hc h4 (by decide),fun e=>by obtain ⟨es,hd⟩:=zaz h5 e;exact za2 hc hd (by decide) rfl,(h.own.lt b hb).2⟩
 refine ⟨⟨g::t,osl,by rw [hk4 p hpg,hk.block p h.lt hps];exact h.blk,h.base,h.gp,zbC h.own fun b hb=>?_,h.go,?_,fun b hb=>?_,fun b hb=>by have:=h.gb b hb;omega,?_,h.row,h.small,h.deep⟩,⟨by omega,fun b hb hG=>?_⟩,hFs,fun _ h=>h⟩
 · rw [hk4 b (hob b hb).1,hk.block b (hob b hb).2.2 (hob b hb).2.1]
 · refine ⟨g, t, v', cs ++ pvC x sx, rfl, h2, h3, heap_setCell_same w3 g 1 _ _ _ hg3, ?_, ?_, fun b hb => ?_, ?_⟩
   · show World.ownsRow _ _ _ _ _ (v.l++[x]).length _
     rw [List.length_append]
     exact zbC hO fun b hb=>hk4 b (hvg b hb)
   · exact (IsVs.keep hFs (fun _ h=>h) _ h6).snoc (IsV.keep hFs (fun _ h=>h) _ hx)
   · rcases hN b hb with e|e
     · exact h7 b e
     · exact ⟨fun hf=>by have:=h.Flt hf;omega,fun hG=>by have:=(h.gb b hG).2;omega⟩
   · refine h8.keep' hFs (fun _ h => h) (fun b hb hn hl => ?_) (fun b hb => .inl hb) (fun b hb => ?_)
     · rw [hk4 b (fun e=>hn (.inr (.inl e))),hk.block b hb (fun e=>hn (.inr (.inr e)))]
     · rcases hb with hb|hb|hb
       · exact .inl (.inl hb)
       · exact .inl (.inr (.inl hb))
       · rcases hN b hb with e|e
         · exact .inl (.inr (.inr e))
         · exact .inr e
 · obtain ⟨k1,k2,ds,k3⟩:=h.fb b hb
   exact ⟨k1,k2,ds,by rw [hFs.2 b (h.Flt hb) hb];exact k3⟩
 · have h9:=h.bel.size
   refine h.bel.trans (Below.setCell (w:=w3) (a:=w) (p:=⟨g,1,none⟩) ⟨hk.os,hk.tape,hk.output,hsz,fun b hb=>hk.block b (by omega) (fun e=>by have:=(h5.lt b e).1;omega)⟩ h2 _)
 · rw [hk4 b (fun e=>h3 (e▸hG)),hk.block b hb (fun e=>(h7 b e).2 hG)]
end
end Go.Proofs.YtkhcjoomijkfbaaGreatDoor
namespace Go.Proofs.YtkhcjoomijkfbaaGreatDoor
open Go.RowKit
theorem ELvp:zfp Tryz.prog 159 165 (.pointer none) 1 8:=⟨Tryz.underlying159,by kernel_rfl,rfl,by omega⟩
section
variable {w0 w w' : World} {F F' G : Nat → Prop} {p : Nat} {a : Option Addr} {cap : Nat} {bs : List UInt8} {last : Bool} {st : List Lv} {at_ : Int} {gs : List Nat} {osl : Value}
theorem Nxt.refl (h:zam w0 w F G p a cap bs last st at_ gs osl) (hb:Below w.heap.size w w'):Nxt w0 w F G p a cap bs last st at_ F w' :=
 ⟨⟨_,_,h.mono hb⟩,zaU.of_below hb,zaU.of_below hb,fun _ h=>h⟩
theorem row_newP (w:World) (x:Value) (e:TypeId) {b:Nat} (h:b=w.heap.size):Row (w.alloc (.cells #[x] e)) 1 (some ⟨b,0,none⟩) 1 1 [x]:=by subst h;exact zc2 w x e
theorem owns_some {w:World} {base e sz:Nat} {v:Value} {n:Nat} {xs:List Value} (h:w.ownsRow base e sz v (n+1) xs) (_:0<sz):∃g cap,v=.slice (some ⟨g,0,none⟩) (n+1) cap:=by
 rcases h.2 with ⟨-,h0⟩|⟨g,cap,cur,rfl,-⟩
 · cases h0
 · exact ⟨g,cap,rfl⟩
theorem zam.keepP (h:zam w0 w F G p a cap bs last st at_ gs osl) {W1 w2:World} (hb:Below w.heap.size w W1) (hg:W1.grownBy w2 osl.ownBlock) :
   w2.heap[p]?=some (.cells #[.slice a bs.length cap,.int .i64 at_,.bool last,osl] 161 (0,0)) :=
 (hg.block p (Nat.lt_of_lt_of_le h.lt hb.size) (fun e=>h.ownp e.symm rfl)).trans (zab hb h.blk)
theorem begin_any (h:zam w0 w F G p a cap bs last st at_ gs osl) (d:Bool):Calls Tryz.prog 131 #[.pointer (some ⟨p,0,none⟩),.bool d] w fun e w' =>
   e=.returned (.int .i64 (zch st d).2)∧Nxt w0 w F G p a cap bs last (zch st d).1 at_ F w':=by
 obtain ⟨R,hR⟩:∃R,R=zch st d:=⟨_,rfl⟩
 rw [←hR]
 unfold zch at hR
 have HR:=Lib.hid hR
 have HTOP:=Lib.hid (zhY h)
 have HTP:=Lib.hid (fun q=>(h.drewN q).top)
 have HS:=Lib.hid h
 have hdp:=h.deep
 clear h hR
 go_enter Tryz.func131,Tryz.ntmps131
 go_wp2_with fail
 refine HTOP.out.mono ?_
 rintro e w1 ⟨rfl,q,rfl⟩
 have HS1:=Lib.hid (HS.out.drewN q)
 go_upto_region 2 with fail
 go_cut [13] from 6 (fun v13 wx=>v13=.bool (topW st)∧w.drewN q=wx)
 case first =>
   rcases HTP.out q with ⟨rfl,rfl⟩|⟨v,st',g,t',sa,sc,rfl,rfl,h1,h2,h3⟩
   · unfold topP
     go_wp2
     go_meet
     exact ⟨rfl,rfl⟩
   · have HWT := Lib.hid (zge h3 (by omega))
     have HTW:=Lib.hid (show topW (v::st')=(v.dict&&v.l.length % 2==0) from rfl)
     unfold topP
     generalize (v.dict&&v.l.length % 2==0)=tw at *
     clear h1 h2 h3
     go_wp2_with (go_at_call 162;refine HWT.out.mono ?_;rintro e w' ⟨rfl,rfl⟩)
     go_meet
     exact ⟨by rw [HTW.out],rfl⟩
 case rest =>
   obtain ⟨rfl,rfl⟩:=hcut
   obtain ⟨tw,htw⟩:∃tw,tw=topW st:=⟨_,rfl⟩
   rw [←htw]
   have HTW:=Lib.hid htw
   clear htw
   cases tw with
   | true =>
     have hr2:=HR.out
     rw [if_pos HTW.out.symm] at hr2
     have HR2:=Lib.hid hr2
     clear hr2 HR
     go_wp2
     go_ret
     rw [HR2.out]
     exact ⟨rfl,Nxt.refl HS.out (zad (Below.refl _ _) q)⟩
   | false =>
     have hr2:=HR.out
     rw [if_neg (by rw [←HTW.out];decide)] at hr2
     have HRX:=Lib.hid hr2
     obtain ⟨ao,oc,rfl,hro1,hro2⟩:=zbK HS1.out.own
     obtain ⟨⟨c0,c1,c2,c3⟩,f0,f1,f2,f3⟩:=HS1.out.cells
     clear hr2 HR
     by_cases h64:64≤st.length
     · have hd:decide (64≤st.length)=true:=decide_eq_true h64
       have hd2:decide ((64:Int)≤(st.length:Int))=true:=decide_eq_true (by omega)
       have hr2:=HRX.out
       rw [if_pos h64] at hr2
       have HR2:=Lib.hid hr2
       clear hr2 h64
       go_wp2
       go_ret
       rw [HR2.out]
       exact ⟨rfl,Nxt.refl HS.out (zad (Below.refl _ _) q)⟩
     · have hd:decide (64≤st.length)=false:=decide_eq_false h64
       have hd2:decide ((64:Int)≤(st.length:Int))=false:=decide_eq_false (by omega)
       have hr2:=HRX.out
       rw [if_neg h64] at hr2
       have HR2:=Lib.hid hr2
       have hsl:st.length<64:=by omega
       clear hr2 h64
       go_wp2_with (at_builtin;refine zef ELvp rfl _ _ rfl w0.heap.size _ st.length (ptrs gs) rfl (zay HS1.out.own (zcg _ _ _)) _ 1 1 [.pointer (some ⟨w.heap.size,0,none⟩)] rfl (row_newP _ _ _ (by rw [zal];rfl)) (zeS rfl) (by unfold maxLen;omega) (by omega) (by rw [zal,zal];have:=HS1.out.bel.size;omega) ?_;intro v2 w2 hO hg hN;obtain ⟨g2,oc2,rfl⟩:=owns_some hO (by omega);obtain ⟨⟨k0,k1,k2,k3⟩,l0,l1,l2,l3⟩:=zaf (HS1.out.keepP (zcg _ _ _) hg))
       go_ret
       rw [HR2.out]
       have hN:=HS1.out.push d hsl _ hO hg hN
       exact ⟨rfl,hN.stk,hN.sg,hN.sf,hN.ff⟩
end
end Go.Proofs.YtkhcjoomijkfbaaGreatDoor
namespace Go.Proofs.YtkhcjoomijkfbaaGreatDoor
open Go.RowKit
def cmpS (a b:List UInt8):Int:=if sLt a b=true then -1 else if sLt b a=true then 1 else 0
theorem isNaNS_any (a : ByteArray) (w : World) : Calls Tryz.prog 223 #[.string a] w fun e w' => e = .returned (.bool false) ∧ w = w' := by
 go_enter Tryz.func223,Tryz.ntmps223
 go_wp2
 go_ret
 exact ⟨zbH (by simp),rfl⟩
theorem cmpS_any (a b : List UInt8) (w : World) : Calls Tryz.prog 198 #[.string (mkB a), .string (mkB b)] w fun e w' => e = .returned (.int .i64 (cmpS a b)) ∧ w = w' := by
 have hl:Op.bytesLess (mkB a).toList (mkB b).toList=sLt a b:=by rw [zbB,zbB,zhf]
 have hg : ¬ sLt a b = true → (Op.bytesLess (mkB a).toList (mkB b).toList || (mkB a).toList == (mkB b).toList) = !sLt b a := fun h => by
   rw [zbB,zbB,zhf]
   have h':sLt a b=false:=by simpa using h
   rw [h',Bool.false_or]
   by_cases e:a=b
   · subst e;simp [sLt_ir]
   · rw [zdj a b h' e];simp [e]
 have HN:=Lib.hid (fun (a:ByteArray) (w:World)=>isNaNS_any a w)
 unfold cmpS
 by_cases h1:sLt a b=true
 · rw [if_pos h1]
   rw [h1] at hl
   clear hg h1
   generalize mkB a=x at *
   generalize mkB b=y at *
   go_enter Tryz.func198,Tryz.ntmps198
   go_wp2_with (go_at_call 223;refine (HN.out _ _).mono ?_;rintro e w' ⟨rfl,rfl⟩)
   go_ret
   exact ⟨rfl,rfl⟩
 · rw [if_neg h1]
   have hg:=hg h1
   rw [show sLt a b=false by simpa using h1] at hl
   by_cases h2:sLt b a=true
   · rw [if_pos h2]
     rw [h2,hl,Bool.false_or] at hg
     clear h1 h2
     generalize mkB a=x at *
     generalize mkB b=y at *
     simp only [Bool.not_true] at hg
     go_enter Tryz.func198,Tryz.ntmps198
     go_wp2_with (go_at_call 223;refine (HN.out _ _).mono ?_;rintro e w' ⟨rfl,rfl⟩)
     go_ret
     exact ⟨rfl,rfl⟩
   · rw [if_neg h2]
     rw [show sLt b a=false by simpa using h2,hl,Bool.false_or] at hg
     clear h1 h2
     generalize mkB a=x at *
     generalize mkB b=y at *
     simp only [Bool.not_false] at hg
     go_enter Tryz.func198,Tryz.ntmps198
     go_wp2_with (go_at_call 223;refine (HN.out _ _).mono ?_;rintro e w' ⟨rfl,rfl⟩)
     go_ret
     exact ⟨rfl,rfl⟩
theorem cmpPair_any {w:World} {b o1 o2 n1 n2 c1 c2:Nat} {x y:List UInt8} (h1:w.cell? ⟨b,o1+2,none⟩=some (.string (mkB x))) (h2:w.cell? ⟨b,o2+2,none⟩=some (.string (mkB y))) (g1:0<n1) (g2:0<n2) :
   Calls Tryz.prog 197 #[.slice (some ⟨b,o1,none⟩) n1 c1,.slice (some ⟨b,o2,none⟩) n2 c2] w fun e w'=>e=.returned (.int .i64 (cmpS x y))∧∃q,w'=w.drewN q:=by
 have HC:=Lib.hid (fun W=>cmpS_any x y W)
 generalize cmpS x y=c at *
 generalize mkB x=x' at *
 generalize mkB y=y' at *
 have i1:(0:Int)<(n1:Int):=by omega
 have i2:(0:Int)<(n2:Int):=by omega
 go_enter Tryz.func197,Tryz.ntmps197
 go_wp2
 go_quiet ((go_at_call 198;exact Calls.quiet_of ((HC.out _).mono fun _ _ h=>⟨h.1,0,h.2.symm⟩)))
 go_wp2
 go_ret
 exact ⟨rfl,_,rfl⟩
end Go.Proofs.YtkhcjoomijkfbaaGreatDoor
namespace Go.Proofs.YtkhcjoomijkfbaaGreatDoor
open Go.RowKit Go.Sort
structure SB {α:Type} (enc:α→Value) (w0:World) (g:Nat) (t:TypeId) (rest:List Value) (d:Array α) (w:World):Prop where
 grown:w0.grownBy w (some g)
 blk:w.heap[g]?=some (.cells (d.toList.map enc++rest).toArray t (0,0))
section
variable {α : Type} {enc : α → Value} {w0 w : World} {g : Nat} {t : TypeId} {rest : List Value} {d : Array α}
theorem SB.cell [Inhabited α] (h:SB enc w0 g t rest d w) (i:Nat) (hi:i<d.size):w.cell? ⟨g,i,none⟩=some (enc d[i]!):=by
 rw [cell_of_row w g i _ t (0,0) h.blk]
 simp [List.getElem?_append,hi]
theorem SB.free (h:SB enc w0 g t rest d w) (i:Nat):w.frozen? ⟨g,i,none⟩=false:=frozen_of_row w g i _ t h.blk
theorem SB.drewN (h:SB enc w0 g t rest d w) (n:Nat):SB enc w0 g t rest d (w.drewN n):=⟨⟨h.grown.os,h.grown.tape,h.grown.output,h.grown.size,h.grown.block⟩,h.blk⟩
theorem zbG {w0 w:World} {g i:Nat} (h:w0.grownBy w (some g)) (v:Value):w0.grownBy (w.setCell ⟨g,i,none⟩ v) (some g) :=
 ⟨h.os,h.tape,h.output,by simp [World.setCell];exact h.size,fun k hk hne=>by rw [heap_setCell_other w ⟨g,i,none⟩ k v (fun e=>hne (by simp [e]))];exact h.block k hk hne⟩
theorem zey {a b c:World} {row:Option Nat} (h:a.grownBy b row) (k:b.grownBy c row):a.grownBy c row :=
 ⟨k.os.trans h.os,k.tape.trans h.tape,k.output.trans h.output,Nat.le_trans h.size k.size,fun i hi hne=>(k.block i (Nat.lt_of_lt_of_le hi h.size) hne).trans (h.block i hi hne)⟩
theorem zfo (w:World) (row:Option Nat):w.grownBy w row:=⟨rfl,rfl,rfl,Nat.le_refl _,fun _ _ _=>rfl⟩
theorem zb1 {w0 w:World} {row:Option Nat} (h:w0.grownBy w row) (n:Nat):w0.grownBy (w.drewN n) row:=⟨h.os,h.tape,h.output,h.size,h.block⟩
theorem SB.set (h:SB enc w0 g t rest d w) (i:Nat) (hi:i<d.size) (x:α):SB enc w0 g t rest (d.setIfInBounds i x) (w.setCell ⟨g,i,none⟩ (enc x)):=by
 refine ⟨zbG h.grown _,?_⟩
 rw [heap_setCell_same w g i _ t _ h.blk,List.setIfInBounds_toArray,List.set_append]
 simp [hi,List.map_set]
theorem SB.swp [Inhabited α] (h:SB enc w0 g t rest d w) (i j:Nat) (hi:i<d.size) (hj:j<d.size) (q:Nat) :
   SB enc w0 g t rest (swp d i j) (((w.drewN q).setCell ⟨g,i,none⟩ (enc d[j]!)).setCell ⟨g,j,none⟩ (enc d[i]!)) :=
 ((h.drewN q).set i hi _).set j (by simpa using hj) _
theorem SB.row (h:SB enc w0 g t rest d w) {cap:Nat} (h1:d.size≤cap) (h2:cap≤maxLen):Row w 1 (some ⟨g,0,none⟩) d.size cap (d.toList.map enc):=by
 refine ⟨by simp,h1,h2,fun e=>(by cases e),fun _=>⟨g,0,rfl,(Array.getElem?_eq_some_iff.1 h.blk).1,fun j u hj=>?_⟩⟩
 rw [Nat.zero_add,cell_of_row w g j _ t (0,0) h.blk]
 have hjl:=(List.getElem?_eq_some_iff.1 hj).1
 rw [List.getElem?_toArray,List.getElem?_append_left hjl];exact hj
theorem SB.start {cs:Array Value} {n:Nat} (hb:w.heap[g]?=some (.cells cs t (0,0))) (hx:cs.toList.take n=d.toList.map enc):SB enc w g t (cs.toList.drop n) d w :=
 ⟨⟨rfl,rfl,rfl,Nat.le_refl _,fun _ _ _=>rfl⟩,by rw [←hx,List.take_append_drop];exact hb⟩
end
structure CmpQ {α:Type} (P:Program) (f:FuncId) (cb:Array Value) (enc:α→Value) (cf:α→α→Int) (D:α→Prop) (w0:World) (g:Nat):Prop where
 enters:∀args w,(callFunc f args).run P w=.ok (.enter f args) w
 calls:∀W,w0.grownBy W (some g)→∀x y,D x→D y→Calls P f (#[enc x,enc y]++cb) W fun e w'=>e=.returned (.int .i64 (cf x y))∧∃q,w'=W.drewN q
def ltOf {α:Type} (cf:α→α→Int) (x y:α):Bool:=decide (cf x y<0)
section
variable {α : Type} [Inhabited α] (lt : α → α → Bool)
theorem inner_go (a j:Nat) (d:Array α) (hj:a<j) (hl:lt d[j]! d[j-1]! = true):insInner lt a j d=insInner lt a (j-1) (swp d j (j-1)):=by
 rcases j with _|k
 · omega
 · have h1 : (decide (k + 1 > a) && lt d[k + 1]! d[k]!) = true := by simp only [Nat.add_sub_cancel] at hl; simp [hl, hj]
   rw [insInner,if_pos h1];rfl
theorem zdt (a j:Nat) (d:Array α) (h:j≤a∨lt d[j]! d[j-1]! = false):insInner lt a j d=d:=by
 rcases j with _|k
 · rfl
 · rw [insInner,if_neg]
   simp only [Nat.add_sub_cancel] at h
   rcases h with h|h
   · simp;omega
   · simp [h]
theorem zdB (a b i:Nat) (d:Array α) (h:i<b):insOuter lt a b i d=insOuter lt a b (i+1) (insInner lt a i d):=by rw [insOuter,if_pos h]
theorem zb7 (a b i:Nat) (d:Array α) (h:¬i<b):insOuter lt a b i d=d:=by rw [insOuter,if_neg h]
end
end Go.Proofs.YtkhcjoomijkfbaaGreatDoor
namespace Go.Proofs.YtkhcjoomijkfbaaGreatDoor
open Go.RowKit Go.Shelf
attribute [local go_sem] Oper.semAt_some
def zcn (b off:Nat) (k:Nat):Value:=.slice (some ⟨b,off+2 * k * 4,none⟩) 2 2
theorem staysK_t {S:Nat→Prop} {A B C:World} (h:zaU S A B) (k:zaU S B C):zaU S A C:=h.trans k
theorem staysK_b {S:Nat→Prop} {w:World} (hS:∀b,S b→b<w.heap.size) (W:World) (l:Nat) (o o':Obj) (hl:w.heap.size≤l) (_:W.heap[l]?=some o) (_:o.isCells=false) (_:o.isWalk=false):zaU S W (W.putObj l o') :=
 ⟨by simp,fun b _ hb=>World.putObj_heap_other (fun e=>by have:=hS b hb;omega)⟩
theorem chunk_in (_:Fence.wide.fn 195) (n:Nat) (a:Option Addr) (len cap:Nat) (w:World) :
   CallsIn Fence.wide n Tryz.prog 195 #[.slice a len cap, .int .i64 2] w fun e w' => e = .returned (.func (.func 221) #[] #[.pointer (some ⟨w.heap.size, 0, none⟩), .pointer (some ⟨w.heap.size + 1, 0, none⟩)]) ∧
     w'=(w.alloc (.cells #[.slice a len cap] 46)).alloc (.cells #[.int .i64 2] 3):=by
 refine callsIn_wide.2 ?_
 go_enter Tryz.func195,Tryz.ntmps195
 go_wp2
 go_ret
 exact ⟨rfl,rfl⟩
set_option maxRecDepth 100000 in
theorem chunk1_in (n:Nat) (hro:Fence.wide.round=none) (hn:1≤n) (l Bs Bn b off m cap:Nat) (hcap:2 * m≤cap) (hcm:cap≤maxLen) (J Jx:List Nat→World→Prop) (hJd:∀s W q,J s W→J s (W.drewN q))
   (hY:∀pre x W,J pre W→pre.length<m→YieldAt Fence.wide (n-1) Tryz.prog l #[zcn b off x] W fun e W' =>
     (e=.returned (.bool true)∧J (pre++[x]) W'∧zaU (fun c=>c=Bs∨c=Bn) W W')∨(e=.returned (.bool false)∧Jx (pre++[x]) W'))
   (W:World) (hBs:W.cell? ⟨Bs,0,none⟩=some (.slice (some ⟨b,off,none⟩) (2 * m) cap)) (hBn:W.cell? ⟨Bn,0,none⟩=some (.int .i64 2)) (h0:J [] W) :
   CallsIn Fence.wide n Tryz.prog 221 #[.func (.yield l) #[] #[], .pointer (some ⟨Bs, 0, none⟩), .pointer (some ⟨Bn, 0, none⟩)] W fun e W' => (∃ v, e = .returned v) ∧
     ((∃ys,ys=List.range m∧J ys W')∨(∃pre,(∃k,k≤m∧pre=List.range k)∧Jx pre W')):=by
 unfold maxLen at hcm
 refine callsIn_of_wp Tryz.func221 rfl trivial ?_ hro
 simp only [Tryz.ntmps221,List.size_toArray,List.length_cons,List.length_nil,Nat.reduceAdd,Nat.reduceSub,Array.replicate_succ,Array.replicate_zero,List.push_toArray,List.append_toArray,List.nil_append,List.cons_append]
 gi_wp2
 gi_loopw [4] (fun i wr => ∃ k : Nat, k ≤ m ∧ i = .int .i64 (2 * (k : Int)) ∧ J (List.range k) wr ∧ zaU (fun c => c = Bs ∨ c = Bn) W wr)
   (fun i _=>2 * m-(intOf i).toNat)
 case atStart=>exact ⟨0,Nat.zero_le _,rfl,h0,zaU.refl _ _⟩
 case round =>
   obtain ⟨k,hk,rfl,hJs,hnx⟩:=hrel
   have e1:wr.cell? ⟨Bs,0,none⟩=some (.slice (some ⟨b,off,none⟩) (2 * m) cap):=(World.cell?_of_block (hnx.2 Bs (World.block_lt_of_cell? W _ hBs) (.inl rfl))).trans hBs
   have e2:wr.cell? ⟨Bn,0,none⟩=some (.int .i64 2):=(World.cell?_of_block (hnx.2 Bn (World.block_lt_of_cell? W _ hBn) (.inr rfl))).trans hBn
   by_cases hlt:k<m
   · have d1 : decide (2 * (k : Int) < ((2 * m : Nat) : Int)) = true := decide_eq_true (by omega)
     have HJ:=Lib.hid hJs
     have HY:=Lib.hid hY
     have HJD:=Lib.hid hJd
     clear hJs hY hJd
     gi_wp2
     refine wpIn_wide.2 ?_
     have i1:(0:Int)≤2 * (k:Int):=by omega
     have i2:(2 * (k:Int)).toNat=2 * k:=by omega
     have i3:(2 * (k:Int))≤(cap:Int):=by omega
     have i4:2 * k≤2 * m:=by omega
     go_quiet (fail)
     obtain ⟨fn,tmps,assign,body,hy,hR⟩:=HY.out _ k (wr.drewN nq) (HJD.out _ _ nq HJ.out) (by simpa using hlt)
     unfold zcn at hy
     have i5:2 * (k:Int)+2≤(cap:Int):=by omega
     have i6:(2 * (k:Int)+2).toNat=2 * k+2:=by omega
     have i7:(0:Int)≤2 * (k:Int)+2:=by omega
     have i8:2 * (k:Int)≤2 * (k:Int)+2:=by omega
     gi_wp2
     refine hR.mono ?_
     rintro e W3 (⟨rfl,hJ3,hk3⟩|⟨rfl,hJx3⟩)
     · have g1:W3.cell? ⟨Bs,0,none⟩=some (.slice (some ⟨b,off,none⟩) (2 * m) cap):=(World.cell?_of_block (hk3.2 Bs (World.block_lt_of_cell? (wr.drewN nq) _ e1) (.inl rfl))).trans e1
       have g2:W3.cell? ⟨Bn,0,none⟩=some (.int .i64 2):=(World.cell?_of_block (hk3.2 Bn (World.block_lt_of_cell? (wr.drewN nq) _ e2) (.inr rfl))).trans e2
       have HJ3:=Lib.hid hJ3
       have HK3:=Lib.hid (hnx.trans (show zaU (fun c=>c=Bs∨c=Bn) wr W3 from hk3))
       clear hJ3 hk3
       gi_wp2
       go_roundw
       case rel=>exact ⟨k+1,by omega,by congr 1,by rw [List.range_succ];exact HJ3.out,HK3.out⟩
       case measure=>simp [intOf];omega
     · gi_wp2
       refine bodyPost_ret (results_none rfl _ _ _) rfl ?_
       exact ⟨⟨_,rfl⟩,.inr ⟨_,⟨k+1,by omega,by rw [List.range_succ]⟩,hJx3⟩⟩
   · obtain rfl : k = m := by omega
     have d1:decide (2 * (k:Int)<((2 * k:Nat):Int))=false:=decide_eq_false (by omega)
     gi_wp2
     go_end0
     exact ⟨⟨_,rfl⟩,.inl ⟨_,rfl,hJs⟩⟩
theorem chunk0_in (n:Nat) (hro:Fence.wide.round=none) (l Bs Bn:Nat) (a:Option Addr) (cap:Nat) (J:List Nat→World→Prop) (W:World) (hBs:W.cell? ⟨Bs,0,none⟩=some (.slice a 0 cap)) (h0:J [] W) :
   CallsIn Fence.wide n Tryz.prog 221 #[.func (.yield l) #[] #[],.pointer (some ⟨Bs,0,none⟩),.pointer (some ⟨Bn,0,none⟩)] W fun e W'=>(∃v,e=.returned v)∧J [] W':=by
 refine callsIn_of_wp Tryz.func221 rfl trivial ?_ hro
 simp only [Tryz.ntmps221,List.size_toArray,List.length_cons,List.length_nil,Nat.reduceAdd,Nat.reduceSub,Array.replicate_succ,Array.replicate_zero,List.push_toArray,List.append_toArray,List.nil_append,List.cons_append]
 gi_wp2
 gi_loopw [4] (fun i wr=>i=.int .i64 0∧wr.cell? ⟨Bs,0,none⟩=some (.slice a 0 cap)∧J [] wr) (fun _ _=>0)
 case atStart=>exact ⟨rfl,hBs,h0⟩
 case round =>
   obtain ⟨rfl,hb,hJs⟩:=hrel
   gi_wp2
   go_end0
   exact ⟨⟨_,rfl⟩,hJs⟩
theorem chunk_stops (n:Nat) (hro:Fence.wide.round=none) (hn:1≤n) (Bs Bn b off m cap:Nat) (a:Option Addr) (ha:0<m→a=some ⟨b,off,none⟩) (hcap:2 * m≤cap) (hcm:cap≤maxLen) (w:World) (hBs:Bs<w.heap.size) (hBn:Bn<w.heap.size)
   (h1:w.cell? ⟨Bs,0,none⟩=some (.slice a (2 * m) cap)) (h2:w.cell? ⟨Bn,0,none⟩=some (.int .i64 2)) :
   SeqStopsK Fence.wide n Tryz.prog 221 #[.pointer (some ⟨Bs,0,none⟩),.pointer (some ⟨Bn,0,none⟩)] (fun x:Nat=>#[zcn b off x]) (zaU (fun c=>c=Bs∨c=Bn)) (fun ys=>ys=List.range m) (fun pre=>∃k,k≤m∧pre=List.range k) m w:=by
 intro l J Jx W hW hJ _ hY h0
 have e1:=(hW.cell (p:=⟨Bs,0,none⟩) hBs).trans h1
 have e2:=(hW.cell (p:=⟨Bn,0,none⟩) hBn).trans h2
 rcases Nat.eq_zero_or_pos m with rfl|hm
 · exact (chunk0_in n hro l Bs Bn a cap J W e1 h0).mono fun e W' ⟨he,hj⟩=>⟨he,.inl ⟨_,rfl,hj⟩⟩
 · rw [ha hm] at e1
   exact chunk1_in n hro hn l Bs Bn b off m cap hcap hcm J Jx (fun s W1 q hs=>hJ s W1 (W1.drewN q) none hs (zb1 (zfo W1 none) q) (fun r e=>by cases e)) hY W e1 e2 h0
end Go.Proofs.YtkhcjoomijkfbaaGreatDoor
namespace Go.Proofs.YtkhcjoomijkfbaaGreatDoor
open Go.Sort
def ltI (p:List (PV×PV)) (i j:Nat):Bool:=sLt p[i]!.1.s p[j]!.1.s||(p[i]!.1.s==p[j]!.1.s&&decide (i<j))
def insI (p:List (PV×PV)) (k:Nat):List Nat→List Nat
 | []=>[k]
 | j::l=>if sLt p[j]!.1.s p[k]!.1.s then j::insI p k l else k::j::l
def zh7 (p:List (PV×PV)):List Nat→List Nat
 | []=>[]
 | k::l=>insI p k (zh7 p l)
theorem sLt_nt {a b c:List UInt8} (h1:sLt a b=false) (h2:sLt b c=false):sLt a c=false:=by
 cases h:sLt a c with
 | false=>rfl
 | true =>
   by_cases hab:a=b
   · subst hab;rw [h] at h2;cases h2
   · have:=sLt_tr b a c (zdj a b h1 hab) h
     rw [this] at h2;cases h2
theorem zh1 (p:List (PV×PV)):SWO (ltI p) where
 irrefl x:=by simp [ltI,sLt_ir]
 trans x y z h1 h2:=by
   unfold ltI at *
   simp only [Bool.or_eq_true,Bool.and_eq_true,beq_iff_eq,decide_eq_true_eq] at *
   generalize p[x]!.1.s=a at *
   generalize p[y]!.1.s=b at *
   generalize p[z]!.1.s=c at *
   rcases h1 with h1|⟨h1,h3⟩
   · rcases h2 with h2|⟨h2,h4⟩
     · exact .inl (sLt_tr _ _ _ h1 h2)
     · subst h2;exact .inl h1
   · subst h1
     rcases h2 with h2|⟨h2,h4⟩
     · exact .inl h2
     · exact .inr ⟨h2,by omega⟩
 ntrans x y z h1 h2:=by
   unfold ltI at *
   simp only [Bool.or_eq_false_iff,Bool.and_eq_false_iff,beq_eq_false_iff_ne,decide_eq_false_iff_not] at *
   generalize p[x]!.1.s=a at *
   generalize p[y]!.1.s=b at *
   generalize p[z]!.1.s=c at *
   refine ⟨sLt_nt h1.1 h2.1,?_⟩
   by_cases hac:a=c
   · subst hac
     right
     by_cases hab:a=b
     · subst hab
       have h3:=h1.2.resolve_left (fun h=>h rfl)
       have h4:=h2.2.resolve_left (fun h=>h rfl)
       omega
     · exact absurd (zdj a b h1.1 hab) (by rw [h2.1];simp)
   · exact .inl hac
theorem ltI_anti (p:List (PV×PV)) (x y:Nat) (h1:ltI p x y=false) (h2:ltI p y x=false):x=y:=by
 unfold ltI at *
 simp only [Bool.or_eq_false_iff,Bool.and_eq_false_iff,beq_eq_false_iff_ne,decide_eq_false_iff_not] at *
 generalize p[x]!.1.s=a at *
 generalize p[y]!.1.s=b at *
 by_cases hab:a=b
 · subst hab
   have h3:=h1.2.resolve_left (fun h=>h rfl)
   have h4:=h2.2.resolve_left (fun h=>h rfl)
   omega
 · exact absurd (zdj a b h1.1 hab) (by rw [h2.1];simp)
theorem zgn (p:List (PV×PV)) (k:Nat):∀l,(insI p k l).Perm (k::l)
 | []=>List.Perm.refl _
 | j :: l => by
   unfold insI
   split
   · exact ((zgn p k l).cons j).trans (List.Perm.swap k j l)
   · exact List.Perm.refl _
theorem zeO (p:List (PV×PV)):∀l,(zh7 p l).Perm l
 | []=>List.Perm.refl _
 | k::l=>(zgn p k (zh7 p l)).trans ((zeO p l).cons k)
theorem zfX (p : List (PV × PV)) (k : Nat) : ∀ l : List Nat, (∀ j ∈ l, k < j) → l.Pairwise (fun a b => ltI p b a = false) → (insI p k l).Pairwise (fun a b => ltI p b a = false)
 | [],_,_=>by simp [insI]
 | j :: l, hk, h => by
   have hs:=zh1 p
   rw [List.pairwise_cons] at h
   unfold insI
   split
   · rename_i hj
     rw [List.pairwise_cons]
     refine ⟨fun x hx=>?_,zfX p k l (fun x hx=>hk x (List.mem_cons_of_mem _ hx)) h.2⟩
     rcases List.mem_cons.1 ((zgn p k l).mem_iff.1 hx) with rfl|hx
     · unfold ltI
       simp only [Bool.or_eq_false_iff,Bool.and_eq_false_iff,beq_eq_false_iff_ne]
       refine ⟨sLt_as _ _ hj,.inl fun e=>?_⟩
       rw [e,sLt_ir] at hj;cases hj
     · exact h.1 x hx
   · rename_i hj
     have hkj:ltI p j k=false:=by
       unfold ltI
       simp only [Bool.or_eq_false_iff,Bool.and_eq_false_iff,decide_eq_false_iff_not]
       have:=hk j List.mem_cons_self
       exact ⟨by simpa using hj,.inr (by omega)⟩
     rw [List.pairwise_cons,List.pairwise_cons]
     refine ⟨fun x hx=>?_,h⟩
     rcases List.mem_cons.1 hx with rfl|hx
     · exact hkj
     · exact hs.ntrans x j k (h.1 x hx) hkj
theorem zfj (p : List (PV × PV)) : ∀ l : List Nat, l.Pairwise (· < ·) → (zh7 p l).Pairwise (fun a b => ltI p b a = false)
 | [],_=>List.Pairwise.nil
 | k :: l, h => by
   rw [List.pairwise_cons] at h
   exact zfX p k _ (fun j hj=>h.1 j ((zeO p l).mem_iff.1 hj)) (zfj p l h.2)
theorem insI_map (p : List (PV × PV)) (k : Nat) : ∀ l : List Nat, (insI p k l).map (fun i => p[i]!) = insV p[k]! (l.map fun i => p[i]!)
 | []=>rfl
 | j :: l => by
   simp only [insI,List.map_cons,insV]
   split
   · rw [List.map_cons,insI_map p k l]
   · rfl
theorem sortI_map (p : List (PV × PV)) : ∀ l : List Nat, (zh7 p l).map (fun i => p[i]!) = zd1 (l.map fun i => p[i]!)
 | []=>rfl
 | k :: l => by
   simp only [zh7,List.map_cons,zd1]
   rw [insI_map,sortI_map p l]
theorem range_map (p : List (PV × PV)) : (List.range p.length).map (fun i => p[i]!) = p := by
 apply List.ext_getElem
 · simp
 · intro i h1 h2
   simp [h2]
theorem zc1 {A:Array Nat} {n:Nat} (h:A.size=n):A.extract 0 n=A:=by subst h;simp
theorem sorted_is (p : List (PV × PV)) (R : Array Nat) (hP : PermIn 0 p.length (Array.range p.length) R) (hS : SortedIn (ltI p) 0 p.length R) : R.toList.map (fun i => p[i]!) = zd1 p := by
 have hz:(Array.range p.length).size=p.length:=by simp
 have h1:=sorted_unique_holds (zh1 p) (ltI_anti p) (Array.range p.length) R (by rw [hz];exact hP) (by rw [hz];exact hS)
 have hJp:=zeO p (List.range p.length)
 have hJs:=zfj p (List.range p.length) List.pairwise_lt_range
 have hJl:(zh7 p (List.range p.length)).length=p.length:=by rw [hJp.length_eq];simp
 have h2:=sorted_unique_holds (zh1 p) (ltI_anti p) (Array.range p.length) (zh7 p (List.range p.length)).toArray
   (by
     rw [hz]
     refine ⟨by simp [hJl],fun i hi=>?_,?_⟩
     · rw [getElem!_neg _ _ (by simp [hJl];omega),getElem!_neg _ _ (by simp;omega)]
     · rw [zc1 (by simpa using hJl), zc1 hz]
       simpa using hJp)
   (by
     rw [hz]
     intro i j _ hij hj
     have:=List.pairwise_iff_getElem.1 hJs i j (by omega) (by omega) hij
     rw [getElem!_pos _ j (by simp [hJl];omega),getElem!_pos _ i (by simp [hJl];omega)]
     simpa using this)
 rw [h1,←h2]
 show ((zh7 p (List.range p.length)).toArray.toList).map _=_
 rw [List.toList_toArray,sortI_map,range_map]
theorem zdQ {n:Nat} {R:Array Nat} (hP:PermIn 0 n (Array.range n) R):R.size=n∧∀i,i<n→R[i]!<n:=by
 have hz:R.size=n:=by simpa using hP.1
 refine ⟨hz,fun i hi=>?_⟩
 have h:=hP.2.2
 rw [zc1 hz,zc1 (by simp)] at h
 have hm:R[i]! ∈ R.toList:=by rw [getElem!_pos R i (by omega)];simp
 have:=h.mem_iff.1 hm
 simpa using this
end Go.Proofs.YtkhcjoomijkfbaaGreatDoor
namespace Go.Proofs.YtkhcjoomijkfbaaGreatDoor
open Go.RowKit
theorem twoV_len:∀(m:Nat) (l:List PV),l.length=2 * m→(twoV l).length=m
 | 0, l, h => by
   have:l=[]:=List.eq_nil_of_length_eq_zero (by omega)
   subst this;rfl
 | m+1,a::b::l,h=>by simp only [twoV,List.length_cons];rw [twoV_len m l (by simp at h;omega)]
 | m+1,[a],h=>by simp at h;omega
 | m+1,[],h=>by simp at h
theorem twoV_at:∀(m:Nat) (l:List PV),l.length=2 * m→∀k,k<m→∃x y,l[2 * k]?=some x∧l[2 * k+1]?=some y∧(twoV l)[k]! = (x,y)
 | 0,_,_,k,hk=>by omega
 | m+1,a::b::l,h,0,_=>⟨a,b,rfl,rfl,rfl⟩
 | m + 1, a :: b :: l, h, k + 1, hk => by
   obtain ⟨x,y,h1,h2,h3⟩:=twoV_at m l (by simp at h;omega) k (by omega)
   refine ⟨x,y,?_,?_,?_⟩
   · rw [show 2 * (k+1)=2 * k+1+1 by omega];simpa using h1
   · rw [show 2 * (k+1)+1=2 * k+1+1+1 by omega];simpa using h2
   · simp only [twoV]
     rw [←h3];simp
 | m+1,[a],h,_,_=>by simp at h;omega
 | m+1,[],h,_,_=>by simp at h
theorem zgr:∀L:List (PV×PV),zb0 L=true↔∃i,i+1<L.length∧L[i]!.1.s=L[i+1]!.1.s
 | []=>by simp [zb0]
 | [x]=>by simp [zb0]
 | x :: y :: l => by
   simp only [zb0,Bool.or_eq_true,beq_iff_eq]
   rw [zgr (y::l)]
   constructor
   · rintro (h|⟨i,h1,h2⟩)
     · exact ⟨0,by simp,by simpa using h⟩
     · exact ⟨i+1,by simp at h1 ⊢;omega,by simpa using h2⟩
   · rintro ⟨i,h1,h2⟩
     rcases i with _|i
     · left;simpa using h2
     · right;exact ⟨i,by simp at h1 ⊢;omega,by simpa using h2⟩
theorem flatV_len:∀a:List (PV×PV),(zb5 a).length=2 * a.length
 | []=>rfl
 | (x,y)::a=>by simp only [zb5,List.length_cons];rw [flatV_len a];omega
def zfq (cs:List Value) (k:Nat):List Value:=(cs.drop (k * 8)).take 8
theorem IsVs.drop {w:World} {F:Nat→Prop}:∀(k:Nat) {l:List PV} {cs:List Value},IsVs w F l cs→IsVs w F (l.drop k) (cs.drop (k * 4))
 | 0,_,_,h=>by simpa using h
 | k+1,[],_,h=>by cases h;simp [IsVs]
 | k + 1, v :: l, _, ⟨sl, t, h, hv, ht⟩ => by
   subst h
   have:=ht.drop k
   rw [show (k+1) * 4=k * 4+4 by omega]
   simpa [pvC] using this
theorem IsVs.part {w:World} {F:Nat→Prop} {l:List PV} {cs:List Value} (h:IsVs w F l cs) {k:Nat} {x y:PV} (h1:l[2 * k]?=some x) (h2:l[2 * k+1]?=some y):IsVs w F [x,y] (zfq cs k):=by
 have hd:=h.drop (2 * k)
 obtain ⟨g1,e1⟩:=List.getElem?_eq_some_iff.1 h1
 obtain ⟨g2,e2⟩:=List.getElem?_eq_some_iff.1 h2
 rw [List.drop_eq_getElem_cons g1,List.drop_eq_getElem_cons g2,e1,e2] at hd
 obtain ⟨s1,t1,q1,v1,s2,t2,q2,v2,-⟩:=hd
 unfold zfq
 rw [show k * 8=2 * k * 4 by omega,q1,q2]
 exact ⟨s1,pvC y s2,by simp [pvC],v1,s2,[],by simp,v2,rfl⟩
theorem parts_all {w : World} {F : Nat → Prop} {l : List PV} {cs : List Value} {m : Nat} (hm : l.length = 2 * m) (h : IsVs w F l cs) : ∀ qs : List Nat, (∀ k ∈ qs, k < m) → IsVs w F (zb5 (qs.map fun k => (twoV l)[k]!)) (qs.flatMap (zfq cs))
 | [],_=>rfl
 | k :: qs, hq => by
   obtain ⟨x,y,h1,h2,h3⟩:=twoV_at m l hm k (hq k List.mem_cons_self)
   have:=parts_all hm h qs fun j hj=>hq j (List.mem_cons_of_mem _ hj)
   simp only [List.map_cons,List.flatMap_cons]
   rw [h3]
   exact (h.part h1 h2).append this
theorem EPV:zfp Tryz.prog 46 48 (.agg #[.int .i64 0,.int .i64 0,.string ⟨#[]⟩,.slice none 0 0]) 4 56:=⟨Tryz.underlying46,by kernel_rfl,rfl,by omega⟩
theorem IsVs.one1 {w:World} {F:Nat→Prop}:∀ {l:List PV} {cs:List Value},IsVs w F l cs→∀u∈cs,u.oneCell'=true
 | [],_,h,u,hu=>by cases h;cases hu
 | v :: l, _, ⟨sl, t, h, hv, ht⟩, u, hu => by
   subst h
   obtain ⟨a,cap,rfl,-⟩:=hv.len
   simp only [pvC,List.cons_append,List.nil_append,List.mem_cons] at hu
   rcases hu with rfl|rfl|rfl|rfl|hu
   · rfl
   · rfl
   · rfl
   · rfl
   · exact ht.one1 u hu
theorem grow_any (k : Nat) (hk : k ≤ 1000000) (w : World) : Calls Tryz.prog 224 #[.slice none 0 0, .int .i64 k] w fun e w' => ∃ v, e = .returned v ∧ w'.ownsRow w.heap.size 48 4 v 0 [] ∧ Below w.heap.size w w' := by
 obtain ⟨i0,hi,hz,hs,hb⟩:=info_parts EPV.info
 rcases Nat.eq_zero_or_pos k with rfl|h0
 · clear hi hz hs hb
   go_enter Tryz.func224,Tryz.ntmps224
   go_wp2
   go_ret
   exact ⟨_,rfl,World.ownsRow_nil _ _ _ _,Below.refl _ _⟩
 · have hr := Lib.hid (Lib.run_append_nil_zeros (P := Tryz.prog) w 46 3 46 48 i0 _ .i64 .i64 Tryz.underlying46 Tryz.underlying3 hi hz k h0 (by omega) (by omega) (by rw [hb]; omega))
   have hg1:=grownCap_ge w k 0 48
   have hg2:=grownCap_le_maxLen w k 0 48 (by unfold maxLen;omega)
   generalize grownCap w k 0 48=C at *
   have h1:(0:Int)<(k:Int):=by omega
   clear hi hz hs hb h0
   go_enter Tryz.func224,Tryz.ntmps224
   go_wp2_with (at_builtin;refine Lib.wpList_append_run _ rfl _ _ _ _ rfl _ _ rfl rfl _ _ hr.out ?_)
   go_ret
   refine ⟨_,rfl,⟨rfl,.inr ⟨w.heap.size,C,_,rfl,Nat.le_refl _,zac _ rfl,Nat.zero_le _,hg2,?_,rfl⟩⟩,(Below.refl _ _).drew.alloc (Nat.le_refl _) _⟩
   rw [Array.size_append,size_zeroCells,size_zeroCells,←Nat.add_mul]
   show (k+(C-k)) * 4=C * 4
   rw [Nat.add_sub_cancel' hg1]
theorem part_row {w:World} {b off n c:Nat} {cs:List Value} (hr:Row w 4 (some ⟨b,off,none⟩) n c cs) {k:Nat} (hk:2 * k+2≤n):Row w 4 (some ⟨b,off+2 * k * 4,none⟩) 2 2 (zfq cs k):=by
 obtain ⟨h1,h2,h3,-,h5⟩:=hr
 obtain ⟨b',off',e,hb,hc⟩:=h5 (by omega)
 cases e
 refine ⟨by unfold zfq;simp;omega,Nat.le_refl _,by unfold maxLen;omega,fun h=>(by cases h),fun _=>⟨b,_,rfl,hb,fun j u hj=>?_⟩⟩
 unfold zfq at hj
 rw [List.getElem?_take] at hj
 split at hj
 · rw [List.getElem?_drop] at hj
   have:=hc _ u hj
   rwa [show off+(k * 8+j)=off+2 * k * 4+j by omega] at this
 · cases hj
theorem concat_any {w:World} {a:Option Addr} {cap b off n c:Nat} {qs:List Nat} {cs:List Value} (ht:Row w 1 a qs.length cap (qs.map (zcn b off))) (hr:Row w 4 (some ⟨b,off,none⟩) n c cs) (h1:∀u∈cs,u.oneCell'=true) (hq:∀k∈qs,2 * k+2≤n) (hm:qs.length≤400000) :
   Calls Tryz.prog 199 #[.slice a qs.length cap] w fun e w'=>∃v,e=.returned v∧w'.ownsRow w.heap.size 48 4 v (2 * qs.length) (qs.flatMap (zfq cs))∧Below w.heap.size w w':=by
 have HT:=Lib.hid ht
 have HR:=Lib.hid hr
 have H1:=Lib.hid h1
 have HQ:=Lib.hid hq
 have HG:=Lib.hid (fun W=>grow_any (2 * qs.length) (by omega) W)
 obtain ⟨m,hmq⟩:∃m,m=qs.length:=⟨_,rfl⟩
 rw [←hmq] at hm HT HG ⊢
 have HM:=Lib.hid hmq
 clear ht hr h1 hq hmq
 go_enter Tryz.func199,Tryz.ntmps199
 go_wp2
 go_loop [3,11] (fun s i=>∃(k:Nat) (S:Int),k≤m∧i=.int .i64 k∧s=.int .i64 S∧0≤S∧S≤2 * (k:Int)∧Hid (S=2 * (k:Int))) (fun _ i=>m-(intOf i).toNat)
 case atStart=>exact ⟨0,0,Nat.zero_le _,rfl,rfl,by omega,by omega,rfl⟩
 case round =>
   obtain ⟨k,S,hk,rfl,rfl,hS0,hS1,HS⟩:=hrel
   by_cases hlt:k<m
   · obtain ⟨b1, o1, rfl, hb1, hc1⟩ := HT.out.2.2.2.2 (by omega)
     have hqk:qs[k]?=some (qs[k]'(by rw [←HM.out];exact hlt)):=List.getElem?_eq_getElem _
     have hck:=hc1 k _ (by rw [List.getElem?_map,hqk];rfl)
     unfold zcn at hck
     generalize qs[k]'_=q at *
     clear hc1 hqk
     have i1:(k:Int)<(m:Int):=by omega
     have i2:(0:Int)≤(k:Int):=by omega
     have i3:S≤800000:=by omega
     have i5:decide (S+2<0)=false:=decide_eq_false (by omega)
     clear hS1
     go_wp2
     go_round
     case rel=>exact ⟨k+1,S+2,by omega,by go_num,rfl,by omega,by have:=HS.out;omega,by have:=HS.out;show S+2=_;omega⟩
     case measure=>simp [intOf];omega
   · obtain rfl : k = m := by omega
     obtain rfl:S=((2 * k:Nat):Int):=by have:=HS.out;omega
     clear hk HS hS0 hS1
     have hkd:decide (k<k)=false:=by simp
     clear hlt
     go_wp2_with (go_at_call 224;refine (HG.out _).mono ?_;rintro e w1 ⟨v1,rfl,hO1,hb1⟩)
     have HO1:=Lib.hid hO1
     have HB1:=Lib.hid hb1
     clear hO1 hb1 hkd HG
     go_loopw [6,27] (fun v i wr=>∃j:Nat,j≤k∧i=.int .i64 j∧Hid (wr.ownsRow w.heap.size 48 4 v (2 * j) ((qs.take j).flatMap (zfq cs)))∧Hid (Below w.heap.size w wr)) (fun _ i _=>k-(intOf i).toNat)
     case atStart=>exact ⟨0,Nat.zero_le _,rfl,HO1,HB1⟩
     case round =>
       obtain ⟨j,hj,rfl,HO,HB⟩:=hrel
       by_cases hlt:j<k
       · obtain ⟨b1, o1, rfl, hb1, hc1⟩ := HT.out.2.2.2.2 (by omega)
         have hqk:qs[j]?=some (qs[j]'(by rw [←HM.out];exact hlt)):=List.getElem?_eq_getElem _
         have hck:=cell?_keep HB.out (hc1 j _ (by rw [List.getElem?_map,hqk];rfl))
         have hqm:=HQ.out _ (List.getElem_mem (l:=qs) (n:=j) (by rw [←HM.out];exact hlt))
         have hts:qs.take (j+1)=qs.take j++[qs[j]'(by rw [←HM.out];exact hlt)]:=by rw [List.take_add_one,hqk];rfl
         unfold zcn at hck
         generalize qs[j]'_=q at *
         have HTS:=Lib.hid hts
         have HPR:=Lib.hid (part_row (HR.out.mono HB.out) hqm)
         have HP1:=Lib.hid (show ∀u∈zfq cs q,u.oneCell'=true from fun u hu=>H1.out u (List.mem_of_mem_drop (List.mem_of_mem_take hu)))
         clear hc1 hqk hts hqm
         have i1:(j:Int)<(k:Int):=by omega
         have i2:(0:Int)≤(j:Int):=by omega
         go_wp2_with (at_builtin;refine zbJ EPV rfl _ _ rfl w.heap.size _ (2 * j) _ rfl HO.out (some ⟨b,off+2 * q * 4,none⟩) 2 2 (zfq cs q) rfl HPR.out HP1.out (by unfold maxLen;omega) (by omega) HB.out.size ?_;intro v2 w2 hO2 hg2 _)
         have HO2:=Lib.hid (show w2.ownsRow w.heap.size 48 4 v2 (2 * (j+1)) ((qs.take (j+1)).flatMap (zfq cs)) by
           rw [HTS.out,List.flatMap_append,List.flatMap_singleton];exact hO2)
         have HB2:=Lib.hid (HB.out.grown hg2 HB.out.size (fun r e=>(HO.out.lt r e).1))
         clear hO2 hg2
         go_roundw
         case rel=>exact ⟨j+1,by omega,by go_num,HO2,HB2⟩
         case measure=>simp [intOf];omega
       · obtain rfl : j = k := by omega
         have hO:=HO.out
         rw [List.take_of_length_le (by rw [←HM.out];exact Nat.le_refl _)] at hO
         have HO3:=Lib.hid hO
         clear hO
         go_wp2
         go_ret
         exact ⟨_,rfl,HO3.out,HB.out⟩
end Go.Proofs.YtkhcjoomijkfbaaGreatDoor
