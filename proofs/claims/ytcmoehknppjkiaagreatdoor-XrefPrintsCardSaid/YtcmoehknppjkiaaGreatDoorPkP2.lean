/-
  Our texts Num to Num4, in one.
-/
import Derived.Test.YtcmoehknppjkiaaGreatDoorPkP1
import Derived.Test.YtcmoehknppjkiaaGreatDoorProg
import Derived.BigQuiet
import Derived.Deep.QuietTactic
import Derived.Laws.RangeAny
import Derived.IntWalk
import Derived.Lib.Bytealg
import Derived.Lib.Builder
import Derived.Lib.UnsafeStr
import Derived.Lib.ByteType
import Derived.StillTailTactics
import Derived.ScopeJumps
import Derived.WalkMore
import Derived.Deep.LoopGhost
set_option maxRecDepth 8000
set_option maxHeartbeats 8000000
namespace Go.Proofs.YtcmoehknppjkiaaGreatDoor
open Go.RowKit
def zdf (r:Int):Int:=if r<48\/57<r then -1 else r-48
theorem zcg (r:Int) (w:World) (h0:0<=r) (h1:r<=2147483647) :
  Calls Tryz.prog 189 #[.int .i32 r] w fun e w'=>e=.returned (.int .i64 (zdf r))/\w=w':=by
 obtain ⟨V,hV⟩:∃V,V=zdf r:=⟨_,rfl⟩
 rw [<-hV]
 unfold zdf at hV
 by_cases h2:r<48
 ·rw [yg (.inl h2)] at hV
  have HV:=yb hV
  clear hV
  go_enter Tryz.func189,Tryz.ntmps189
  go_wp2
  go_ret
  exact ⟨zaI HV.out.symm,rfl⟩
 ·have h2d:decide (r<48)=false:=by simpa using h2
  by_cases h3:57<r
  ·rw [yg (.inr h3)] at hV
   have HV:=yb hV
   clear hV
   go_enter Tryz.func189,Tryz.ntmps189
   go_wp2
   go_ret
   exact ⟨zaI HV.out.symm,rfl⟩
  ·rw [yh (by omega)] at hV
   have HV:=yb hV
   have h3d:decide (57<r)=false:=by simpa using h3
   have h2':48<=r:=by omega
   have h3':r<=57:=by omega
   clear hV h2 h3
   go_enter Tryz.func189,Tryz.ntmps189
   go_wp2
   go_ret
   exact ⟨zaI HV.out.symm,rfl⟩
abbrev bl (s:ByteArray):List UInt8:=s.data.toList
theorem zaR (s:ByteArray):(bl s).length=s.size:=Array.length_toList
theorem bl_get (s:ByteArray) (k:Nat) (h:k<s.size):(bl s)[k]'(by rw [zaR];exact h)=s[k]:=rfl
theorem zcQ (s:ByteArray) (k:Nat) (h:k<s.size):(bl s).take (k+1)=(bl s).take k++[s[k]]:=by
 rw [List.take_succ_eq_append_getElem (by rw [zaR];exact h)];rfl
theorem bl_drop (s:ByteArray) (k:Nat) (h:k<s.size):(bl s).drop k=s[k]::(bl s).drop (k+1):=by
 rw [List.drop_eq_getElem_cons (by rw [zaR];exact h)];rfl
theorem bl_mem (s:ByteArray) (k:Nat) (h:k<s.size):s[k]∈bl s:=by rw [<-bl_get s k h];exact List.getElem_mem _
theorem toL (s:ByteArray):s.toList=bl s:=ByteArray.toList_eq s
theorem dec_yes (s:ByteArray) (k:Nat) (h:k<s.size) (hd:isDg s[k]=true):Utf8.decode s k=(s[k].toNat,1):=by
 rw [zcp] at hd;exact decode_ascii s k h (by omega)
theorem dec_no (s:ByteArray) (k:Nat) (h:k<s.size) (hd:isDg s[k]=false):zdf (Utf8.decode s k).1=-1:=by
 rw [isDg_no] at hd
 unfold zdf
 by_cases h2:s[k].toNat<128
 ·rw [decode_ascii s k h h2,yg]
  simp only;omega
 ·have:=(decode_high s k h (by omega)).1
  rw [yg];omega
theorem zcl (w:World) (s:ByteArray) (k:Nat):Below w.heap.size w (w.iter s k):=zae w _
def DigEnd (V:Int×Int) (w:World) (e:Ending) (w':World):Prop:=e=.returned (.tuple #[.int .i64 V.1,.int .i64 V.2])/\Below w.heap.size w w'
theorem zb9 (s:ByteArray) (w:World) :
  Calls Tryz.prog 168 #[.string s] w (DigEnd (zaA (bl s)) w):=by
 obtain ⟨V,hV⟩:∃V,V=zaA (bl s):=⟨_,rfl⟩
 rw [<-hV]
 have HV:=yb hV
 clear hV
 by_cases he:s.toList=[]
 ·have HE:=yb (show V=(0,11) by rw [HV.out,<-toL,he];exact digitsV_nil)
  go_enter Tryz.func168,Tryz.ntmps168
  go_wp2
  go_ret2
  exact ⟨by rw [HE.out];rfl,Below.refl _ _⟩
 have he2:s.toList.isEmpty=false:=by simpa using he
 have hne:bl s≠[]:=by rw [<-toL];exact he
 have HNE:=yb hne
 clear he hne
 go_enter Tryz.func168,Tryz.ntmps168
 go_wp2
 go_loopw [4,5] (fun n o wr=>∃(k:Nat) (N:Int) (ov:Bool),k<=s.size/\n=.int .i64 N/\o=.bool ov/\wr=w.iter s k/\0<=N/\N<=2147483647/\Hid (((bl s).take k).all isDg=true)/\Hid (ov=decide (2147483647<valD ((bl s).take k)))/\Hid (ov=false->N=(valD ((bl s).take k):Nat)))
  (fun _ _ wr=>s.size-wr.iterPos w.heap.size)
 case atStart=>exact ⟨0,0,false,Nat.zero_le _,rfl,rfl,rfl,by omega,by omega,yb rfl,yb rfl,yb fun _=>rfl⟩
 case round =>
  obtain ⟨k,N,ov,hk,rfl,rfl,rfl,hN0,hN1,HA,HO,HN⟩:=hrel
  by_cases hlt:k<s.size
  ·have hnx:=fun ty=>run_next_any (P:=Tryz.prog) w s k ty hlt
   have hle:=decode_le s k
   by_cases hd:isDg s[k]=true
   ·rw [dec_yes s k hlt hd] at hnx hle
    have hd1:=zcp.1 hd
    have HDV:=yb (dgV_int hd)
    have HD9:=dgV_le hd
    have HTA:=yb (show ((bl s).take (k+1)).all isDg=true by rw [zcQ s k hlt];exact zfO _ _ HA.out hd)
    have HTV:=yb (show valD ((bl s).take (k+1))=10*valD ((bl s).take k)+dgV s[k] by rw [zcQ s k hlt];exact zcv _ _)
    have HDI:=yb (show zdf ((s[k].toNat:Nat):Int)=(dgV s[k]:Nat) by unfold zdf;rw [yh (by omega),dgV_int hd])
    generalize dgV s[k]=d at *
    generalize s[k].toNat=c at *
    clear hd
    simp only at hnx hle
    cases ov
    ·have hval:=HN.out rfl
     have HVAL:=yb hval
     clear hval
     by_cases hov:(2147483647-(d:Int)) / 10<N
     ·have HOV2:=yb (show true=decide (2147483647<valD ((bl s).take (k+1))) by
       have h1:=HVAL.out
       rw [HTV.out,eq_comm,decide_eq_true_iff];omega)
      go_wp2_with (go_at_call 189;refine (zcg _ _ (by omega) (by omega)).mono ?_;rintro e w' ⟨rfl,rfl⟩;rw [HDI.out])
      go_roundw
      case rel=>exact ⟨k+1,N,true,by omega,rfl,rfl,rfl,hN0,hN1,HTA,HOV2,yb (fun h=>by cases h)⟩
      case measure=>simp;omega
     ·have HOV2:=yb (show false=decide (2147483647<valD ((bl s).take (k+1))) by
       have h1:=HVAL.out
       rw [HTV.out,eq_comm,decide_eq_false_iff_not];omega)
      have HVL2:=yb (show 10*N+(d:Int)=((valD ((bl s).take (k+1)):Nat):Int) by rw [HTV.out,HVAL.out];omega)
      have hovd:decide ((2147483647-(d:Int)) / 10<N)=false:=by simpa using hov
      go_wp2_with (go_at_call 189;refine (zcg _ _ (by omega) (by omega)).mono ?_;rintro e w' ⟨rfl,rfl⟩;rw [HDI.out])
      go_roundw
      case rel=>exact ⟨k+1,10*N+d,false,by omega,rfl,rfl,rfl,by omega,by omega,HTA,HOV2,yb (fun _=>HVL2.out)⟩
      case measure=>simp;omega
    ·have HOV2:=yb (show true=decide (2147483647<valD ((bl s).take (k+1))) by
      have h1:=HO.out
      rw [eq_comm,decide_eq_true_iff] at h1
      rw [HTV.out,eq_comm,decide_eq_true_iff];omega)
     go_wp2_with (go_at_call 189;refine (zcg _ _ (by omega) (by omega)).mono ?_;rintro e w' ⟨rfl,rfl⟩;rw [HDI.out])
     go_roundw
     case rel=>exact ⟨k+1,N,true,by omega,rfl,rfl,rfl,hN0,hN1,HTA,HOV2,yb (fun h=>by cases h)⟩
     case measure=>simp;omega
   ·have hd2:isDg s[k]=false:=by simpa using hd
    have HDI:=yb (dec_no s k hlt hd2)
    have h128:0<=(Utf8.decode s k).1:=by omega
    have HF:=yb (show V=(0,11) by rw [HV.out];exact digitsV_form (all_false (bl_mem s k hlt) hd2))
    clear hd hd2
    go_wp2_with (go_at_call 189;refine (zcg _ _ (by omega) (by omega)).mono ?_;rintro e w' ⟨rfl,rfl⟩;rw [HDI.out])
    go_ret2
    exact ⟨by rw [HF.out];rfl,zcl _ _ _⟩
  ·obtain rfl:k=s.size:=by omega
   have hnx:=fun ty=>run_next_end (P:=Tryz.prog) w s s.size ty hlt
   have htk:(bl s).take s.size=bl s:=by rw [<-zaR];exact List.take_length
   have HT:=yb htk
   clear htk
   cases ov
   ·have HR:=yb (show V=(N,0) by
     have h1:=HA.out;have h2:=HO.out;have h3:=HN.out rfl
     rw [HT.out] at h1 h2 h3
     rw [eq_comm,decide_eq_false_iff_not] at h2
     rw [HV.out,zb7 HNE.out h1 (by omega),h3])
    go_wp2
    go_ret2
    exact ⟨by rw [HR.out];rfl,zcl _ _ _⟩
   ·have HR:=yb (show V=(0,5) by
     have h1:=HA.out;have h2:=HO.out
     rw [HT.out] at h1 h2
     rw [eq_comm,decide_eq_true_iff] at h2
     rw [HV.out,zd6 HNE.out h1 h2])
    go_wp2
    go_ret2
    exact ⟨by rw [HR.out];rfl,zcl _ _ _⟩
theorem zdC (s:ByteArray) (w:World) :
  Calls Tryz.prog 198 #[.string s] w fun e w'=>e=.returned (.bool ((bl s).all isDg))/\Below w.heap.size w w':=by
 obtain ⟨V,hV⟩:∃V,V=(bl s).all isDg:=⟨_,rfl⟩
 rw [<-hV]
 have HV:=yb hV
 clear hV
 go_enter Tryz.func198,Tryz.ntmps198
 go_wp2
 go_loopw [] (fun wr=>∃k:Nat,k<=s.size/\wr=w.iter s k/\Hid (((bl s).take k).all isDg=true)) (fun wr=>s.size-wr.iterPos w.heap.size)
 case atStart=>exact ⟨0,Nat.zero_le _,rfl,yb rfl⟩
 case round =>
  obtain ⟨k,hk,rfl,HA⟩:=hrel
  by_cases hlt:k<s.size
  ·have hnx:=fun ty=>run_next_any (P:=Tryz.prog) w s k ty hlt
   have hle:=decode_le s k
   by_cases hd:isDg s[k]=true
   ·rw [dec_yes s k hlt hd] at hnx hle
    have hd1:=zcp.1 hd
    have hd9:=dgV_le hd
    have HTA:=yb (show ((bl s).take (k+1)).all isDg=true by rw [zcQ s k hlt];exact zfO _ _ HA.out hd)
    have HDI:=yb (show zdf ((s[k].toNat:Nat):Int)=(dgV s[k]:Nat) by unfold zdf;rw [yh (by omega),dgV_int hd])
    generalize dgV s[k]=d at *
    generalize s[k].toNat=c at *
    clear hd
    simp only at hnx hle
    go_wp2_with (go_at_call 189;refine (zcg _ _ (by omega) (by omega)).mono ?_;rintro e w' ⟨rfl,rfl⟩;rw [HDI.out])
    go_roundw
    case rel=>exact ⟨k+1,by omega,rfl,HTA⟩
    case measure=>simp;omega
   ·have hd2:isDg s[k]=false:=by simpa using hd
    have HDI:=yb (dec_no s k hlt hd2)
    have HF:=yb (show V=false by rw [HV.out];exact all_false (bl_mem s k hlt) hd2)
    clear hd hd2
    go_wp2_with (go_at_call 189;refine (zcg _ _ (by omega) (by omega)).mono ?_;rintro e w' ⟨rfl,rfl⟩;rw [HDI.out])
    go_ret
    exact ⟨zbp (HF.out).symm,zcl _ _ _⟩
  ·obtain rfl:k=s.size:=by omega
   have hnx:=fun ty=>run_next_end (P:=Tryz.prog) w s s.size ty hlt
   have htk:(bl s).take s.size=bl s:=by rw [<-zaR];exact List.take_length
   have HR:=yb (show V=true by rw [HV.out,<-htk];exact HA.out)
   clear htk
   go_wp2
   go_ret
   exact ⟨zbp (HR.out).symm,zcl _ _ _⟩
def mkB (l:List UInt8):ByteArray:=⟨l.toArray⟩
theorem zar (l:List UInt8):(mkB l).size=l.length:=by unfold mkB;simp [ByteArray.size]
def pvC (v:PV) (sl:Value):List Value:=[.int .i64 v.kind,.int .i64 v.n,.string (mkB v.s),sl]
def pvA (v:PV) (sl:Value):Value:=.agg #[.int .i64 v.kind,.int .i64 v.n,.string (mkB v.s),sl]
mutual
def IsV (w:World) (F:Nat->Prop):PV->Value->Prop
 | .mk _ _ _ l,sl=>∃a cap cs,sl=.slice a l.length cap/\Row w 4 a l.length cap cs/\(0<l.length->∀x,a=some x->F x.block)/\IsVs w F l cs
def IsVs (w:World) (F:Nat->Prop):List PV->List Value->Prop
 | [],cs=>cs=[]
 | v::l,cs=>∃sl t,cs=pvC v sl++t/\IsV w F v sl/\IsVs w F l t
end
theorem IsV.mk {w:World} {F:Nat->Prop} {v:PV} {a:Option Addr} {cap:Nat} {cs:List Value} (hr:Row w 4 a v.l.length cap cs) (hF:0<v.l.length->∀x,a=some x->F x.block) (h:IsVs w F v.l cs):IsV w F v (.slice a v.l.length cap):=by
 cases v;exact ⟨a,cap,cs,rfl,hr,hF,h⟩
theorem IsV.out {w:World} {F:Nat->Prop} {v:PV} {sl:Value} (h:IsV w F v sl):∃a cap cs,sl=.slice a v.l.length cap/\Row w 4 a v.l.length cap cs/\(0<v.l.length->∀x,a=some x->F x.block)/\IsVs w F v.l cs:=by
 cases v;exact h
theorem IsV.leaf (w:World) (F:Nat->Prop) (v:PV) (h:v.l=[]):IsV w F v (.slice none 0 0):=by
 have:=IsV.mk (w:=w) (F:=F) (v:=v) (a:=none) (cap:=0) (cs:=[]) (by rw [h];exact Row.nil w 4) (by rw [h];intro h;cases h) (by rw [h];rfl)
 rw [h] at this;exact this
theorem IsVs.length {w:World} {F:Nat->Prop}:∀ {l:List PV} {cs:List Value},IsVs w F l cs->cs.length=l.length*4
 | [],_,h=>by cases h;rfl
 | v::l,_,⟨sl,t,h,_,ht⟩=>by subst h;have:=IsVs.length ht;simp [pvC];omega
def zaJ (F:Nat->Prop) (w w':World):Prop:=w.heap.size<=w'.heap.size/\∀b,b<w.heap.size->F b->w'.heap[b]?=w.heap[b]?
theorem Row.stays {F:Nat->Prop} {w w':World} {sz:Nat} {a:Option Addr} {n cap:Nat} {xs:List Value} (h:Row w sz a n cap xs) (hk:zaJ F w w') (hne:0<n->∀x,a=some x->F x.block):Row w' sz a n cap xs:=by
 obtain ⟨h1,h2,h3,h4,h5⟩:=h
 refine ⟨h1,h2,h3,h4,fun hn=>?_⟩
 obtain ⟨b,off,ha,hlt,hc⟩:=h5 hn
 refine ⟨b,off,ha,Nat.lt_of_lt_of_le hlt hk.1,fun j u hj=>?_⟩
 rw [World.cell?_of_block (w:=w) (a:=⟨b,off+j,none⟩) (hk.2 b hlt (hne hn _ ha))]
 exact hc j u hj
mutual
theorem IsV.keep {w w':World} {F G:Nat->Prop} (hk:zaJ F w w') (hG:∀b,F b->G b):∀(v:PV) {sl:Value},IsV w F v sl->IsV w' G v sl
 | .mk _ _ _ l,_,⟨a,cap,cs,h,hr,hF,hs⟩=>⟨a,cap,cs,h,hr.stays hk hF,fun h0 x hx=>hG _ (hF h0 x hx),IsVs.keep hk hG l hs⟩
theorem IsVs.keep {w w':World} {F G:Nat->Prop} (hk:zaJ F w w') (hG:∀b,F b->G b):∀(l:List PV) {cs:List Value},IsVs w F l cs->IsVs w' G l cs
 | [],_,h=>h
 | v::l,_,⟨sl,t,h,hv,ht⟩=>⟨sl,t,h,IsV.keep hk hG v hv,IsVs.keep hk hG l ht⟩
end
theorem zaJ.refl (F:Nat->Prop) (w:World):zaJ F w w:=⟨yp _,fun _ _ _=>rfl⟩
theorem zaJ.of_below {F:Nat->Prop} {w w':World} (h:Below w.heap.size w w'):zaJ F w w':=⟨h.size,fun b hb _=>h.block b hb⟩
theorem zaJ.trans {F:Nat->Prop} {a b c:World} (h:zaJ F a b) (k:zaJ F b c):zaJ F a c:=⟨Nat.le_trans h.1 k.1,fun x hx hF=>(k.2 x (Nat.lt_of_lt_of_le hx h.1) hF).trans (h.2 x hx hF)⟩
theorem IsV.below {w w':World} {F:Nat->Prop} {v:PV} {sl:Value} (h:IsV w F v sl) (hb:Below w.heap.size w w'):IsV w' F v sl:=IsV.keep (zaJ.of_below hb) (fun _ h=>h) v h
theorem IsVs.below {w w':World} {F:Nat->Prop} {l:List PV} {cs:List Value} (h:IsVs w F l cs) (hb:Below w.heap.size w w'):IsVs w' F l cs:=IsVs.keep (zaJ.of_below hb) (fun _ h=>h) l h
theorem IsV.weaken {w:World} {F G:Nat->Prop} {v:PV} {sl:Value} (h:IsV w F v sl) (hG:∀b,F b->G b):IsV w G v sl:=IsV.keep (zaJ.refl F w) hG v h
theorem IsVs.weaken {w:World} {F G:Nat->Prop} {l:List PV} {cs:List Value} (h:IsVs w F l cs) (hG:∀b,F b->G b):IsVs w G l cs:=IsVs.keep (zaJ.refl F w) hG l h
theorem IsVs.append {w:World} {F:Nat->Prop}:∀ {l m:List PV} {cs ds:List Value},IsVs w F l cs->IsVs w F m ds->IsVs w F (l++m) (cs++ds)
 | [],_,_,_,h,hm=>by cases h;exact hm
 | v::l,_,_,_,⟨sl,t,h,hv,ht⟩,hm=>⟨sl,t++_,by subst h;simp,hv,IsVs.append ht hm⟩
theorem IsVs.one {w:World} {F:Nat->Prop} {v:PV} {sl:Value} (h:IsV w F v sl):IsVs w F [v] (pvC v sl):=⟨sl,[],by simp,h,rfl⟩
theorem IsVs.snoc {w:World} {F:Nat->Prop} {l:List PV} {cs:List Value} {v:PV} {sl:Value} (h:IsVs w F l cs) (hv:IsV w F v sl):IsVs w F (l++[v]) (cs++pvC v sl):=h.append (IsVs.one hv)
theorem IsVs.get {w:World} {F:Nat->Prop}:∀ {l:List PV} {cs:List Value},IsVs w F l cs->∀(k:Nat) (v:PV),l[k]?=some v->∃sl,IsV w F v sl/\cs[k*4]?=some (.int .i64 v.kind)/\cs[k*4+1]?=some (.int .i64 v.n)/\cs[k*4+2]?=some (.string (mkB v.s))/\cs[k*4+3]?=some sl
 | [],_,_,_,_,hk=>by simp at hk
 | x::l,_,⟨sl,t,h,hv,ht⟩,0,v,hk=>by
  simp at hk;subst hk h
  exact ⟨sl,hv,rfl,rfl,rfl,rfl⟩
 | x::l,_,⟨sl,t,h,hv,ht⟩,k+1,v,hk=>by
  subst h
  obtain ⟨s2,h1,h2,h3,h4,h5⟩:=ht.get k v (by simpa using hk)
  refine ⟨s2,h1,?_,?_,?_,?_⟩
  ·rw [show (k+1)*4=4+k*4 by omega,List.getElem?_append_right (by simp [pvC])];simpa [pvC] using h2
  ·rw [show (k+1)*4+1=4+(k*4+1) by omega,List.getElem?_append_right (by simp [pvC])];simpa [pvC] using h3
  ·rw [show (k+1)*4+2=4+(k*4+2) by omega,List.getElem?_append_right (by simp [pvC])];simpa [pvC] using h4
  ·rw [show (k+1)*4+3=4+(k*4+3) by omega,List.getElem?_append_right (by simp [pvC])];simpa [pvC] using h5
theorem IsV.at {w:World} {F:Nat->Prop} {v:PV} {a:Option Addr} {n cap:Nat} (h:IsV w F v (.slice a n cap)) (hn:0<n) :
  n=v.l.length/\n<=cap/\cap<=maxLen/\∃b off,a=some ⟨b,off,none⟩/\b<w.heap.size/\F b/\∀k x,v.l[k]?=some x->∃sl,IsV w F x sl/\w.cell? ⟨b,off+k*4,none⟩=some (.int .i64 x.kind) /\
   w.cell? ⟨b,off+k*4+1,none⟩=some (.int .i64 x.n)/\w.cell? ⟨b,off+k*4+2,none⟩=some (.string (mkB x.s))/\w.cell? ⟨b,off+k*4+3,none⟩=some sl:=by
 obtain ⟨a',cap',cs,e,hr,hF,hs⟩:=h.out
 simp only [Value.slice.injEq] at e
 obtain ⟨rfl,rfl,rfl⟩:=e
 obtain ⟨b,off,rfl,hb,hc⟩:=hr.2.2.2.2 hn
 refine ⟨rfl,hr.2.1,hr.2.2.1,b,off,rfl,hb,hF hn _ rfl,fun k x hx=>?_⟩
 obtain ⟨sl,h1,h2,h3,h4,h5⟩:=hs.get k x hx
 exact ⟨sl,h1,hc _ _ h2,(Nat.add_assoc off (k*4) 1).symm▸hc _ _ h3,(Nat.add_assoc off (k*4) 2).symm▸hc _ _ h4,(Nat.add_assoc off (k*4) 3).symm▸hc _ _ h5⟩
theorem IsV.len {w:World} {F:Nat->Prop} {v:PV} {sl:Value} (h:IsV w F v sl):∃a cap,sl=.slice a v.l.length cap/\v.l.length<=cap/\cap<=maxLen/\(a=none->cap=0):=by
 obtain ⟨a,cap,cs,e,hr,_⟩:=h.out
 exact ⟨a,cap,e,hr.2.1,hr.2.2.1,hr.2.2.2.1⟩
theorem zcE:∀(l:List UInt8) (c:UInt8),Lib.indexByte l c=-1->c∉l
 | [],_,_=>by simp
 | b::l,c,h=>by
  have hg:=Lib.indexByte_ge l c
  unfold Lib.indexByte at h
  split at h
  ·omega
  ·rename_i hb
   split at h
   ·rename_i h1
    have:=zcE l c (by simpa using h1)
    simp at hb
    simp [this,Ne.symm hb]
   ·rename_i h1
    simp at h1;omega
theorem zcD:∀(l:List UInt8) (c:UInt8) (i:Nat),Lib.indexByte l c=(i:Int)->∃w t,l=w++c::t/\w.length=i/\c∉w
 | [],_,_,h=>by unfold Lib.indexByte at h;omega
 | b::l,c,i,h=>by
  have hg:=Lib.indexByte_ge l c
  unfold Lib.indexByte at h
  split at h
  ·rename_i hb
   have:b=c:=by simpa using hb
   exact ⟨[],l,by simp [this],by simp;omega,by simp⟩
  ·rename_i hb
   split at h
   ·omega
   ·rename_i h1
    simp at h1
    obtain ⟨w,t,e1,e2,e3⟩:=zcD l c (i-1) (by omega)
    simp at hb
    exact ⟨b::w,t,by simp [e1],by simp;omega,by simp [e3,Ne.symm hb]⟩
set_option maxRecDepth 100000 in
theorem sidx_any (s:ByteArray) (c:Int) (w:World) :
  Calls Tryz.prog 153 #[.string s,.int .u8 c] w fun e w'=>e=.returned (.int .i64 (Lib.indexByte (bl s) c.toNat.toUInt8))/\w=w':=by
 go_enter Tryz.func153,Tryz.ntmps153
 go_wp2
 rw [run_callFunc_extern Tryz.func176 (by kernel_rfl) (by kernel_rfl) (by kernel_rfl) (e:=Extern.BytealgIndexByte.indexByte) (by kernel_rfl),Lib.run_indexByteString]
 simp only [Result.andThen]
 rw [Oper.upon_value]
 go_wp2
 go_ret
 exact ⟨rfl,rfl⟩
theorem zdd (s:ByteArray) (c:Int) (w:World) :
  Calls Tryz.prog 121 #[.string s,.int .u8 c] w fun e w'=>e=.returned (.int .i64 (Lib.indexByte (bl s) c.toNat.toUInt8))/\w=w':=by
 go_enter Tryz.func121,Tryz.ntmps121
 go_wp2_with (go_at_call 153;refine (sidx_any _ _ _).mono ?_;rintro e w' ⟨rfl,rfl⟩)
 go_ret
 exact ⟨rfl,rfl⟩
theorem ze4 (s:ByteArray) (w:World) :
  Calls Tryz.prog 210 #[.string s,.string ⟨#[46]⟩] w fun e w'=>e=.returned (.int .i64 (Lib.indexByte (bl s) 46))/\w=w':=by
 obtain ⟨V,hV⟩:∃V,V=Lib.indexByte (bl s) 46:=⟨_,rfl⟩
 rw [<-hV]
 have HV:=yb hV
 clear hV
 by_cases h:s.toList=[46]
 ·have HE:=yb (show V=0 by rw [HV.out,<-toL,h];rfl)
  go_enter Tryz.func210,Tryz.ntmps210
  go_wp2
  go_ret
  exact ⟨zaI HE.out.symm,rfl⟩
 ·have h2:([46]==s.toList)=false:=by rw [yf];exact fun e=>h e.symm
  clear h
  go_enter Tryz.func210,Tryz.ntmps210
  go_wp2_with (go_at_call 153;refine (sidx_any _ _ _).mono ?_;rintro e w' ⟨rfl,rfl⟩)
  go_ret
  exact ⟨zaI HV.out.symm,rfl⟩
def CutEnd (s:ByteArray) (w:World) (e:Ending) (w':World):Prop :=
 ∃W R:ByteArray,e=.returned (.tuple #[.string W,.string R,.bool (zdJ (bl s))])/\bl W=zbr (bl s)/\bl R=zcd (bl s)/\W.size<=s.size/\R.size<=s.size/\∃q,w'=w.drewN q
theorem bl_ext (s:ByteArray) (i j:Nat):bl (s.extract i j)=((bl s).drop i).take (j-i):=by
 unfold bl;rw [ByteArray.data_extract,Array.toList_extract]
theorem bl_to (s:ByteArray) (i:Nat):bl (s.extract 0 i)=(bl s).take i:=by rw [bl_ext];rfl
theorem bl_from (s:ByteArray) (i:Nat):bl (s.extract i s.size)=(bl s).drop i:=by
 rw [bl_ext,List.take_of_length_le]
 rw [ym,zaR];exact yp _
theorem ret_tup3 {a b a' b':ByteArray} {p p':Bool} (h1:a=a') (h2:b=b') (h3:p=p'):Ending.returned (.tuple #[.string a,.string b,.bool p])=Ending.returned (.tuple #[.string a',.string b',.bool p']):=by rw [h1,h2,h3]
theorem cut1_any (s:ByteArray) (w:World) (hs:s.size<=4611686018427387904) :
  Calls Tryz.prog 208 #[.string s,.string ⟨#[46]⟩] w (CutEnd s w):=by
 have hge:=Lib.indexByte_ge (bl s) 46
 by_cases hneg:Lib.indexByte (bl s) 46=-1
 ·have hn:=zcE _ _ hneg
  obtain ⟨t1,t2,t3⟩:=tw_none (bl s) (fun x hx e=>hn (e▸hx))
  have HT:=yb (And.intro t1 (And.intro t2 t3))
  clear t1 t2 t3 hn hge
  go_enter Tryz.func208,Tryz.ntmps208
  go_wp2_with (go_at_call 210;refine (ze4 _ _).mono ?_;rintro e w' ⟨rfl,rfl⟩;rw [hneg])
  go_ret3
  exact ⟨s,⟨#[]⟩,ret_tup3 rfl rfl HT.out.2.2.symm,HT.out.1.symm,HT.out.2.1.symm,yp _,Nat.zero_le _,0,rfl⟩
 ·obtain ⟨i,hi⟩:=Int.eq_ofNat_of_zero_le (show 0<=Lib.indexByte (bl s) 46 by omega)
  obtain ⟨a,t,e1,e2,e3⟩:=zcD _ _ _ hi
  have hlen:=congrArg List.length e1
  rw [zaR] at hlen
  simp only [List.length_append,List.length_cons,e2] at hlen
  have hlt:i<s.size:=by omega
  obtain ⟨t1,t2,t3⟩:=tw_app a t (fun x hx e=>e3 (e▸hx))
  have h1:bl (s.extract 0 i)=zbr (bl s):=by rw [bl_to,e1,t1,<-e2];simp
  have h2:bl (s.extract (i+1) s.size)=zcd (bl s):=by
   rw [bl_from,e1,t2,<-e2,List.drop_append,Nat.add_sub_cancel_left,List.drop_of_length_le (by omega)];rfl
  have HT:=yb (And.intro h1 (And.intro h2 (show zdJ (bl s)=true by rw [e1];exact t3)))
  have HI:=yb hi
  clear t1 t2 t3 h1 h2 e1 e2 e3 hlen hge hi hneg
  go_enter Tryz.func208,Tryz.ntmps208
  go_wp2_with (go_at_call 210;refine (ze4 _ _).mono ?_;rintro e w' ⟨rfl,rfl⟩;rw [HI.out])
  go_quiet (fail)
  go_wp2
  go_ret3
  exact ⟨_,_,ret_tup3 rfl rfl HT.out.2.2.symm,HT.out.1,HT.out.2.1,by rw [ByteArray.size_extract];omega,by rw [ByteArray.size_extract];omega,_,rfl⟩
theorem cut_any (s:ByteArray) (w:World) (hs:s.size<=4611686018427387904) :
  Calls Tryz.prog 197 #[.string s,.string ⟨#[46]⟩] w (CutEnd s w):=by
 have HC:=yb (fun W=>cut1_any s W hs)
 go_enter Tryz.func197,Tryz.ntmps197
 go_wp2_with (go_at_call 208;refine (HC.out _).mono ?_;rintro e w' ⟨W,R,rfl,h1,h2,h3,h4,q,rfl⟩;have H1:=yb h1;have H2:=yb h2;clear h1 h2)
 go_ret3
 exact ⟨W,R,rfl,H1.out,H2.out,h3,h4,q,rfl⟩
def hd1 (s:ByteArray) (c:UInt8):Bool:=decide ((bl s).head?=some c)
theorem pre1_any (s:ByteArray) (c:UInt8) (w:World) (hs:s.size<=4611686018427387904) :
  Calls Tryz.prog 151 #[.string s,.string ⟨#[c]⟩] w fun e w'=>e=.returned (.bool (hd1 s c))/\w=w':=by
 by_cases h0:0<s.size
 ·have hx:(s.extract 0 1).toList=[s[0]]:=by
   rw [toL,bl_to]
   have:=zcQ s 0 h0
   simpa using this
  have HV:=yb (show hd1 s c=(s[0]==c) by
   unfold hd1
   have h1:=bl_drop s 0 h0
   rw [List.drop_zero] at h1
   rw [h1,List.head?_cons,Bool.eq_iff_iff]
   simp)
  have h1:(1:Int)<=s.size:=by omega
  have h1d:decide (1<=s.size)=true:=yd (by omega)
  go_enter Tryz.func151,Tryz.ntmps151
  go_wp2
  go_ret
  exact ⟨zbp HV.out.symm,rfl⟩
 ·have h1:¬(1:Int)<=s.size:=by omega
  have h1d:decide ((1:Int)<=s.size)=false:=by simpa using h1
  have h1e:decide (1<=s.size)=false:=ye (by omega)
  have HV:=yb (show hd1 s c=false by
   unfold hd1
   have h1:bl s=[]:=List.eq_nil_of_length_eq_zero (by rw [zaR];omega)
   rw [h1];rfl)
  go_enter Tryz.func151,Tryz.ntmps151
  go_wp2
  go_ret
  exact ⟨zbp HV.out.symm,rfl⟩
theorem ze3 (s:ByteArray) (c:UInt8) (w:World) (hs:s.size<=4611686018427387904) :
  Calls Tryz.prog 116 #[.string s,.string ⟨#[c]⟩] w fun e w'=>e=.returned (.bool (hd1 s c))/\w=w':=by
 have HC:=yb (fun W=>pre1_any s c W hs)
 go_enter Tryz.func116,Tryz.ntmps116
 go_wp2_with (go_at_call 151;refine (HC.out _).mono ?_;rintro e w' ⟨rfl,rfl⟩)
 go_ret
 exact ⟨rfl,rfl⟩
def spI (x:Int):Bool:=decide (x=0\/x=9\/x=10\/x=12\/x=13\/x=32)
def dlI (x:Int):Bool:=decide (x=40\/x=41\/x=60\/x=62\/x=91\/x=93\/x=123\/x=125\/x=47\/x=37)
theorem zcL (c:UInt8) (n:Nat) (hn:n<256):c=UInt8.ofNat n↔(c.toNat:Int)=(n:Int):=by
 constructor
 ·rintro rfl;rw [UInt8.toNat_ofNat'];omega
 ·intro h;apply UInt8.toNat_inj.1;rw [UInt8.toNat_ofNat'];omega
theorem spI_eq (c:UInt8):isSp c=spI c.toNat:=by
 unfold isSp spI
 rw [Bool.eq_iff_iff]
 simp only [Bool.or_eq_true,beq_iff_eq,decide_eq_true_iff,or_assoc]
 rw [show c=0↔_ from zcL c 0 (by omega),show c=9↔_ from zcL c 9 (by omega),show c=10↔_ from zcL c 10 (by omega),show c=12↔_ from zcL c 12 (by omega),show c=13↔_ from zcL c 13 (by omega),show c=32↔_ from zcL c 32 (by omega)]
 rfl
theorem dlI_eq (c:UInt8):isDl c=dlI c.toNat:=by
 unfold isDl dlI
 rw [Bool.eq_iff_iff]
 simp only [Bool.or_eq_true,beq_iff_eq,decide_eq_true_iff,or_assoc]
 rw [show c=40↔_ from zcL c 40 (by omega),show c=41↔_ from zcL c 41 (by omega),show c=60↔_ from zcL c 60 (by omega),show c=62↔_ from zcL c 62 (by omega),show c=91↔_ from zcL c 91 (by omega),show c=93↔_ from zcL c 93 (by omega),show c=123↔_ from zcL c 123 (by omega),show c=125↔_ from zcL c 125 (by omega),show c=47↔_ from zcL c 47 (by omega),show c=37↔_ from zcL c 37 (by omega)]
 rfl
def rgI (x:Int):Bool:=!spI x&&!dlI x
theorem rgI_eq (c:UInt8):isRg c=rgI c.toNat:=by unfold isRg rgI;rw [spI_eq,dlI_eq]
def hexI (x:Int):Int:=if 48<=x/\x<=57 then x-48 else if 97<=x/\x<=102 then x-87 else if 65<=x/\x<=70 then x-55 else -1
theorem hexI_eq (c:UInt8):hexD c=hexI c.toNat:=by
 unfold hexD hexI
 repeat' split
 all_goals omega
theorem sp_136 (x:Int) (w:World):Calls Tryz.prog 136 #[.int .u8 x] w fun e w'=>e=.returned (.bool (spI x))/\w=w':=by
 obtain ⟨V,hV⟩:∃V,V=spI x:=⟨_,rfl⟩
 rw [<-hV]
 have HV:=yb hV
 clear hV
 by_cases h:x=0\/x=9\/x=10\/x=12\/x=13\/x=32
 ·have HL:=yb (show V=true by rw [HV.out];exact yd h)
  rcases h with rfl|rfl|rfl|rfl|rfl|rfl
  all_goals
   go_enter Tryz.func136,Tryz.ntmps136
   go_wp2
   go_ret
   exact ⟨zbp HL.out.symm,rfl⟩
 ·have HL:=yb (show V=false by rw [HV.out];exact ye h)
  have e0:(x==0)=false:=by rw [yf];omega
  have e1:(x==9)=false:=by rw [yf];omega
  have e2:(x==10)=false:=by rw [yf];omega
  have e3:(x==12)=false:=by rw [yf];omega
  have e4:(x==13)=false:=by rw [yf];omega
  have e5:(x==32)=false:=by rw [yf];omega
  clear h
  go_enter Tryz.func136,Tryz.ntmps136
  go_wp2
  go_ret
  exact ⟨zbp HL.out.symm,rfl⟩
theorem zdn (x:Int) (w:World):Calls Tryz.prog 136 #[.int .u8 x] w fun e w'=>e=.returned (.bool (spI x))/\w=w':=sp_136 x w
theorem rdelim_any (x:Int) (w:World):Calls Tryz.prog 82 #[.int .u8 x] w fun e w'=>e=.returned (.bool (dlI x))/\w=w':=by
 obtain ⟨V,hV⟩:∃V,V=dlI x:=⟨_,rfl⟩
 rw [<-hV]
 have HV:=yb hV
 clear hV
 by_cases h:x=40\/x=41\/x=60\/x=62\/x=91\/x=93\/x=123\/x=125\/x=47\/x=37
 ·have HL:=yb (show V=true by rw [HV.out];exact yd h)
  rcases h with rfl|rfl|rfl|rfl|rfl|rfl|rfl|rfl|rfl|rfl
  all_goals
   go_enter Tryz.func82,Tryz.ntmps82
   go_wp2
   go_ret
   exact ⟨zbp HL.out.symm,rfl⟩
 ·have HL:=yb (show V=false by rw [HV.out];exact ye h)
  have e0:(x==40)=false:=by rw [yf];omega
  have e1:(x==41)=false:=by rw [yf];omega
  have e2:(x==60)=false:=by rw [yf];omega
  have e3:(x==62)=false:=by rw [yf];omega
  have e4:(x==91)=false:=by rw [yf];omega
  have e5:(x==93)=false:=by rw [yf];omega
  have e6:(x==123)=false:=by rw [yf];omega
  have e7:(x==125)=false:=by rw [yf];omega
  have e8:(x==47)=false:=by rw [yf];omega
  have e9:(x==37)=false:=by rw [yf];omega
  clear h
  go_enter Tryz.func82,Tryz.ntmps82
  go_wp2
  go_ret
  exact ⟨zbp HL.out.symm,rfl⟩
theorem dl_idx (c:UInt8):decide (0<=Lib.indexByte [40,41,60,62,91,93,123,125,47,37] c)=dlI c.toNat:=by
 rw [<-dlI_eq]
 have hg:=Lib.indexByte_ge [40,41,60,62,91,93,123,125,47,37] c
 by_cases h:Lib.indexByte [40,41,60,62,91,93,123,125,47,37] c=-1
 ·have:=zcE _ _ h
  rw [h]
  simp at this
  simp [isDl,this]
 ·obtain ⟨i,hi⟩:=Int.eq_ofNat_of_zero_le (show 0<=Lib.indexByte [40,41,60,62,91,93,123,125,47,37] c by omega)
  obtain ⟨a,t,e,-,-⟩:=zcD _ _ _ hi
  have hm:c∈([40,41,60,62,91,93,123,125,47,37]:List UInt8):=by rw [e];simp
  rw [hi,yd (by omega)]
  simp at hm
  rcases hm with rfl|rfl|rfl|rfl|rfl|rfl|rfl|rfl|rfl|rfl<;>rfl
theorem u8_back (c:UInt8):((c.toNat:Int)).toNat.toUInt8=c:=by simp
theorem delim_any (c:UInt8) (w:World):Calls Tryz.prog 132 #[.int .u8 c.toNat] w fun e w'=>e=.returned (.bool (dlI c.toNat))/\w=w':=by
 have HV:=yb (dl_idx c)
 have hS:=fun W=>zdd ⟨#[40,41,60,62,91,93,123,125,47,37]⟩ (c.toNat:Int) W
 rw [u8_back] at hS
 have hS2:∀W,Calls Tryz.prog 121 #[.string ⟨#[40,41,60,62,91,93,123,125,47,37]⟩,.int .u8 c.toNat] W fun e w'=>e=.returned (.int .i64 (Lib.indexByte [40,41,60,62,91,93,123,125,47,37] c))/\W=w':=hS
 have HS:=yb hS2
 clear hS hS2
 generalize dlI c.toNat=V at *
 generalize Lib.indexByte [40,41,60,62,91,93,123,125,47,37] c=I at *
 go_enter Tryz.func132,Tryz.ntmps132
 go_wp2_with (go_at_call 121;refine (HS.out _).mono ?_;rintro e w' ⟨rfl,rfl⟩)
 go_ret
 exact ⟨zbp HV.out,rfl⟩
theorem zeE (c:UInt8) (w:World):Calls Tryz.prog 161 #[.int .u8 c.toNat] w fun e w'=>e=.returned (.bool (rgI c.toNat))/\w=w':=by
 have HV:=yb (show rgI c.toNat=(!spI c.toNat&&!dlI c.toNat) from rfl)
 have HS:=yb (fun W=>zdn c.toNat W)
 have HD:=yb (fun W=>delim_any c W)
 generalize dlI c.toNat=b at *
 generalize spI c.toNat=a at *
 generalize rgI c.toNat=V at *
 cases a
 all_goals
  go_enter Tryz.func161,Tryz.ntmps161
  go_wp2_with (first
   |(go_at_call 136;refine (HS.out _).mono ?_;rintro e w' ⟨rfl,rfl⟩)
   |(go_at_call 132;refine (HD.out _).mono ?_;rintro e w' ⟨rfl,rfl⟩))
  go_ret
  exact ⟨zbp (by rw [HV.out];rfl),rfl⟩
theorem hx_187 (x:Int) (w:World) (h0:0<=x) (h1:x<=255):Calls Tryz.prog 187 #[.int .u8 x] w fun e w'=>e=.returned (.int .i64 (hexI x))/\w=w':=by
 obtain ⟨V,hV⟩:∃V,V=hexI x:=⟨_,rfl⟩
 rw [<-hV]
 unfold hexI at hV
 have d48:∀b,decide (48<=x)=b->decide (48<=x)=b:=fun _ h=>h
 by_cases ha:48<=x
 ·by_cases hb:x<=57
  ·rw [yg ⟨ha,hb⟩] at hV
   have HV:=yb hV
   clear hV
   go_enter Tryz.func187,Tryz.ntmps187
   go_wp2
   go_ret
   exact ⟨zaI (by rw [HV.out]),rfl⟩
  ·rw [yh (by omega)] at hV
   have hbd:decide (x<=57)=false:=by simpa using hb
   by_cases hc:97<=x
   ·by_cases hd:x<=102
    ·rw [yg ⟨hc,hd⟩] at hV
     have HV:=yb hV
     clear hV hb
     go_enter Tryz.func187,Tryz.ntmps187
     go_wp2
     go_ret
     exact ⟨zaI (by have:=HV.out;omega),rfl⟩
    ·rw [yh (by omega),yh (by omega)] at hV
     have hdd:decide (x<=102)=false:=by simpa using hd
     have he:65<=x:=by omega
     have hfd:decide (x<=70)=false:=by simp;omega
     have HV:=yb hV
     clear hV hb hd
     go_enter Tryz.func187,Tryz.ntmps187
     go_wp2
     go_ret
     exact ⟨zaI (by rw [HV.out]),rfl⟩
   ·rw [yh (by omega)] at hV
    have hcd:decide (97<=x)=false:=by simpa using hc
    by_cases he:65<=x
    ·by_cases hf:x<=70
     ·rw [yg ⟨he,hf⟩] at hV
      have HV:=yb hV
      clear hV hb hc
      go_enter Tryz.func187,Tryz.ntmps187
      go_wp2
      go_ret
      exact ⟨zaI (by have:=HV.out;omega),rfl⟩
     ·rw [yh (by omega)] at hV
      have hfd:decide (x<=70)=false:=by simpa using hf
      have HV:=yb hV
      clear hV hb hc hf
      go_enter Tryz.func187,Tryz.ntmps187
      go_wp2
      go_ret
      exact ⟨zaI (by rw [HV.out]),rfl⟩
    ·rw [yh (by omega)] at hV
     have hed:decide (65<=x)=false:=by simpa using he
     have HV:=yb hV
     clear hV hb hc he
     go_enter Tryz.func187,Tryz.ntmps187
     go_wp2
     go_ret
     exact ⟨zaI (by rw [HV.out]),rfl⟩
 ·rw [yh (by omega),yh (by omega),yh (by omega)] at hV
  have had:decide (48<=x)=false:=by simpa using ha
  have hcd:decide (97<=x)=false:=ye (by omega)
  have hed:decide (65<=x)=false:=ye (by omega)
  have HV:=yb hV
  clear hV ha d48
  go_enter Tryz.func187,Tryz.ntmps187
  go_wp2
  go_ret
  exact ⟨zaI (by rw [HV.out]),rfl⟩
theorem hex_any (c:UInt8) (w:World):Calls Tryz.prog 187 #[.int .u8 c.toNat] w fun e w'=>e=.returned (.int .i64 (hexD c))/\w=w':=by
 rw [hexI_eq];exact hx_187 _ w (by omega) (by have:=c.toNat_lt;omega)
def u8C (b:UInt8):Value:=.int .u8 b.toNat
structure Src where
 a:Option Addr
 cap:Nat
 bs:List UInt8
 yq:Bool
def scV (X:Src) (ad v:Value) (k:Nat):Array Value:=#[ad,v,.slice X.a X.bs.length X.cap,.int .i64 k,.bool X.yq]
structure IsSc (w:World) (S:Nat->Prop) (p:Nat) (X:Src) (out:List UInt8) (k:Nat) (ad v:Value):Prop where
 blk:w.heap[p]?=some (.cells (scV X ad v k) 192 (0,0))
 ad_:ad=.pointer none\/ad=.pointer (some ⟨p,0,none⟩)
 row:w.ownsRow (p+1) 5 1 v out.length (out.map u8C)
 at_:∀b,v.ownBlock=some b->S b
 own:S p
 lt:∀b,S b->p<=b/\b<w.heap.size
 src:Row w 1 X.a X.bs.length X.cap (X.bs.map u8C)
 srcb:∀x,X.a=some x->x.block<p
 le:k<=X.bs.length
 small:X.bs.length<=400000
 outl:out.length<=k
 nil_:out=[]->v=.slice none 0 0
def ScQ (w:World) (S:Nat->Prop) (p:Nat) (X:Src) (out:List UInt8) (k:Nat):Prop:=∃ad v,IsSc w S p X out k ad v
def zam (w:World) (S:Nat->Prop) (p:Nat) (X:Src) (out:List UInt8) (k:Nat) (w':World):Prop:=∃S',ScQ w' S' p X out k/\zaf S w w'/\∀b,S' b->S b\/w.heap.size<=b
theorem zam.refl {w:World} {S:Nat->Prop} {p:Nat} {X:Src} {out:List UInt8} {k:Nat} (h:ScQ w S p X out k):zam w S p X out k w:=⟨S,h,zaf.refl _ _,fun _ h=>.inl h⟩
theorem zam.trans {w w1 w2:World} {S S1:Nat->Prop} {p:Nat} {X:Src} {out:List UInt8} {k:Nat} (hk:zaf S w w1) (hs:∀b,S1 b->S b\/w.heap.size<=b) (h2:zam w1 S1 p X out k w2):zam w S p X out k w2:=by
 obtain ⟨S2,q,k2,s⟩:=h2
 exact ⟨S2,q,hk.trans k2 hs,fun b hb=>(s b hb).elim (hs b) (fun h=>.inr (Nat.le_trans hk.size h))⟩
theorem IsSc.keep {w w':World} {S:Nat->Prop} {p:Nat} {X:Src} {out:List UInt8} {k:Nat} {ad v:Value} (h:IsSc w S p X out k ad v) (hb:Below w.heap.size w w'):IsSc w' S p X out k ad v :=
 ⟨zaa hb h.blk,h.ad_,zaS h.row hb,h.at_,h.own,fun b hS=>⟨(h.lt b hS).1,Nat.lt_of_lt_of_le (h.lt b hS).2 hb.size⟩,h.src.mono hb,h.srcb,h.le,h.small,h.outl,h.nil_⟩
theorem ScQ.keep {w w':World} {S:Nat->Prop} {p:Nat} {X:Src} {out:List UInt8} {k:Nat} (h:ScQ w S p X out k) (hb:Below w.heap.size w w'):ScQ w' S p X out k:=by
 obtain ⟨ad,v,h⟩:=h;exact ⟨ad,v,h.keep hb⟩
theorem ScQ.drewN {w:World} {S:Nat->Prop} {p:Nat} {X:Src} {out:List UInt8} {k:Nat} (h:ScQ w S p X out k) (q:Nat):ScQ (w.drewN q) S p X out k:=h.keep (zad (Below.refl _ _) q)
theorem IsSc.cells {w:World} {S:Nat->Prop} {p:Nat} {X:Src} {out:List UInt8} {k:Nat} {ad v:Value} (h:IsSc w S p X out k ad v) :
  w.cell? ⟨p,0,none⟩=some ad/\w.cell? ⟨p,1,none⟩=some v/\w.cell? ⟨p,2,none⟩=some (.slice X.a X.bs.length X.cap)/\w.cell? ⟨p,3,none⟩=some (.int .i64 k)/\w.cell? ⟨p,4,none⟩=some (.bool X.yq):=by
 refine ⟨?_,?_,?_,?_,?_⟩<;>(rw [cell_of_row w p _ _ _ _ h.blk];rfl)
theorem IsSc.free {w:World} {S:Nat->Prop} {p:Nat} {X:Src} {out:List UInt8} {k:Nat} {ad v:Value} (h:IsSc w S p X out k ad v) (j:Nat):w.frozen? ⟨p,j,none⟩=false:=frozen_of_row w p j _ _ h.blk
theorem IsSc.byte {w:World} {S:Nat->Prop} {p:Nat} {X:Src} {out:List UInt8} {k:Nat} {ad v:Value} (h:IsSc w S p X out k ad v) (hk:k<X.bs.length) :
  ∃b off,X.a=some ⟨b,off,none⟩/\w.cell? ⟨b,off+k,none⟩=some (u8C (X.bs.getD k 0)):=by
 obtain ⟨b,off,ha,_,hc⟩:=h.src.at 0 k hk
 exact ⟨b,off,ha,hc k hk⟩
theorem IsSc.move {w:World} {S:Nat->Prop} {p:Nat} {X:Src} {out:List UInt8} {k:Nat} {ad v:Value} (h:IsSc w S p X out k ad v) (k':Nat) (hk:k'<=X.bs.length) (hk2:k<=k'):zam w S p X out k' (w.setCell ⟨p,3,none⟩ (.int .i64 k')):=by
 have hb:w.heap[p]?=some (.cells (scV X ad v k) 192 (0,0)):=h.blk
 have hp:=(h.lt p h.own).2
 refine ⟨S,⟨ad,v,⟨?_,h.ad_,?_,h.at_,h.own,fun b hS=>by have:=h.lt b hS;simpa using this,?_,h.srcb,hk,h.small,by have:=h.outl;omega,h.nil_⟩⟩,(zaf.refl S w).setCell (.inl h.own) _,fun _ hS=>.inl hS⟩
 ·rw [heap_setCell_same _ _ 3 _ _ _ hb];rfl
 ·exact ownsRow_setCell_other h.row (a:=⟨p,3,none⟩) (fun e=>by have:=(h.row.lt p e).1;omega) _
 ·exact h.src.keeps (S:=fun b=>b=p) ((zaf.refl (fun b=>b=p) w).setCell (a:=⟨p,3,none⟩) (.inl rfl) _) (fun x hx e=>by have:=h.srcb x hx;omega)
def zec (X:Src) (k:Nat):Value:=if k<X.bs.length then .tuple #[u8C (X.bs.getD k 0),.bool true] else .tuple #[.int .u8 0,.bool false]
theorem zco {w:World} {S:Nat->Prop} {p:Nat} {X:Src} {out:List UInt8} {k:Nat} (h:ScQ w S p X out k) :
  Calls Tryz.prog 182 #[.pointer (some ⟨p,0,none⟩)] w fun e w'=>e=.returned (zec X k)/\∃q,w'=w.drewN q:=by
 obtain ⟨ad,v,h⟩:=h
 obtain ⟨c0,c1,c2,c3,c4⟩:=h.cells
 have hsm:=h.small
 have hle:=h.le
 obtain ⟨V,hV⟩:∃V,V=zec X k:=⟨_,rfl⟩
 rw [<-hV]
 unfold zec at hV
 by_cases hk:k<X.bs.length
 ·obtain ⟨b,off,ha,hc⟩:=h.byte hk
  rw [yg hk] at hV
  have HV:=yb hV
  rw [ha] at c2
  unfold u8C at hc HV
  generalize (X.bs.getD k 0).toNat=x at *
  generalize X.bs.length=n at *
  have hkd:decide ((n:Int)<=k)=false:=ye (by omega)
  have hki:(k:Int)<n:=by omega
  clear hV h ha
  go_enter Tryz.func182,Tryz.ntmps182
  go_wp2
  go_quiet (fail)
  go_wp2
  go_quiet (fail)
  go_wp2
  go_ret2
  exact ⟨by rw [HV.out];rfl,by simp only [World.drewN_drewN];exact ⟨_,rfl⟩⟩
 ·rw [yh hk] at hV
  have HV:=yb hV
  generalize X.bs.length=n at *
  have hkd:decide ((n:Int)<=k)=true:=yd (by omega)
  clear hV h
  go_enter Tryz.func182,Tryz.ntmps182
  go_wp2
  go_quiet (fail)
  go_wp2
  go_ret2
  exact ⟨by rw [HV.out];rfl,_,rfl⟩
theorem zdb {w:World} {S:Nat->Prop} {p:Nat} {X:Src} {out:List UInt8} {k:Nat} (h:ScQ w S p X out k) :
  Calls Tryz.prog 183 #[.pointer (some ⟨p,0,none⟩)] w fun e w'=>e=.returned (.int .i64 (zbz X.yq))/\w=w':=by
 obtain ⟨ad,v,h⟩:=h
 obtain ⟨-,-,-,-,c4⟩:=h.cells
 have HV:=yb (show zbz X.yq=if X.yq=true then 10 else 6 by unfold zbz;cases X.yq<;>rfl)
 clear h
 generalize zbz X.yq=V at *
 generalize X.yq=l at *
 cases l
 all_goals
  go_enter Tryz.func183,Tryz.ntmps183
  go_wp2
  go_ret
  exact ⟨zaI (by rw [HV.out];rfl),rfl⟩
theorem infoBuilder:(Tryz.prog.info? 107).map (·.size)=some 2:=by kernel_rfl
theorem liesBuilder:liesAt Tryz.prog Tryz.prog.depth 192 (5 / Tryz.prog.cellsOf 192) 0 107 1=true:=by kernel_rfl
theorem EByte:zeX Tryz.prog 28 5 (.int .u8 0) 1 1:=⟨Tryz.underlying28,by kernel_rfl,rfl,by omega⟩
theorem cellsByte:Tryz.prog.cellsOf 5=1:=by kernel_rfl
def Chk (w:World) (S:Nat->Prop) (p:Nat) (X:Src) (out:List UInt8) (k:Nat) (v:Value) (e:Ending) (w':World):Prop :=
 e=.returned (.tuple #[])/\IsSc w' S p X out k (.pointer (some ⟨p,0,none⟩)) v/\zaf S w w'/\w'.heap.size=w.heap.size
theorem IsSc.mark {w:World} {S:Nat->Prop} {p:Nat} {X:Src} {out:List UInt8} {k:Nat} {ad v:Value} (h:IsSc w S p X out k ad v) :
  IsSc (w.setCell ⟨p,0,none⟩ (.pointer (some ⟨p,0,none⟩))) S p X out k (.pointer (some ⟨p,0,none⟩)) v:=by
 have hp:=(h.lt p h.own).2
 refine ⟨?_,.inr rfl,ownsRow_setCell_other h.row (a:=⟨p,0,none⟩) (fun e=>by have:=(h.row.lt p e).1;omega) _,h.at_,h.own,fun b hS=>by have:=h.lt b hS;simpa using this,?_,h.srcb,h.le,h.small,h.outl,h.nil_⟩
 ·rw [heap_setCell_same _ _ 0 _ _ _ h.blk];rfl
 ·exact h.src.keeps (S:=fun b=>b=p) ((zaf.refl (fun b=>b=p) w).setCell (a:=⟨p,0,none⟩) (.inl rfl) _) (fun x hx e=>by have:=h.srcb x hx;omega)
set_option maxRecDepth 100000 in
theorem zfL {w:World} {S:Nat->Prop} {p:Nat} {X:Src} {out:List UInt8} {k:Nat} {ad v:Value} (h:IsSc w S p X out k ad v) :
  Calls Tryz.prog 128 #[.pointer (some ⟨p,0,none⟩)] w (Chk w S p X out k v):=by
 obtain ⟨j,hj,hjs⟩:=Option.map_eq_some_iff.1 infoBuilder
 obtain ⟨c0,-⟩:=h.cells
 have hfz:=h.free 0
 have hsh:w.shape? p=some (192,5):=by have:=h.blk;simp [World.shape?,this,scV]
 rcases h.ad_ with rfl|rfl
 ·have HM:=yb h.mark
  have HK:=yb ((zaf.refl S w).setCell (a:=⟨p,0,none⟩) (.inl h.own) (.pointer (some ⟨p,0,none⟩)))
  clear h
  go_enter Tryz.func128,Tryz.ntmps128
  go_wp2
  rw [Lib.run_to_unsafe w ⟨p,0,none⟩ Tryz.underlying105 Tryz.underlying209 hj (by rw [hjs];decide) hsh (Nat.succ_pos 4)]
  simp only [Result.andThen]
  rw [Oper.upon_value]
  go_wp2
  rw [run_callFunc_extern Tryz.func156 (by kernel_rfl) (by kernel_rfl) (by kernel_rfl) (e:=Extern.AbiNoEscape.same) (by kernel_rfl)]
  rw [Lib.run_noEscape]
  simp only [Result.andThen]
  rw [Oper.upon_value]
  go_wp2
  rw [Lib.run_from_unsafe w ⟨p,0,none⟩ Tryz.underlying209 Tryz.underlying105 hj hsh liesBuilder]
  simp only [Result.andThen]
  rw [Oper.upon_value]
  go_wp2
  go_end0
  exact ⟨rfl,HM.out,HK.out,by simp⟩
 ·have HM:=yb h
  clear h
  go_enter Tryz.func128,Tryz.ntmps128
  go_wp2
  rw [Lib.run_neq_ptr_same w _ Tryz.underlying105 hj]
  go_wp2
  go_end0
  exact ⟨rfl,HM.out,zaf.refl _ _,rfl⟩
theorem IsSc.put {w w2:World} {S:Nat->Prop} {p:Nat} {X:Src} {out:List UInt8} {k:Nat} {v v':Value} (c:UInt8) (hk:out.length<k) (h:IsSc w S p X out k (.pointer (some ⟨p,0,none⟩)) v) (o:Obj)
  (hr:w2.ownsRow (p+1) 5 1 v' (out.length+1) (out.map u8C++[u8C c])) (hg:(w.alloc o).grownBy w2 v.ownBlock) (hn:NewAt (w.alloc o) v v') :
  zam w S p X (out++[c]) k (w2.setCell ⟨p,1,none⟩ v'):=by
 have hp:=(h.lt p h.own).2
 have hvb:∀b,v.ownBlock=some b->p<b:=fun b hb=>(h.row.lt b hb).1
 have h1:w2.heap[p]?=some (.cells (scV X (.pointer (some ⟨p,0,none⟩)) v k) 192 (0,0)) :=
  (hg.block p (by rw [zaq];omega) (fun e=>by have:=hvb p e.symm;omega)).trans ((Below.heap_alloc w o p hp).trans h.blk)
 have hk1:zaf S w w2:=((zaf.refl S w).alloc o).grown hg (fun k hk=>.inl (h.at_ k hk))
 have hk2:=hk1.setCell (a:=⟨p,1,none⟩) (.inl h.own) v'
 have hsz:=hk2.size
 refine ⟨fun b=>S b\/(p<=b/\w.heap.size<=b/\b<(w2.setCell ⟨p,1,none⟩ v').heap.size),⟨.pointer (some ⟨p,0,none⟩),v',⟨?_,.inr rfl,?_,fun b hb=>?_,.inl h.own,fun b hb=>?_,?_,h.srcb,h.le,h.small,by simp;omega,fun e=>by simp at e⟩⟩,hk2,fun b hb=>?_⟩
 ·rw [heap_setCell_same _ _ 1 _ _ _ h1];rfl
 ·have:=ownsRow_setCell_other hr (a:=⟨p,1,none⟩) (fun e=>by have:=(hr.lt p e).1;omega) v'
  simpa using this
 ·have hlt:=(hr.lt b hb)
  rcases hn b hb with h2|h2
  ·exact .inl (h.at_ b h2)
  ·rw [zaq] at h2
   exact .inr ⟨by omega,by omega,by simpa using hlt.2⟩
 ·rcases hb with hb|hb
  ·have:=h.lt b hb;omega
  ·exact ⟨hb.1,hb.2.2⟩
 ·exact h.src.keeps hk2 (fun x hx e=>by have h1:=h.srcb x hx;have h2:=(h.lt x.block e).1;omega)
 ·rcases hb with hb|hb
  ·exact .inl hb
  ·exact .inr hb.2.1
set_option maxRecDepth 100000 in
theorem zaN {w:World} {S:Nat->Prop} {p:Nat} {X:Src} {out:List UInt8} {k:Nat} (h:ScQ w S p X out k) (c:UInt8) (x:Int) (hx:x=(c.toNat:Int)) (hk:out.length<k) :
  Calls Tryz.prog 96 #[.pointer (some ⟨p,0,none⟩),.int .u8 x] w fun e w'=>e=.returned .nilIface/\zam w S p X (out++[c]) k w':=by
 obtain ⟨ad,v,h⟩:=h
 have HC:=yb (zfL h)
 unfold Chk at HC
 have hXC:Value.int .u8 x=u8C c:=by rw [hx];rfl
 have HX:=yb hXC
 have hsm:=h.small
 have hle:=h.le
 have hol:=h.outl
 clear h hx hXC
 go_enter Tryz.func96,Tryz.ntmps96
 go_wp2_with fail
 refine HC.out.mono ?_
 rintro e w1 ⟨rfl,h1,hk1,hs1⟩
 have H1:=yb h1
 have HK1:=yb hk1
 have HS1:=yb hs1
 obtain ⟨-,c1,-⟩:=h1.cells
 have hf1:=h1.free 1
 have hp1:=(h1.lt p h1.own).2
 clear h1 hk1 hs1
 go_wp2_with (at_builtin;refine zeO EByte rfl (.tmp 11) (.tmp 13) rfl (p+1) _ out.length _ rfl (H1.out.row.alloc _) _ 1 _ _ rfl (zdh _ _ _) (zeZ rfl) (by unfold maxLen;omega) (by omega) (by rw [zaq];omega) ?_;intro v' w2 hO2 hg2 hn2;obtain ⟨a',cap',hv',-⟩:=Row.of_owns hO2;subst hv';rw [HX.out] at hO2;have HN:=yb (H1.out.put c hk _ hO2 hg2 hn2);have hp2:p<w2.heap.size:=(by have:=hg2.size;rw [zaq] at this;omega);have hfz2:w2.frozen? ⟨p,1,none⟩=false:=(frozen_of_row w2 p 1 _ _ ((hg2.block p (by rw [zaq];omega) (fun e=>by have:=(H1.out.row.lt p e.symm).1;omega)).trans ((Below.heap_alloc w1 _ p hp1).trans H1.out.blk)));have hc2:w2.cell? ⟨p,1,none⟩=some v:=((cell_of_row w2 p 1 _ _ _ ((hg2.block p (by rw [zaq];omega) (fun e=>by have:=(H1.out.row.lt p e.symm).1;omega)).trans ((Below.heap_alloc w1 _ p hp1).trans H1.out.blk))).trans rfl);clear hO2 hg2 hn2)
 go_ret
 exact ⟨rfl,zam.trans HK1.out (fun b hb=>.inl hb) HN.out⟩
theorem zdX {S:Nat->Prop} {w:World} {a:Addr} (h:S a.block) (n:Nat):zaf S w (w.freeze a n):=by
 unfold World.freeze
 split
 ·exact zaf.refl _ _
 ·exact ⟨rfl,rfl,rfl,by simp,fun b _ hn=>by
   simp only [Array.getElem?_modify]
   rw [yh (fun e:a.block=b=>hn (e▸h))]⟩
set_option maxRecDepth 100000 in
theorem zdE {w:World} {S:Nat->Prop} {p:Nat} {X:Src} {out:List UInt8} {k:Nat} (h:ScQ w S p X out k) :
  Calls Tryz.prog 55 #[.pointer (some ⟨p,0,none⟩)] w fun e w'=>e=.returned (.string (mkB out))/\zaf S w w'/\w'.heap[p]?=w.heap[p]?:=by
 obtain ⟨ad,v,h⟩:=h
 obtain ⟨-,c1,-⟩:=h.cells
 by_cases h0:out=[]
 ·have hv:=h.nil_ h0
  subst h0
  subst hv
  have hUS:=fun (W:World) (q:Option Addr)=>Lib.run_unsafeString_none (P:=Tryz.prog) W 158 3 9 q
  have c1':w.drew.cell? ⟨p,1,none⟩=some (.slice none 0 0):=c1
  have hSD:(Builtin.unsafeSliceData_ #[28] 158 #[.slice none 0 0]).run Tryz.prog w.drew=.ok (.pointer none) w.drew:=rfl
  have HK:=yb (show zaf S w w.drew/\w.drew.heap[p]?=w.heap[p]? from ⟨(zaf.refl S w).drewN 1,rfl⟩)
  clear h
  go_enter Tryz.func55,Tryz.ntmps55
  go_wp2
  go_region
  all_goals
   go_wp2
   go_ret
   exact ⟨rfl,HK.out⟩
 ·have hl0:out.length≠0:=by simpa using h0
  obtain ⟨g,cap,cur,rfl,hbg,hg,hnc,hcm,hcs,htake⟩:∃g cap cur,v=.slice (some ⟨g,0,none⟩) out.length cap/\p+1<=g/\w.heap[g]?=some (.cells cur 5 (0,0))/\out.length<=cap/\cap<=maxLen/\cur.size=cap*1/\cur.toList.take (out.length*1)=out.map u8C:=by
   rcases h.row.2 with ⟨_,hz⟩|⟨g,cap,cur,hv,r⟩
   ·exact absurd hz hl0
   ·exact ⟨g,cap,cur,hv,r⟩
  have c1':w.drew.cell? ⟨p,1,none⟩=some (.slice (some ⟨g,0,none⟩) out.length cap):=c1
  have hSD:(Builtin.unsafeSliceData_ #[28] 158 #[.slice (some ⟨g,0,none⟩) out.length cap]).run Tryz.prog w.drew=.ok (.pointer (some ⟨g,0,none⟩)) w.drew :=
   Lib.run_unsafeSliceData_row _ _ _ _ _ _ (by omega)
  have hUS:(Builtin.unsafeString_ #[158,3] 9 #[.pointer (some ⟨g,0,none⟩),.int .i64 out.length]).run Tryz.prog w.drew=.ok (.string ⟨out.toArray⟩) (w.drew.freeze ⟨g,0,none⟩ out.length):=by
   refine Lib.run_unsafeString_row w.drew 158 3 9 5 Tryz.underlying158 cellsByte g cur.size (by have hg':w.drew.heap[g]?=some (.cells cur 5 (0,0)):=hg;simp [World.shape?,hg']) out h0 (by omega) (by unfold maxLen at hcm;omega) ?_
   intro j x hx
   exact h.row.cells (g:=g) rfl j (u8C x) (by simp [hx])
  have HK:=yb (show zaf S w (w.drew.freeze ⟨g,0,none⟩ out.length)/\(w.drew.freeze ⟨g,0,none⟩ out.length).heap[p]?=w.heap[p]? from ⟨zaf.trans ((zaf.refl S w).drewN 1) (zdX (S:=S) (h.at_ g rfl) _) (fun _ hx=>.inl hx),((zdX (S:=fun b=>b=g) (w:=w.drew) (a:=⟨g,0,none⟩) rfl out.length).block p (h.lt p h.own).2 (fun e=>by omega)).trans rfl⟩)
  clear h htake hcs hg
  go_enter Tryz.func55,Tryz.ntmps55
  go_wp2
  go_region
  all_goals
   go_wp2
   go_ret
   exact ⟨rfl,HK.out⟩
def zdQ (w:World) (S:Nat->Prop) (p:Nat) (X:Src) (V:Option (List UInt8×Nat)) (e:Ending) (w':World):Prop :=
 match V with
 | none=>e=.returned (.bool false)/\∃out k,zam w S p X out k w'
 | some (out,k)=>e=.returned (.bool true)/\zam w S p X out k w'
theorem zaZ {l:List UInt8} {k:Nat} (h:k<l.length):l.drop k=l.getD k 0::l.drop (k+1):=by rw [List.drop_eq_getElem_cons h];simp [List.getD,h]
theorem zbU {l:List UInt8} {k:Nat} (h:¬k<l.length):l.drop k=[]:=List.drop_of_length_le (by omega)
theorem zam.drew {w:World} {S:Nat->Prop} {p:Nat} {X:Src} {out:List UInt8} {k:Nat} (q:Nat) {w':World} (h:zam (w.drewN q) S p X out k w'):zam w S p X out k w' :=
 zam.trans ((zaf.refl S w).drewN q) (fun _ h=>.inl h) h
theorem line_any {w:World} {S:Nat->Prop} {p:Nat} {X:Src} {out:List UInt8} {k:Nat} (h:ScQ w S p X out k) :
  Calls Tryz.prog 186 #[.pointer (some ⟨p,0,none⟩),.int .u8 13] w (zdQ w S p X ((zev X.yq (X.bs.drop k)).map fun j=>(out,k+j))):=by
 have hP:=zco h
 obtain ⟨V,hV⟩:∃V,V=(zev X.yq (X.bs.drop k)).map fun j=>(out,k+j):=⟨_,rfl⟩
 rw [<-hV]
 unfold zec at hP
 by_cases hk:k<X.bs.length
 ·rw [yg hk] at hP
  rw [zaZ hk] at hV
  simp only [zev,Option.map_some] at hV
  have HQ:=yb h
  have HP:=yb hP
  have hsm:X.bs.length<=400000:=by obtain ⟨_,_,h⟩:=h;exact h.small
  unfold u8C at HP
  by_cases h10:X.bs.getD k 0=10
  ·rw [yg h10] at hV
   have HV:=yb hV
   rw [h10] at HP
   clear hV hP h h10
   go_enter Tryz.func186,Tryz.ntmps186
   go_wp2_with fail
   refine HP.out.mono ?_
   rintro e w1 ⟨rfl,q,rfl⟩
   have h1:=HQ.out.drewN q
   obtain ⟨ad,v,h1⟩:=h1
   obtain ⟨-,-,-,c3,-⟩:=h1.cells
   have f3:=h1.free 3
   have HM:=yb (zam.drew q (h1.move (k+1) (by omega) (by omega)))
   clear h1
   go_wp2
   go_ret
   rw [HV.out]
   exact ⟨rfl,HM.out⟩
  ·rw [yh h10] at hV
   have HV:=yb hV
   have h10d:(((X.bs.getD k 0).toNat:Int)==10)=false:=by
    rw [yf];intro e;exact h10 (UInt8.toNat_inj.1 (Int.ofNat_inj.1 e))
   generalize (X.bs.getD k 0).toNat=x at *
   clear hV hP h h10
   go_enter Tryz.func186,Tryz.ntmps186
   go_wp2_with fail
   refine HP.out.mono ?_
   rintro e w1 ⟨rfl,q,rfl⟩
   have HN:=yb (zam.drew q (zam.refl (HQ.out.drewN q)))
   go_wp2
   go_ret
   rw [HV.out]
   exact ⟨rfl,HN.out⟩
 ·rw [yh hk] at hP
  rw [zbU hk] at hV
  simp only [zev] at hV
  have HV:=yb hV
  have HQ:=yb h
  have HP:=yb hP
  clear hV hP h hk
  obtain ⟨l,hl⟩:∃l,X.yq=l:=⟨_,rfl⟩
  rw [hl] at HV
  have HL:=yb hl
  clear hl
  cases l
  all_goals
   go_enter Tryz.func186,Tryz.ntmps186
   go_wp2_with fail
   refine HP.out.mono ?_
   rintro e w1 ⟨rfl,q,rfl⟩
   have h1:=HQ.out.drewN q
   have HN:=yb (zam.drew q (zam.refl h1))
   obtain ⟨ad,v,h1⟩:=h1
   obtain ⟨-,-,-,-,c4⟩:=h1.cells
   rw [HL.out] at c4
   clear h1
   go_wp2
   go_ret
   rw [HV.out]
  ·exact ⟨rfl,_,_,HN.out⟩
  ·exact ⟨rfl,HN.out⟩
def zdt (yq:Bool):Nat->Nat->List UInt8->Option (Nat×Nat)
 | 0,N,_=>some (N,0)
 | _+1,N,[]=>if yq then some (N,0) else none
 | m+1,N,d::t=>if isOc d=true then (zdt yq m (8*N+(d.toNat-48)) t).map (fun x=>(x.1,x.2+1)) else some (N,0)
theorem octV_go (yq:Bool) (c:UInt8) (l:List UInt8):octV yq c l=(zdt yq 2 (c.toNat-48) l).map fun x=>(x.1,x.2+1):=by
 cases l with
 | nil=>cases yq<;>rfl
 | cons d t =>
  by_cases hd:isOc d=true
  ·cases t with
   | nil=>cases yq<;>simp [octV,zdt,hd]
   | cons e u =>
    by_cases he:isOc e=true
    ·simp [octV,zdt,hd,he]
    ·simp [octV,zdt,hd,he]
  ·simp [octV,zdt,hd]
theorem zdo {c:UInt8}:isOc c=true↔48<=c.toNat/\c.toNat<=55:=by unfold isOc;simp
theorem zdc (N:Nat):IntKind.u8.wrap (N:Int)=((UInt8.ofNat N).toNat:Int):=by rw [IntKind.wrap_u8,UInt8.toNat_ofNat'];omega
theorem zfz {w w1 w2:World} {S S1:Nat->Prop} {p:Nat} {X:Src} {o2:List UInt8} {k2:Nat} (hk:zaf S w w1) (hs:∀b,S1 b->S b\/w.heap.size<=b) (hN:zam w1 S1 p X o2 k2 w2) (V:Option (List UInt8×Nat)) (hV:V=some (o2,k2)) :
  zdQ w S p X V (.returned (.bool true)) w2:=by
 subst hV
 exact ⟨rfl,zam.trans hk hs hN⟩
theorem octal_any {w:World} {S:Nat->Prop} {p:Nat} {X:Src} {out:List UInt8} {k:Nat} (h:ScQ w S p X out k) (c:UInt8) (hc:isOc c=true) (hk:out.length<k) :
  Calls Tryz.prog 200 #[.pointer (some ⟨p,0,none⟩),.int .u8 c.toNat] w (zdQ w S p X ((zdt X.yq 2 (c.toNat-48) (X.bs.drop k)).map fun x=>(out++[UInt8.ofNat x.1],k+x.2))):=by
 obtain ⟨V,hV⟩:∃V,V=(zdt X.yq 2 (c.toNat-48) (X.bs.drop k)).map fun x=>(out++[UInt8.ofNat x.1],k+x.2):=⟨_,rfl⟩
 rw [<-hV]
 have hc2:=zdo.1 hc
 have HV:=yb hV
 have HN:=yb (zam.refl h)
 have hsm:X.bs.length<=400000:=by obtain ⟨_,_,h⟩:=h;exact h.small
 obtain ⟨n0,hn0⟩:∃n0,n0=c.toNat-48:=⟨_,rfl⟩
 have hci:(c.toNat:Int)=(n0:Int)+48:=by omega
 have hn7:n0<=7:=by omega
 rw [<-hn0] at HV
 rw [hci]
 clear hV h hc hc2 hn0 hci
 go_enter Tryz.func200,Tryz.ntmps200
 go_wp2
 go_loopw [5,6] (fun n i wr=>∃(j N k':Nat),j<=2/\n=.int .i64 N/\i=.int .i64 j/\N+1<=8 ^ (j+1)/\k<=k'/\Hid (zam w S p X out k' wr)/\Hid (V=(zdt X.yq (2-j) N (X.bs.drop k')).map fun x=>(out++[UInt8.ofNat x.1],k'+x.2))) (fun _ i _=>2-(intOf i).toNat)
 case atStart=>exact ⟨0,n0,k,by omega,by go_num,rfl,by omega,yp _,HN,HV⟩
 case round =>
  obtain ⟨j,N,k',hj,rfl,rfl,hN,hkk,HS,HG⟩:=hrel
  obtain ⟨S1,hq1,hk1,hs1⟩:=HS.out
  have HQ1:=yb hq1
  have HK1:=yb hk1
  have HS1:=yb hs1
  have hP:=zco hq1
  unfold zec u8C at hP
  have hN5:N<=511:=by
   have:j=0\/j=1\/j=2:=by omega
   rcases this with rfl|rfl|rfl<;>omega
  have HWB:=yb (fun (q:Nat) (x:Int) (hx:x=((UInt8.ofNat N).toNat:Int))=>zaN (hq1.drewN q) (UInt8.ofNat N) x hx (by omega))
  have HWB0:=yb (fun (x:Int) (hx:x=((UInt8.ofNat N).toNat:Int))=>zaN hq1 (UInt8.ofNat N) x hx (by omega))
  clear hq1 hk1 hs1
  by_cases hj2:j<2
  ·obtain ⟨m,hm⟩:∃m,2-j=m+1:=⟨1-j,by omega⟩
   have hg:=HG.out
   rw [hm] at hg
   have HM:=yb hm
   have hjd:decide ((j:Int)<2)=true:=by simp;omega
   clear hm
   by_cases hk2:k'<X.bs.length
   ·rw [yg hk2] at hP
    rw [zaZ hk2,zdt] at hg
    by_cases hd:isOc (X.bs.getD k' 0)=true
    ·have hd2:=zdo.1 hd
     rw [yg hd] at hg
     have HP:=yb hP
     have HG2:=yb hg
     obtain ⟨d,hd3⟩:∃d,d=(X.bs.getD k' 0).toNat-48:=⟨_,rfl⟩
     have hdi:((X.bs.getD k' 0).toNat:Int)=(d:Int)+48:=by omega
     have hd7:d<=7:=by omega
     rw [hdi] at HP
     rw [<-hd3] at HG2
     clear hg hP hd hd2 hd3 hdi
     go_wp2_with fail
     refine HP.out.mono ?_
     rintro e w1 ⟨rfl,q,rfl⟩
     have h1:=HQ1.out.drewN q
     obtain ⟨ad,v,h1⟩:=h1
     obtain ⟨-,-,-,c3,-⟩:=h1.cells
     have f3:=h1.free 3
     have HM3:=yb (zam.trans HK1.out HS1.out (zam.drew q (h1.move (k'+1) (by omega) (by omega))))
     clear h1
     go_wp2
     go_roundw
     case rel =>
      refine ⟨j+1,8*N+d,k'+1,by omega,by go_num,by go_num,by rw [Nat.pow_succ];omega,by omega,HM3,yb ?_⟩
      rw [HG2.out,show 2-(j+1)=m from by have:=HM.out;omega,Option.map_map]
      congr 1
      funext x
      simp only [Function.comp]
      rw [show k'+1+x.2=k'+(x.2+1) from by omega]
     case measure=>simp [intOf];omega
    ·rw [yh hd] at hg
     simp only [Option.map_some] at hg
     have HG2:=yb hg
     have HP:=yb hP
     have hd2:¬(48<=(X.bs.getD k' 0).toNat/\(X.bs.getD k' 0).toNat<=55):=fun e=>hd (zdo.2 e)
     generalize (X.bs.getD k' 0).toNat=x at *
     by_cases hx:(x:Int)<48
     ·have hxd:decide ((x:Int)<48)=true:=by simpa using hx
      clear hg hP hd hd2
      go_wp2_with fail
      refine HP.out.mono ?_
      rintro e w1 ⟨rfl,q,rfl⟩
      go_wp2_with fail
      refine (HWB.out q _ (zdc N)).mono ?_
      rintro e w2 ⟨rfl,hn2⟩
      have HN2:=yb hn2
      clear hn2
      go_wp2
      go_ret
      exact zfz ((HK1.out).drewN q) HS1.out HN2.out _ HG2.out
     ·have hxd:decide ((x:Int)<48)=false:=by simpa using hx
      have hx2:decide ((55:Int)<x)=true:=by simp;omega
      clear hg hP hd hd2 hx
      go_wp2_with fail
      refine HP.out.mono ?_
      rintro e w1 ⟨rfl,q,rfl⟩
      go_wp2_with fail
      refine (HWB.out q _ (zdc N)).mono ?_
      rintro e w2 ⟨rfl,hn2⟩
      have HN2:=yb hn2
      clear hn2
      go_wp2
      go_ret
      exact zfz ((HK1.out).drewN q) HS1.out HN2.out _ HG2.out
   ·rw [yh hk2] at hP
    rw [zbU hk2,zdt] at hg
    have HP:=yb hP
    have hlast:=fun (q:Nat)=>(let ⟨ad,v,h⟩:=HQ1.out.drewN q;h.cells.2.2.2.2)
    obtain ⟨l,hl⟩:∃l,X.yq=l:=⟨_,rfl⟩
    rw [hl] at hg hlast
    have HL:=yb hlast
    have HG2:=yb hg
    clear hg hP hl hlast hk2
    cases l
    ·go_wp2_with fail
     refine HP.out.mono ?_
     rintro e w1 ⟨rfl,q,rfl⟩
     have c4:=HL.out q
     have HN2:=yb (zam.trans HK1.out HS1.out (zam.drew q (zam.refl (HQ1.out.drewN q))))
     go_wp2
     go_ret
     rw [HG2.out]
     exact ⟨rfl,_,_,HN2.out⟩
    ·go_wp2_with fail
     refine HP.out.mono ?_
     rintro e w1 ⟨rfl,q,rfl⟩
     have c4:=HL.out q
     go_wp2_with fail
     refine (HWB.out q _ (zdc N)).mono ?_
     rintro e w2 ⟨rfl,hn2⟩
     have HN2:=yb hn2
     clear hn2
     go_wp2
     go_ret
     exact zfz ((HK1.out).drewN q) HS1.out HN2.out _ HG2.out
  ·obtain rfl:j=2:=by omega
   have hg:=HG.out
   rw [Nat.sub_self,zdt,Option.map_some] at hg
   have HG2:=yb hg
   clear hg hP
   go_wp2_with fail
   refine (HWB0.out _ (zdc N)).mono ?_
   rintro e w2 ⟨rfl,hn2⟩
   have HN2:=yb hn2
   clear hn2
   go_wp2
   go_ret
   exact zfz HK1.out HS1.out HN2.out _ HG2.out
def zb4 (X:Src) (out:List UInt8) (k:Nat):Option (List UInt8×Nat):=(escV X.yq (X.bs.drop k)).map fun x=>(out++x.1,k+x.2)
theorem esc_idx (c:UInt8):(Lib.indexByte [110,114,116,98,102] c=-1/\c≠110/\c≠114/\c≠116/\c≠98/\c≠102)\/(c=110\/c=114\/c=116\/c=98\/c=102):=by
 by_cases h:Lib.indexByte [110,114,116,98,102] c=-1
 ·have:=zcE _ _ h
  simp at this
  exact .inl ⟨h,this⟩
 ·have hg:=Lib.indexByte_ge [110,114,116,98,102] c
  obtain ⟨i,hi⟩:=Int.eq_ofNat_of_zero_le (show 0<=Lib.indexByte [110,114,116,98,102] c by omega)
  obtain ⟨a,t,e,-,-⟩:=zcD _ _ _ hi
  have hm:c∈([110,114,116,98,102]:List UInt8):=by rw [e];simp
  simp at hm
  exact .inr hm
theorem escStep_of {X:Src} {out:List UInt8} {k:Nat} (hk:k<X.bs.length) (r:Option (List UInt8×Nat)) (h:escV X.yq (X.bs.getD k 0::X.bs.drop (k+1))=r):zb4 X out k=r.map fun x=>(out++x.1,k+x.2):=by
 unfold zb4;rw [zaZ hk,h]
theorem zfW (yq:Bool) (c:UInt8) (t:List UInt8) (n1:c≠110) (n2:c≠114) (n3:c≠116) (n4:c≠98) (n5:c≠102):escV yq (c::t) =
  if isOc c=true then (octV yq c t).map (fun x=>([UInt8.ofNat x.1],x.2)) else if c=10 then some ([],1) else if c=13 then (zev yq t).map (fun k=>([],k+1)) else some ([c],1):=by
 simp only [escV]
 rw [yh n1,yh n2,yh n3,yh n4,yh n5]
theorem step_none {w w2:World} {S:Nat->Prop} {p:Nat} {X:Src} {V:Option (List UInt8×Nat)} (hV:V=none) (h:∃out k,zam w S p X out k w2):zdQ w S p X V (.returned (.bool false)) w2:=by
 subst hV;exact ⟨rfl,h⟩
theorem zbn {w w2:World} {S:Nat->Prop} {p:Nat} {X:Src} {V:Option (List UInt8×Nat)} {o2:List UInt8} {k2:Nat} (hV:V=some (o2,k2)) (h:zam w S p X o2 k2 w2):zdQ w S p X V (.returned (.bool true)) w2:=by
 subst hV;exact ⟨rfl,h⟩
theorem line_other (a:Value) (x:Int) (hx:(x != 13)=true) (w:World):Calls Tryz.prog 186 #[a,.int .u8 x] w fun e w'=>e=.returned (.bool true)/\w=w':=by
 go_enter Tryz.func186,Tryz.ntmps186
 go_wp2
 go_ret
 exact ⟨rfl,rfl⟩
theorem escape_any {w:World} {S:Nat->Prop} {p:Nat} {X:Src} {out:List UInt8} {k:Nat} (h:ScQ w S p X out k) (hok:out.length<=k) :
  Calls Tryz.prog 185 #[.pointer (some ⟨p,0,none⟩)] w (zdQ w S p X (zb4 X out k)):=by
 obtain ⟨V,hV⟩:∃V,V=zb4 X out k:=⟨_,rfl⟩
 rw [<-hV]
 have hP:=zco h
 unfold zec u8C at hP
 have hsm:X.bs.length<=400000:=by obtain ⟨_,_,h⟩:=h;exact h.small
 by_cases hk:k<X.bs.length
 case neg =>
  rw [yh hk] at hP
  have HP:=yb hP
  have HL:=yb (show V=none by rw [hV];unfold zb4;rw [zbU hk];rfl)
  have HQ:=yb h
  clear hV hP h hk
  go_enter Tryz.func185,Tryz.ntmps185
  go_wp2_with fail
  refine HP.out.mono ?_
  rintro e w1 ⟨rfl,q,rfl⟩
  have HN2:=yb (zam.drew q (zam.refl (HQ.out.drewN q)))
  go_wp2
  go_ret
  rw [HL.out]
  exact ⟨rfl,_,_,HN2.out⟩
 rw [yg hk] at hP
 have HMV:=yb (fun q=>(let ⟨_,_,h1⟩:=h.drewN q;h1.move (k+1) (by omega) (by omega)))
 have HC3:=yb (fun q=>(let ⟨_,_,h1⟩:=h.drewN q;(And.intro h1.cells.2.2.2.1 (h1.free 3))))
 have hSI:=fun (c:UInt8) W=>zdd ⟨#[110,114,116,98,102]⟩ (c.toNat:Int) W
 have hSI2:∀(c:UInt8) W,Calls Tryz.prog 121 #[.string ⟨#[110,114,116,98,102]⟩,.int .u8 c.toNat] W fun e w'=>e=.returned (.int .i64 (Lib.indexByte [110,114,116,98,102] c))/\W=w':=fun c W=>by
  have:=hSI c W;rw [u8_back] at this;exact this
 have hE:=fun r hr=>hV.trans (escStep_of (X:=X) (out:=out) (k:=k) hk r hr)
 obtain ⟨c,hc⟩:∃c,c=X.bs.getD k 0:=⟨_,rfl⟩
 rw [<-hc] at hP hE
 clear hSI hV hc
 rcases esc_idx c with ⟨hix,n1,n2,n3,n4,n5⟩|hlit
 ·have hIX:=hSI2 c
  rw [hix] at hIX
  have HIX:=yb hIX
  have HP:=yb hP
  clear hIX hSI2 hP
  by_cases hoc:isOc c=true
  ·have HV:=yb (hE _ (show escV X.yq (c::X.bs.drop (k+1))=(octV X.yq c (X.bs.drop (k+1))).map fun x=>([UInt8.ofNat x.1],x.2) by
    rw [zfW _ _ _ n1 n2 n3 n4 n5,yg hoc]))
   have hoc2:=zdo.1 hoc
   have h48:decide ((48:Int)<=c.toNat)=true:=by simp;omega
   have h55:decide ((c.toNat:Int)<=55)=true:=by simp;omega
   clear hE n1 n2 n3 n4 n5 hix hoc2
   go_enter Tryz.func185,Tryz.ntmps185
   go_wp2_with fail
   refine HP.out.mono ?_
   rintro e w1 ⟨rfl,q,rfl⟩
   obtain ⟨c3,f3⟩:=HC3.out q
   obtain ⟨S1,q1,k1,s1⟩:=HMV.out q
   have HQ1:=yb q1
   have HK1:=yb (zaf.trans ((zaf.refl S w).drewN q) k1 (fun _ h=>.inl h))
   have HS1:=yb s1
   clear q1 k1 s1
   go_wp2_with fail
   refine (HIX.out _).mono ?_
   rintro e w2 ⟨rfl,rfl⟩
   rw [show ((k:Int)+1)=((k+1:Nat):Int) from rfl]
   generalize (w.drewN q).setCell ⟨p,3,none⟩ (.int .i64 ((k+1:Nat):Int))=w2 at *
   clear c3 f3
   have HO:=yb (octal_any HQ1.out c hoc (by omega))
   go_wp2_with fail
   refine HO.out.mono ?_
   rintro e w3 hstep
   have HST:=yb hstep
   clear hstep
   have HG:=yb (show V=(zdt X.yq 2 (c.toNat-48) (X.bs.drop (k+1))).map fun x=>(out++[UInt8.ofNat x.1],k+1+x.2) by
    rw [HV.out,octV_go,Option.map_map,Option.map_map]
    congr 1
    funext x
    simp only [Function.comp]
    rw [show k+(x.2+1)=k+1+x.2 from by omega])
   rw [<-HG.out] at HST
   cases hVV:V with
   | none =>
    rw [hVV] at HST
    obtain ⟨rfl,o2,k2,hn⟩:=HST.out
    have HN:=yb hn
    clear HST hn
    go_wp2
    go_ret
    exact step_none hVV ⟨o2,k2,zam.trans HK1.out HS1.out HN.out⟩
   | some ok =>
    obtain ⟨o2,k2⟩:=ok
    rw [hVV] at HST
    obtain ⟨rfl,hn⟩:=HST.out
    have HN:=yb hn
    clear HST hn
    go_wp2
    go_ret
    exact zbn hVV (zam.trans HK1.out HS1.out HN.out)
  ·have hoc2:¬(48<=c.toNat/\c.toNat<=55):=fun e=>hoc (zdo.2 e)
   by_cases h10:c=10
   ·subst h10
    have HV:=yb (show V=some (out++[],k+1) from hE _ (show escV X.yq (10::X.bs.drop (k+1))=some ([],1) from rfl))
    clear hE n1 n2 n3 n4 n5 hix hoc hoc2
    go_enter Tryz.func185,Tryz.ntmps185
    go_wp2_with fail
    refine HP.out.mono ?_
    rintro e w1 ⟨rfl,q,rfl⟩
    obtain ⟨c3,f3⟩:=HC3.out q
    obtain ⟨S1,q1,k1,s1⟩:=HMV.out q
    have HQ1:=yb q1
    have HK1:=yb (zaf.trans ((zaf.refl S w).drewN q) k1 (fun _ h=>.inl h))
    have HS1:=yb s1
    clear q1 k1 s1
    go_wp2_with fail
    refine (HIX.out _).mono ?_
    rintro e w2 ⟨rfl,rfl⟩
    rw [show ((k:Int)+1)=((k+1:Nat):Int) from rfl]
    generalize (w.drewN q).setCell ⟨p,3,none⟩ (.int .i64 ((k+1:Nat):Int))=w2 at *
    clear c3 f3
    go_wp2_with (go_at_call 186;refine (line_other _ _ rfl _).mono ?_;rintro e w3 ⟨rfl,rfl⟩)
    go_ret
    exact zbn (by rw [HV.out,List.append_nil]) (zam.trans HK1.out HS1.out (zam.refl HQ1.out))
   ·by_cases h13:c=13
    ·subst h13
     have HV:=yb (hE _ (show escV X.yq (13::X.bs.drop (k+1))=(zev X.yq (X.bs.drop (k+1))).map fun j=>([],j+1) from rfl))
     clear hE n1 n2 n3 n4 n5 hix hoc hoc2 h10
     go_enter Tryz.func185,Tryz.ntmps185
     go_wp2_with fail
     refine HP.out.mono ?_
     rintro e w1 ⟨rfl,q,rfl⟩
     obtain ⟨c3,f3⟩:=HC3.out q
     obtain ⟨S1,q1,k1,s1⟩:=HMV.out q
     have HQ1:=yb q1
     have HK1:=yb (zaf.trans ((zaf.refl S w).drewN q) k1 (fun _ h=>.inl h))
     have HS1:=yb s1
     clear q1 k1 s1
     go_wp2_with fail
     refine (HIX.out _).mono ?_
     rintro e w2 ⟨rfl,rfl⟩
     rw [show ((k:Int)+1)=((k+1:Nat):Int) from rfl]
     generalize (w.drewN q).setCell ⟨p,3,none⟩ (.int .i64 ((k+1:Nat):Int))=w2 at *
     clear c3 f3
     have HO:=yb (line_any HQ1.out)
     go_wp2_with fail
     refine HO.out.mono ?_
     rintro e w3 hstep
     have HST:=yb hstep
     clear hstep
     have HG:=yb (show V=(zev X.yq (X.bs.drop (k+1))).map fun j=>(out,k+1+j) by
      rw [HV.out,Option.map_map]
      congr 1
      funext x
      simp only [Function.comp,List.append_nil]
      rw [show k+(x+1)=k+1+x from by omega])
     rw [<-HG.out] at HST
     cases hVV:V with
     | none =>
      rw [hVV] at HST
      obtain ⟨rfl,o2,k2,hn⟩:=HST.out
      have HN:=yb hn
      clear HST hn
      go_wp2
      go_ret
      exact step_none hVV ⟨o2,k2,zam.trans HK1.out HS1.out HN.out⟩
     | some ok =>
      obtain ⟨o2,k2⟩:=ok
      rw [hVV] at HST
      obtain ⟨rfl,hn⟩:=HST.out
      have HN:=yb hn
      clear HST hn
      go_wp2
      go_ret
      exact zbn hVV (zam.trans HK1.out HS1.out HN.out)
    ·have HV:=yb (show V=some (out++[c],k+1) from hE (some ([c],1)) (by rw [zfW _ _ _ n1 n2 n3 n4 n5,yh hoc,yh h10,yh h13]))
     have h10d:((c.toNat:Int)==10)=false:=by rw [yf];intro e;exact h10 (UInt8.toNat_inj.1 (Int.ofNat_inj.1 e))
     have h13d:((c.toNat:Int)==13)=false:=by rw [yf];intro e;exact h13 (UInt8.toNat_inj.1 (Int.ofNat_inj.1 e))
     have HWB:=yb (fun W S1 (h:ScQ W S1 p X out (k+1))=>zaN h c (c.toNat:Int) rfl (by omega))
     by_cases h48:(48:Int)<=c.toNat
     ·have h48d:decide ((48:Int)<=c.toNat)=true:=by simpa using h48
      have h55d:decide ((c.toNat:Int)<=55)=false:=by simp;omega
      clear hE n1 n2 n3 n4 n5 hix hoc hoc2 h10 h13 h48
      generalize (c.toNat:Int)=x at *
      go_enter Tryz.func185,Tryz.ntmps185
      go_wp2_with fail
      refine HP.out.mono ?_
      rintro e w1 ⟨rfl,q,rfl⟩
      obtain ⟨c3,f3⟩:=HC3.out q
      obtain ⟨S1,q1,k1,s1⟩:=HMV.out q
      have HQ1:=yb q1
      have HK1:=yb (zaf.trans ((zaf.refl S w).drewN q) k1 (fun _ h=>.inl h))
      have HS1:=yb s1
      clear q1 k1 s1
      go_wp2_with fail
      refine (HIX.out _).mono ?_
      rintro e w2 ⟨rfl,rfl⟩
      rw [show ((k:Int)+1)=((k+1:Nat):Int) from rfl]
      generalize (w.drewN q).setCell ⟨p,3,none⟩ (.int .i64 ((k+1:Nat):Int))=w2 at *
      clear c3 f3
      go_wp2_with fail
      refine (HWB.out _ _ HQ1.out).mono ?_
      rintro e w3 ⟨rfl,hn⟩
      have HN:=yb hn
      clear hn
      go_wp2
      go_ret
      exact zbn HV.out (zam.trans HK1.out HS1.out HN.out)
     ·have h48d:decide ((48:Int)<=c.toNat)=false:=by simpa using h48
      clear hE n1 n2 n3 n4 n5 hix hoc hoc2 h10 h13 h48
      generalize (c.toNat:Int)=x at *
      go_enter Tryz.func185,Tryz.ntmps185
      go_wp2_with fail
      refine HP.out.mono ?_
      rintro e w1 ⟨rfl,q,rfl⟩
      obtain ⟨c3,f3⟩:=HC3.out q
      obtain ⟨S1,q1,k1,s1⟩:=HMV.out q
      have HQ1:=yb q1
      have HK1:=yb (zaf.trans ((zaf.refl S w).drewN q) k1 (fun _ h=>.inl h))
      have HS1:=yb s1
      clear q1 k1 s1
      go_wp2_with fail
      refine (HIX.out _).mono ?_
      rintro e w2 ⟨rfl,rfl⟩
      rw [show ((k:Int)+1)=((k+1:Nat):Int) from rfl]
      generalize (w.drewN q).setCell ⟨p,3,none⟩ (.int .i64 ((k+1:Nat):Int))=w2 at *
      clear c3 f3
      go_wp2_with fail
      refine (HWB.out _ _ HQ1.out).mono ?_
      rintro e w3 ⟨rfl,hn⟩
      have HN:=yb hn
      clear hn
      go_wp2
      go_ret
      exact zbn HV.out (zam.trans HK1.out HS1.out HN.out)
 ·have hall:∀d:UInt8,(c=110/\d=10)\/(c=114/\d=13)\/(c=116/\d=9)\/(c=98/\d=8)\/(c=102/\d=12)->V=some (out++[d],k+1):=by
   rintro d (⟨rfl,rfl⟩|⟨rfl,rfl⟩|⟨rfl,rfl⟩|⟨rfl,rfl⟩|⟨rfl,rfl⟩)
   all_goals exact hE _ rfl
  have HALL:=yb hall
  have HWB:=yb (fun W S1 (h:ScQ W S1 p X out (k+1)) (d:UInt8)=>zaN h d (d.toNat:Int) rfl (by omega))
  clear hall hE
  rcases hlit with rfl|rfl|rfl|rfl|rfl
  ·have hIX:=hSI2 110
   rw [show Lib.indexByte [110,114,116,98,102] 110=0 from rfl] at hIX
   have HIX:=yb hIX
   have HP:=yb hP
   clear hIX hSI2 hP
   go_enter Tryz.func185,Tryz.ntmps185
   go_wp2_with fail
   refine HP.out.mono ?_
   rintro e w1 ⟨rfl,q,rfl⟩
   obtain ⟨c3,f3⟩:=HC3.out q
   obtain ⟨S1,q1,k1,s1⟩:=HMV.out q
   have HQ1:=yb q1
   have HK1:=yb (zaf.trans ((zaf.refl S w).drewN q) k1 (fun _ h=>.inl h))
   have HS1:=yb s1
   clear q1 k1 s1
   go_wp2_with fail
   refine (HIX.out _).mono ?_
   rintro e w2 ⟨rfl,rfl⟩
   rw [show ((k:Int)+1)=((k+1:Nat):Int) from rfl]
   generalize (w.drewN q).setCell ⟨p,3,none⟩ (.int .i64 ((k+1:Nat):Int))=w2 at *
   clear c3 f3
   go_wp2_with fail
   go_still_tail 5,(by kernel_rfl)
   go_wp2_with fail
   refine (HWB.out _ _ (HQ1.out.drewN 1) 10).mono ?_
   rintro e w3 ⟨rfl,hn⟩
   have HN:=yb hn
   clear hn
   go_wp2
   go_ret
   exact zbn (HALL.out 10 (by simp)) (zam.trans (HK1.out.drewN 1) HS1.out HN.out)
  ·have hIX:=hSI2 114
   rw [show Lib.indexByte [110,114,116,98,102] 114=1 from rfl] at hIX
   have HIX:=yb hIX
   have HP:=yb hP
   clear hIX hSI2 hP
   go_enter Tryz.func185,Tryz.ntmps185
   go_wp2_with fail
   refine HP.out.mono ?_
   rintro e w1 ⟨rfl,q,rfl⟩
   obtain ⟨c3,f3⟩:=HC3.out q
   obtain ⟨S1,q1,k1,s1⟩:=HMV.out q
   have HQ1:=yb q1
   have HK1:=yb (zaf.trans ((zaf.refl S w).drewN q) k1 (fun _ h=>.inl h))
   have HS1:=yb s1
   clear q1 k1 s1
   go_wp2_with fail
   refine (HIX.out _).mono ?_
   rintro e w2 ⟨rfl,rfl⟩
   rw [show ((k:Int)+1)=((k+1:Nat):Int) from rfl]
   generalize (w.drewN q).setCell ⟨p,3,none⟩ (.int .i64 ((k+1:Nat):Int))=w2 at *
   clear c3 f3
   go_wp2_with fail
   go_still_tail 5,(by kernel_rfl)
   go_wp2_with fail
   refine (HWB.out _ _ (HQ1.out.drewN 1) 13).mono ?_
   rintro e w3 ⟨rfl,hn⟩
   have HN:=yb hn
   clear hn
   go_wp2
   go_ret
   exact zbn (HALL.out 13 (by simp)) (zam.trans (HK1.out.drewN 1) HS1.out HN.out)
  ·have hIX:=hSI2 116
   rw [show Lib.indexByte [110,114,116,98,102] 116=2 from rfl] at hIX
   have HIX:=yb hIX
   have HP:=yb hP
   clear hIX hSI2 hP
   go_enter Tryz.func185,Tryz.ntmps185
   go_wp2_with fail
   refine HP.out.mono ?_
   rintro e w1 ⟨rfl,q,rfl⟩
   obtain ⟨c3,f3⟩:=HC3.out q
   obtain ⟨S1,q1,k1,s1⟩:=HMV.out q
   have HQ1:=yb q1
   have HK1:=yb (zaf.trans ((zaf.refl S w).drewN q) k1 (fun _ h=>.inl h))
   have HS1:=yb s1
   clear q1 k1 s1
   go_wp2_with fail
   refine (HIX.out _).mono ?_
   rintro e w2 ⟨rfl,rfl⟩
   rw [show ((k:Int)+1)=((k+1:Nat):Int) from rfl]
   generalize (w.drewN q).setCell ⟨p,3,none⟩ (.int .i64 ((k+1:Nat):Int))=w2 at *
   clear c3 f3
   go_wp2_with fail
   go_still_tail 5,(by kernel_rfl)
   go_wp2_with fail
   refine (HWB.out _ _ (HQ1.out.drewN 1) 9).mono ?_
   rintro e w3 ⟨rfl,hn⟩
   have HN:=yb hn
   clear hn
   go_wp2
   go_ret
   exact zbn (HALL.out 9 (by simp)) (zam.trans (HK1.out.drewN 1) HS1.out HN.out)
  ·have hIX:=hSI2 98
   rw [show Lib.indexByte [110,114,116,98,102] 98=3 from rfl] at hIX
   have HIX:=yb hIX
   have HP:=yb hP
   clear hIX hSI2 hP
   go_enter Tryz.func185,Tryz.ntmps185
   go_wp2_with fail
   refine HP.out.mono ?_
   rintro e w1 ⟨rfl,q,rfl⟩
   obtain ⟨c3,f3⟩:=HC3.out q
   obtain ⟨S1,q1,k1,s1⟩:=HMV.out q
   have HQ1:=yb q1
   have HK1:=yb (zaf.trans ((zaf.refl S w).drewN q) k1 (fun _ h=>.inl h))
   have HS1:=yb s1
   clear q1 k1 s1
   go_wp2_with fail
   refine (HIX.out _).mono ?_
   rintro e w2 ⟨rfl,rfl⟩
   rw [show ((k:Int)+1)=((k+1:Nat):Int) from rfl]
   generalize (w.drewN q).setCell ⟨p,3,none⟩ (.int .i64 ((k+1:Nat):Int))=w2 at *
   clear c3 f3
   go_wp2_with fail
   go_still_tail 5,(by kernel_rfl)
   go_wp2_with fail
   refine (HWB.out _ _ (HQ1.out.drewN 1) 8).mono ?_
   rintro e w3 ⟨rfl,hn⟩
   have HN:=yb hn
   clear hn
   go_wp2
   go_ret
   exact zbn (HALL.out 8 (by simp)) (zam.trans (HK1.out.drewN 1) HS1.out HN.out)
  ·have hIX:=hSI2 102
   rw [show Lib.indexByte [110,114,116,98,102] 102=4 from rfl] at hIX
   have HIX:=yb hIX
   have HP:=yb hP
   clear hIX hSI2 hP
   go_enter Tryz.func185,Tryz.ntmps185
   go_wp2_with fail
   refine HP.out.mono ?_
   rintro e w1 ⟨rfl,q,rfl⟩
   obtain ⟨c3,f3⟩:=HC3.out q
   obtain ⟨S1,q1,k1,s1⟩:=HMV.out q
   have HQ1:=yb q1
   have HK1:=yb (zaf.trans ((zaf.refl S w).drewN q) k1 (fun _ h=>.inl h))
   have HS1:=yb s1
   clear q1 k1 s1
   go_wp2_with fail
   refine (HIX.out _).mono ?_
   rintro e w2 ⟨rfl,rfl⟩
   rw [show ((k:Int)+1)=((k+1:Nat):Int) from rfl]
   generalize (w.drewN q).setCell ⟨p,3,none⟩ (.int .i64 ((k+1:Nat):Int))=w2 at *
   clear c3 f3
   go_wp2_with fail
   go_still_tail 5,(by kernel_rfl)
   go_wp2_with fail
   refine (HWB.out _ _ (HQ1.out.drewN 1) 12).mono ?_
   rintro e w3 ⟨rfl,hn⟩
   have HN:=yb hn
   clear hn
   go_wp2
   go_ret
   exact zbn (HALL.out 12 (by simp)) (zam.trans (HK1.out.drewN 1) HS1.out HN.out)
end Go.Proofs.YtcmoehknppjkiaaGreatDoor
namespace Go.Proofs.YtcmoehknppjkiaaGreatDoor
open Go
theorem jump_mono {P:Program} {Q:Exit->Act->World->Prop} {a:Act} {w:World} {c:Code} {l:Nat} {J J':Act->World->Prop} (h:c.wp P (Exit.jump l J Q) a w) (hJ:∀a w,J a w->J' a w):c.wp P (Exit.jump l J' Q) a w:=by
 refine wp_mono h ?_
 intro e a' w' hq
 cases e with
 | goto l'=>exact ⟨hq.1,hJ _ _ hq.2⟩
 | normal=>exact hq
 | exit id=>exact hq
 | ret=>exact hq
 | panic ch=>exact hq
 | outgrown=>exact hq
theorem zb2 {P:Program} {Q:Exit->Act->World->Prop} {a:Act} {w:World} {c body:Code} (l:Nat) (I:Nat->Act->World->Prop) (hf:findLabel c l=some (Code.skip.seq body))
  (first:(∀n a w,I n a w->body.wp P (Exit.jump l (fun a w=>∃n,I n a w) Q) a w)->c.wp P (Exit.jump l (fun a w=>∃n,I n a w) Q) a w)
  (pass:∀n a w,I n a w->body.wp P (Exit.jump l (fun a' w'=>∃n',n'<n/\I n' a' w') Q) a w):(Code.scope c).wp P Q a w:=by
 refine wp_scope_jumps l (fun a w=>∃n,I n a w) (fun a w=>leastOf (fun n=>I n a w)) hf (first fun n a w hI=>jump_mono (pass n a w hI) fun a w ⟨n',_,h⟩=>⟨n',h⟩) ?_
 intro a w hI
 refine wp_seq (wp_skip ?_)
 refine wp_mono (pass _ a w (leastOf_spec hI).1) ?_
 intro e a' w' hq
 cases e with
 | goto l' =>
  obtain ⟨h1,n',hlt,hI'⟩:=hq
  exact ⟨h1,⟨n',hI'⟩,Nat.lt_of_le_of_lt ((leastOf_spec ⟨n',hI'⟩).2 n' hI') hlt⟩
 | normal=>exact hq
 | exit id=>exact hq
 | ret=>exact hq
 | panic ch=>exact hq
 | outgrown=>exact hq
end Go.Proofs.YtcmoehknppjkiaaGreatDoor
namespace Go.Proofs.YtcmoehknppjkiaaGreatDoor
open Go.RowKit
def valC (k n:Int) (s:ByteArray):Array Value:=#[.int .i64 k,.int .i64 n,.string s,.slice none 0 0]
def zbB:ByteArray:=⟨#[]⟩
theorem zc1 (a b:ByteArray):(a++b).size=a.size+b.size:=ByteArray.size_append
theorem zdp (a b:ByteArray):bl (a++b)=bl a++bl b:=by unfold bl;rw [ByteArray.data_append,Array.toList_append]
theorem zb3 (s:ByteArray) (w:World) (hs:s.size<=4611686018427387904) (hd:(bl s).all isDg=true) :
  Calls Tryz.prog 199 #[.string s] w fun e w'=>e=.returned (.int .i64 (mil (bl s):Nat))/\Below w.heap.size w w':=by
 have hD:=fun W=>zb9 ((s++⟨#[48,48,48,48,48,48]⟩).extract 0 6) W
 have hb:bl ((s++⟨#[48,48,48,48,48,48]⟩).extract 0 6)=(bl s++List.replicate 6 48).take 6:=by rw [bl_to,zdp];rfl
 have hlt:=zfw (bl s) hd
 have hv:zaA ((bl s++List.replicate 6 48).take 6)=(((mil (bl s):Nat):Int),0):=by
  refine zb7 ?_ ?_ ?_
  ·intro e;have:=congrArg List.length e;simp at this
  ·rw [List.all_eq_true]
   intro x hx
   have hx:=List.mem_of_mem_take hx
   rw [List.mem_append] at hx
   rcases hx with hx|hx
   ·exact List.all_eq_true.1 hd x hx
   ·rw [List.mem_replicate] at hx;rw [hx.2];rfl
  ·show mil (bl s)<=_;omega
 rw [hb,hv] at hD
 have HD:=yb hD
 have hsz:(s++⟨#[48,48,48,48,48,48]⟩).size=s.size+6:=by rw [zc1];rfl
 clear hD hb hv hd
 go_enter Tryz.func199,Tryz.ntmps199
 go_wp2_with (go_at_call 168;refine (HD.out _).mono ?_;rintro e w' ⟨rfl,hb⟩)
 go_ret
 exact ⟨rfl,hb⟩
def za7 (s:ByteArray) (m:Nat):Bool:=decide (bl s=[])&&decide (m=0)
theorem zcj (k n:Int) (s:ByteArray) (a:Option Addr) (m c:Nat) (w:World) (hm:(m:Int)<=9223372036854775807) :
  Calls Tryz.prog 120 #[.agg #[.int .i64 k,.int .i64 n,.string s,.slice a m c]] w fun e w'=>e=.returned (.int .i64 (zaD k n (za7 s m)))/\Below w.heap.size w w':=by
 obtain ⟨V,hV⟩:∃V,V=zaD k n (za7 s m):=⟨_,rfl⟩
 rw [<-hV]
 unfold zaD at hV
 by_cases hk:k=2\/k=3
 ·obtain ⟨L,hL⟩:∃L:Int,L=if k=2 then 2147483647 else 2147483647000000:=⟨_,rfl⟩
  have hk2:(k==2)=decide (k=2):=by by_cases h:k=2<;>simp [h]
  by_cases h1:n < -L
  ·have HV:=yb (show V=2 by rw [hV,yh];rintro ⟨-,h|h⟩<;>(rw [h.1] at hL;simp at hL;omega))
   have HB:=yb (zae w (.cells #[.int .i64 k,.int .i64 n,.string s,.slice a m c] 25))
   clear hV hk2
   rcases hk with rfl|rfl<;>(simp at hL;subst hL)
   all_goals
    go_enter Tryz.func120,Tryz.ntmps120
    go_wp2
    go_ret
    exact ⟨zaI HV.out.symm,HB.out⟩
  ·have h1d:decide (n < -L)=false:=by simpa using h1
   by_cases h2:L<n
   ·have HV:=yb (show V=2 by rw [hV,yh];rintro ⟨-,h|h⟩<;>(rw [h.1] at hL;simp at hL;omega))
    have HB:=yb (zae w (.cells #[.int .i64 k,.int .i64 n,.string s,.slice a m c] 25))
    clear hV hk2 h1
    rcases hk with rfl|rfl<;>(simp at hL;subst hL)
    all_goals
     go_enter Tryz.func120,Tryz.ntmps120
     go_wp2
     go_ret
     exact ⟨zaI HV.out.symm,HB.out⟩
   ·have h2d:decide (L<n)=false:=by simpa using h2
    by_cases h3:s.toList=[]
    ·by_cases h4:m=0
     ·have HV:=yb (show V=0 by
       rw [hV,yg]
       refine ⟨by unfold za7;rw [<-toL,h3,h4];rfl,?_⟩
       rcases hk with h|h<;>rw [h] at hL<;>simp at hL
       ·exact .inl ⟨h,by omega,by omega⟩
       ·exact .inr ⟨h,by omega,by omega⟩)
      have HB:=yb (zae w (.cells #[.int .i64 k,.int .i64 n,.string s,.slice a m c] 25))
      have h3e:s.toList.isEmpty=true:=by rw [h3];rfl
      clear hV hk2 h1 h2
      subst h4
      rcases hk with rfl|rfl<;>(simp at hL;subst hL)
      all_goals
       go_enter Tryz.func120,Tryz.ntmps120
       go_wp2
       go_ret
       exact ⟨zaI HV.out.symm,HB.out⟩
     ·have HV:=yb (show V=2 by rw [hV,yh];rintro ⟨h,-⟩;unfold za7 at h;simp at h;exact h4 h.2)
      have HB:=yb (zae w (.cells #[.int .i64 k,.int .i64 n,.string s,.slice a m c] 25))
      have h3e:s.toList.isEmpty=true:=by rw [h3];rfl
      have h4':(0:Int)<m:=by omega
      have h4'':0<m:=by omega
      clear hV hk2 h1 h2 h4
      rcases hk with rfl|rfl<;>(simp at hL;subst hL)
      all_goals
       go_enter Tryz.func120,Tryz.ntmps120
       go_wp2
       go_ret
       exact ⟨zaI HV.out.symm,HB.out⟩
    ·have HV:=yb (show V=2 by rw [hV,yh];rintro ⟨h,-⟩;unfold za7 at h;rw [<-toL] at h;simp at h;exact h3 h.1)
     have HB:=yb (zae w (.cells #[.int .i64 k,.int .i64 n,.string s,.slice a m c] 25))
     have h3e:s.toList.isEmpty=false:=by simpa using h3
     clear hV hk2 h1 h2
     rcases hk with rfl|rfl<;>(simp at hL;subst hL)
     all_goals
      go_enter Tryz.func120,Tryz.ntmps120
      go_wp2
      go_ret
      exact ⟨zaI HV.out.symm,HB.out⟩
 ·have HV:=yb (show V=2 by rw [hV,yh];rintro ⟨-,h|h⟩<;>exact hk (by omega))
  have HB:=yb (zae w (.cells #[.int .i64 k,.int .i64 n,.string s,.slice a m c] 25))
  have hk2:(k==2)=false:=by rw [yf];omega
  have hk3:(k==3)=false:=by rw [yf];omega
  clear hV hk
  go_enter Tryz.func120,Tryz.ntmps120
  go_wp2
  go_ret
  exact ⟨zaI HV.out.symm,HB.out⟩
theorem zay:(Tryz.prog.info? 25).map (·.size)=some 4:=by kernel_rfl
theorem zac {P:Program} {fn:Func} {p u:Tmp} {ty:TypeId} (h:fn.results=#[.cell p ty,.tmp u]) (tmps:Array Value) (w:World) (g:Nat) (t:TypeId) (cs:Array Value) (fr:Nat×Nat) (d:TypeDesc)
  (hp:tmps.getD p undef=.pointer (some ⟨g,0,none⟩)) (hg:w.heap[g]?=some (.cells cs t fr))
  (hu:P.underlying ty=some d) (hd:(match d with | .struct _ | .array _ _=>true|_=>false)=true) (hi:(P.info? ty).map (·.size)=some cs.size) (v:Value) (hv:tmps.getD u undef=v) :
  (results fn tmps).run P w=.ok (.tuple #[.agg cs,v]) w:=by
 rw [results_cell_tmp h,hp,hv]
 simp [asAddr,Result.andThen,run_loadVar_row w g t ty cs fr d hg hu hd hi]
theorem set4 {w:World} {b:Nat} {x0 x1 x2 x3:Value} {t:TypeId} (h:w.heap[b]?=some (.cells #[x0,x1,x2,x3] t (0,0))) (y0 y1 y2 y3:Value) :
  ((((w.setCell ⟨b,0,none⟩ y0).setCell ⟨b,1,none⟩ y1).setCell ⟨b,2,none⟩ y2).setCell ⟨b,3,none⟩ y3).heap[b]?=some (.cells #[y0,y1,y2,y3] t (0,0)):=by
 rw [heap_setCell_same _ _ 3 _ _ _ (heap_setCell_same _ _ 2 _ _ _ (heap_setCell_same _ _ 1 _ _ _ (heap_setCell_same w _ 0 _ _ _ h)))];rfl
theorem zan {B:Nat} {w0 w:World} (h:Below B w0 w) {b:Nat} (hb:B<=b) (y0 y1 y2 y3:Value) :
  Below B w0 ((((w.setCell ⟨b,0,none⟩ y0).setCell ⟨b,1,none⟩ y1).setCell ⟨b,2,none⟩ y2).setCell ⟨b,3,none⟩ y3) :=
 (((h.setCell hb _).setCell hb _).setCell hb _).setCell hb _
theorem zah {w:World} {b:Nat} {x0 x1 x2 x3:Value} {t:TypeId} (h:w.heap[b]?=some (.cells #[x0,x1,x2,x3] t (0,0))) :
  (w.cell? ⟨b,0,none⟩=some x0/\w.cell? ⟨b,1,none⟩=some x1/\w.cell? ⟨b,2,none⟩=some x2/\w.cell? ⟨b,3,none⟩=some x3) /\
  (w.frozen? ⟨b,0,none⟩=false/\w.frozen? ⟨b,1,none⟩=false/\w.frozen? ⟨b,2,none⟩=false/\w.frozen? ⟨b,3,none⟩=false):=by
 refine ⟨⟨?_,?_,?_,?_⟩,frozen_of_row w b 0 _ _ h,frozen_of_row w b 1 _ _ h,frozen_of_row w b 2 _ _ h,frozen_of_row w b 3 _ _ h⟩
 ·rw [cell_of_row w b 0 _ _ _ h];rfl
 ·rw [cell_of_row w b 1 _ _ _ h];rfl
 ·rw [cell_of_row w b 2 _ _ _ h];rfl
 ·rw [cell_of_row w b 3 _ _ _ h];rfl
def ParseEnd (V:Int×Int×Int) (w:World) (e:Ending) (w':World):Prop:=e=.returned (.tuple #[.agg (valC V.1 V.2.1 zbB),.int .i64 V.2.2])/\Below w.heap.size w w'
theorem digits0 (l:List UInt8) (h:l.all isDg=true):zaA (48::l)=if 2147483647<valD l then (0,5) else (((valD l:Nat):Int),0):=by
 have hv:valD (48::l)=valD l:=valD_zl 1 l
 have ha:(48::l).all isDg=true:=by rw [List.all_cons,h];rfl
 by_cases ho:2147483647<valD l
 ·rw [yg ho,zd6 (by simp) ha (by rw [hv];exact ho)]
 ·rw [yh ho,zb7 (by simp) ha (by rw [hv];omega),hv]
theorem zda {s:ByteArray} {c:UInt8} (h:hd1 s c=true):(bl s).head?=some c/\1<=s.size:=by
 unfold hd1 at h
 have h2:(bl s).head?=some c:=by simpa using h
 refine ⟨h2,?_⟩
 have:bl s≠[]:=by intro e;rw [e] at h2;simp at h2
 have h3:=List.length_pos_iff.2 this
 rw [zaR] at h3;exact h3
theorem zdg {s:ByteArray} {c:UInt8} (h:hd1 s c=false):(bl s).head?≠some c:=by
 unfold hd1 at h;simpa using h
theorem body_from {s:ByteArray} (h:(bl s).head?=some 45\/(bl s).head?=some 43) (_h1:1<=s.size):bl (s.extract 1 s.size)=zd0 (bl s):=by
 unfold zd0;rw [yg h,bl_from,List.drop_one]
theorem parse_any (s:ByteArray) (w:World) (hs:s.size<=400000) :
  Calls Tryz.prog 181 #[.string s] w (ParseEnd (zbf (bl s)) w):=by
 have hbx:(w.alloc (.cells #[.int .i64 0,.int .i64 0,.string ⟨#[]⟩,.slice none 0 0] 25)).heap[w.heap.size]?=some (.cells #[.int .i64 0,.int .i64 0,.string ⟨#[]⟩,.slice none 0 0] 25 (0,0)):=zab _ rfl
 have hB0:=zae w (.cells #[.int .i64 0,.int .i64 0,.string ⟨#[]⟩,.slice none 0 0] 25)
 have HBX:=yb hbx
 have HB0:=yb hB0
 obtain ⟨V,hV⟩:∃V,V=zbf (bl s):=⟨_,rfl⟩
 rw [<-hV]
 have HV:=yb hV
 clear hV hbx hB0
 obtain ⟨c1,hc1⟩:∃c,hd1 s 45=c:=⟨_,rfl⟩
 obtain ⟨c2,hc2⟩:∃c,hd1 s 43=c:=⟨_,rfl⟩
 have HP1:=yb (fun W=>ze3 s 45 W (by omega))
 have HP2:=yb (fun W=>ze3 s 43 W (by omega))
 rw [hc1] at HP1
 rw [hc2] at HP2
 have HC1:=yb hc1
 have HC2:=yb hc2
 clear hc1 hc2
 cases c1
 case true =>
  have hz:=(zda HC1.out).2
  have HS:=yb (show V=zbe (-1) (bl (s.extract 1 s.size)) by
   rw [HV.out,zbf,body_from (.inl (zda HC1.out).1) hz];unfold zdY;rw [yg (zda HC1.out).1])
  have hsz:(s.extract 1 s.size).size<=400000:=by rw [ByteArray.size_extract];omega
  go_enter Tryz.func181,Tryz.ntmps181
  go_wp2_with (go_at_call 116;refine (HP1.out _).mono ?_;rintro e w' ⟨rfl,rfl⟩)
  go_quiet (fail)
  generalize s.extract 1 s.size=b at *
  go_wp2_with fail
  refine (cut_any b _ (by omega)).mono ?_
  rintro e w' ⟨F,R,rfl,h1,h2,h3,h4,q,rfl⟩
  have HK2:=yb (show (((w.alloc (.cells #[.int .i64 0,.int .i64 0,.string ⟨#[]⟩,.slice none 0 0] 25)).drewN nq).drewN q).heap[w.heap.size]?=some (.cells #[.int .i64 0,.int .i64 0,.string ⟨#[]⟩,.slice none 0 0] 25 (0,0)) from HBX.out)
  have HB2:=yb (show Below w.heap.size w (((w.alloc (.cells #[.int .i64 0,.int .i64 0,.string ⟨#[]⟩,.slice none 0 0] 25)).drewN nq).drewN q) from zad (zad HB0.out nq) q)
  generalize (((w.alloc (.cells #[.int .i64 0,.int .i64 0,.string ⟨#[]⟩,.slice none 0 0] 25)).drewN nq).drewN q)=w2 at *
  have HF:=yb h1
  have HR:=yb h2
  obtain ⟨pt,hpt⟩:∃pt,zdJ (bl b)=pt:=⟨_,rfl⟩
  rw [hpt]
  have HPT:=yb hpt
  clear h1 h2 hpt
  have hw2:=HB2.out.size
  have HALF:=yb (fun W=>zdC F W)
  have HALR:=yb (fun W=>zdC R W)
  by_cases hz:F.size+R.size=0
  ·have HL:=yb (show V=(0,0,11) by
    rw [HS.out];unfold zbe;rw [yg (.inl (by rw [<-HF.out,<-HR.out,zaR,zaR];exact hz))])
   have hz0:(((F.size:Int)+(R.size:Int))==0)=true:=by rw [beq_iff_eq];omega
   obtain ⟨⟨k0,k1,k2,k3⟩,f0,f1,f2,f3⟩:=zah HK2.out
   go_wp2
   refine yi (zac rfl _ _ w.heap.size 25 _ (0,0) _ rfl (set4 HK2.out _ _ _ _) Tryz.underlying25 rfl zay _ rfl) rfl ⟨?_,zan HB2.out (yp _) _ _ _ _⟩
   rw [HL.out]
   rfl
  ·have hz0:(((F.size:Int)+(R.size:Int))==0)=false:=by rw [yf];omega
   obtain ⟨cF,hcF⟩:∃c,(bl F).all isDg=c:=⟨_,rfl⟩
   obtain ⟨cR,hcR⟩:∃c,(bl R).all isDg=c:=⟨_,rfl⟩
   rw [hcF] at HALF
   rw [hcR] at HALR
   have HCF:=yb hcF
   have HCR:=yb hcR
   clear hcF hcR
   cases cF
   case false =>
    have HL:=yb (show V=(0,0,11) by
     rw [HS.out];unfold zbe;rw [yg (.inr (.inl (by rw [<-HF.out];exact HCF.out)))])
    go_wp2_with fail
    refine (HALF.out _).mono ?_
    rintro e w3 ⟨rfl,hb3⟩
    have h3k:=zaa hb3 HK2.out
    have HB3:=yb (HB2.out.trans (hb3.mono hw2))
    obtain ⟨⟨k0,k1,k2,k3⟩,f0,f1,f2,f3⟩:=zah h3k
    have HK3:=yb h3k
    clear h3k hb3
    go_wp2
    refine yi (zac rfl _ _ w.heap.size 25 _ (0,0) _ rfl (set4 HK3.out _ _ _ _) Tryz.underlying25 rfl zay _ rfl) rfl ⟨?_,zan HB3.out (yp _) _ _ _ _⟩
    rw [HL.out]
    rfl
   go_wp2_with fail
   refine (HALF.out _).mono ?_
   rintro e w3 ⟨rfl,hb3⟩
   have HK3:=yb (zaa hb3 HK2.out)
   have HB3:=yb (HB2.out.trans (hb3.mono hw2))
   clear hb3
   go_wp2_with fail
   refine (HALR.out _).mono ?_
   rintro e w4 ⟨rfl,hb4⟩
   have HK4:=yb (zaa hb4 HK3.out)
   have HB4:=yo HB3 hb4
   clear hb4
   cases cR
   case false =>
    have HL:=yb (show V=(0,0,11) by
     rw [HS.out];unfold zbe;rw [yg (.inr (.inr (by rw [<-HR.out];exact HCR.out)))])
    obtain ⟨⟨k0,k1,k2,k3⟩,f0,f1,f2,f3⟩:=zah HK4.out
    go_wp2
    refine yi (zac rfl _ _ w.heap.size 25 _ (0,0) _ rfl (set4 HK4.out _ _ _ _) Tryz.underlying25 rfl zay _ rfl) rfl ⟨?_,zan HB4.out (yp _) _ _ _ _⟩
    rw [HL.out]
    rfl
   have hd0:bl (⟨#[48]⟩++F:ByteArray)=48::bl F:=by rw [zdp];rfl
   have hdig:=fun W=>zb9 (⟨#[48]⟩++F) W
   rw [hd0,digits0 _ HCF.out] at hdig
   have HDIG:=yb hdig
   have HL:=yb (show V=if 2147483647<valD (bl F) then (0,0,5) else if pt=false then (2,(-1:Int)*(valD (bl F):Nat),0) else if 2147483647000000<valD (bl F)*1000000+mil (bl R) then (0,0,5) else (3,(-1:Int)*((valD (bl F)*1000000+mil (bl R):Nat):Int),0) by
    rw [HS.out];unfold zbe
    rw [yh (by
     rintro (h|h|h)
     ·rw [<-HF.out,<-HR.out,zaR,zaR] at h;exact hz h
     ·rw [<-HF.out,HCF.out] at h;cases h
     ·rw [<-HR.out,HCR.out] at h;cases h),HPT.out,<-HF.out,<-HR.out])
   have HMIL:=yb (fun W=>zb3 R W (by omega) HCR.out)
   have hml:=zfw (bl R) HCR.out
   have hszF:(⟨#[48]⟩++F:ByteArray).size=F.size+1:=by rw [zc1,Nat.add_comm];rfl
   clear hdig hd0
   generalize valD (bl F)=n at *
   generalize mil (bl R)=m at *
   by_cases hov:2147483647<n
   ·rw [yg hov] at HDIG
    rw [yg hov] at HL
    clear hov
    go_wp2_with fail
    refine (HDIG.out _).mono ?_
    rintro e w5 ⟨rfl,hb5⟩
    have HK5:=yb (zaa hb5 HK4.out)
    have HB5:=yo HB4 hb5
    obtain ⟨⟨k0,k1,k2,k3⟩,f0,f1,f2,f3⟩:=zah HK5.out
    clear hb5
    go_wp2
    refine yi (zac rfl _ _ w.heap.size 25 _ (0,0) _ rfl (set4 HK5.out _ _ _ _) Tryz.underlying25 rfl zay _ rfl) rfl ⟨?_,zan HB5.out (yp _) _ _ _ _⟩
    rw [HL.out]
    rfl
   rw [yh hov] at HDIG
   rw [yh hov] at HL
   have hn:(n:Int)<=2147483647:=by omega
   clear hov
   go_wp2_with fail
   refine (HDIG.out _).mono ?_
   rintro e w5 ⟨rfl,hb5⟩
   have HK5:=yb (zaa hb5 HK4.out)
   have HB5:=yo HB4 hb5
   obtain ⟨⟨k0,k1,k2,k3⟩,f0,f1,f2,f3⟩:=zah HK5.out
   clear hb5
   cases pt
   case false =>
    rw [yg rfl] at HL
    go_wp2
    refine yi (zac rfl _ _ w.heap.size 25 _ (0,0) _ rfl (set4 HK5.out _ _ _ _) Tryz.underlying25 rfl zay _ rfl) rfl ⟨?_,zan HB5.out (yp _) _ _ _ _⟩
    rw [HL.out]
    simp [valC,zbB]
   rw [yh (by decide)] at HL
   clear k0 k1 k2 k3 f0 f1 f2 f3
   go_wp2_with fail
   refine (HMIL.out _).mono ?_
   rintro e w6 ⟨rfl,hb6⟩
   have HK6:=yb (zaa hb6 HK5.out)
   have HB6:=yo HB5 hb6
   clear hb6
   have hw6:=(Array.getElem?_eq_some_iff.1 HK6.out).1
   have hck:zaD 3 (-((n:Int)*1000000+(m:Int))) (za7 ⟨#[]⟩ 0)=if 2147483647000000<n*1000000+m then 2 else 0:=by
    unfold zaD
    by_cases hb:2147483647000000<n*1000000+m
    ·rw [yg hb,yh];rintro ⟨-,h|h⟩<;>omega
    ·rw [yh hb,yg];exact ⟨rfl,.inr ⟨rfl,by omega,by omega⟩⟩
   have HCK:=yb (fun W=>zcj 3 (-((n:Int)*1000000+(m:Int))) ⟨#[]⟩ none 0 0 W (by omega))
   rw [hck] at HCK
   clear hck
   go_wp2_with fail
   refine (HCK.out _).mono ?_
   rintro e w7 ⟨rfl,hb7⟩
   have HK7:=yb (zaa hb7 (zak _ HK6.out))
   have hq7:=zaa hb7 (zab _ rfl)
   have HB7:=yb ((HB6.out.alloc (Nat.le_of_lt hw6) (.cells #[.int .i64 3,.int .i64 (-((n:Int)*1000000+(m:Int))),.string ⟨#[]⟩,.slice none 0 0] 25)).trans (hb7.mono (by rw [zaq];omega)))
   obtain ⟨⟨k0,k1,k2,k3⟩,f0,f1,f2,f3⟩:=zah HK7.out
   obtain ⟨⟨g0,g1,g2,g3⟩,-⟩:=zah hq7
   clear hb7 hq7
   by_cases hbig:2147483647000000<n*1000000+m
   ·rw [yg hbig] at HL |-
    clear hbig
    go_wp2
    refine yi (zac rfl _ _ w.heap.size 25 _ (0,0) _ rfl (set4 HK7.out _ _ _ _) Tryz.underlying25 rfl zay _ rfl) rfl ⟨?_,zan HB7.out (yp _) _ _ _ _⟩
    rw [HL.out]
    rfl
   ·rw [yh hbig] at HL |-
    clear hbig
    go_wp2
    refine yi (zac rfl _ _ w.heap.size 25 _ (0,0) _ rfl (set4 HK7.out _ _ _ _) Tryz.underlying25 rfl zay _ rfl) rfl ⟨?_,zan HB7.out (yp _) _ _ _ _⟩
    rw [HL.out]
    simp [valC,zbB]
 case false =>
 cases c2
 case true =>
  have hz:=(zda HC2.out).2
  have HS:=yb (show V=zbe 1 (bl (s.extract 1 s.size)) by
   rw [HV.out,zbf,body_from (.inr (zda HC2.out).1) hz];unfold zdY;rw [yh (zdg HC1.out)])
  have hsz:(s.extract 1 s.size).size<=400000:=by rw [ByteArray.size_extract];omega
  go_enter Tryz.func181,Tryz.ntmps181
  go_wp2_with (go_at_call 116;first|(refine (HP1.out _).mono ?_;rintro e w' ⟨rfl,rfl⟩)|(refine (HP2.out _).mono ?_;rintro e w' ⟨rfl,rfl⟩))
  generalize s.extract 1 s.size=b at *
  go_wp2_with fail
  refine (cut_any b _ (by omega)).mono ?_
  rintro e w' ⟨F,R,rfl,h1,h2,h3,h4,q,rfl⟩
  have HK2:=yb (show ((w.alloc (.cells #[.int .i64 0,.int .i64 0,.string ⟨#[]⟩,.slice none 0 0] 25)).drewN q).heap[w.heap.size]?=some (.cells #[.int .i64 0,.int .i64 0,.string ⟨#[]⟩,.slice none 0 0] 25 (0,0)) from HBX.out)
  have HB2:=yb (show Below w.heap.size w ((w.alloc (.cells #[.int .i64 0,.int .i64 0,.string ⟨#[]⟩,.slice none 0 0] 25)).drewN q) from zad HB0.out q)
  generalize ((w.alloc (.cells #[.int .i64 0,.int .i64 0,.string ⟨#[]⟩,.slice none 0 0] 25)).drewN q)=w2 at *
  have HF:=yb h1
  have HR:=yb h2
  obtain ⟨pt,hpt⟩:∃pt,zdJ (bl b)=pt:=⟨_,rfl⟩
  rw [hpt]
  have HPT:=yb hpt
  clear h1 h2 hpt
  have hw2:=HB2.out.size
  have HALF:=yb (fun W=>zdC F W)
  have HALR:=yb (fun W=>zdC R W)
  by_cases hz:F.size+R.size=0
  ·have HL:=yb (show V=(0,0,11) by
    rw [HS.out];unfold zbe;rw [yg (.inl (by rw [<-HF.out,<-HR.out,zaR,zaR];exact hz))])
   have hz0:(((F.size:Int)+(R.size:Int))==0)=true:=by rw [beq_iff_eq];omega
   obtain ⟨⟨k0,k1,k2,k3⟩,f0,f1,f2,f3⟩:=zah HK2.out
   go_wp2
   refine yi (zac rfl _ _ w.heap.size 25 _ (0,0) _ rfl (set4 HK2.out _ _ _ _) Tryz.underlying25 rfl zay _ rfl) rfl ⟨?_,zan HB2.out (yp _) _ _ _ _⟩
   rw [HL.out]
   rfl
  ·have hz0:(((F.size:Int)+(R.size:Int))==0)=false:=by rw [yf];omega
   obtain ⟨cF,hcF⟩:∃c,(bl F).all isDg=c:=⟨_,rfl⟩
   obtain ⟨cR,hcR⟩:∃c,(bl R).all isDg=c:=⟨_,rfl⟩
   rw [hcF] at HALF
   rw [hcR] at HALR
   have HCF:=yb hcF
   have HCR:=yb hcR
   clear hcF hcR
   cases cF
   case false =>
    have HL:=yb (show V=(0,0,11) by
     rw [HS.out];unfold zbe;rw [yg (.inr (.inl (by rw [<-HF.out];exact HCF.out)))])
    go_wp2_with fail
    refine (HALF.out _).mono ?_
    rintro e w3 ⟨rfl,hb3⟩
    have h3k:=zaa hb3 HK2.out
    have HB3:=yb (HB2.out.trans (hb3.mono hw2))
    obtain ⟨⟨k0,k1,k2,k3⟩,f0,f1,f2,f3⟩:=zah h3k
    have HK3:=yb h3k
    clear h3k hb3
    go_wp2
    refine yi (zac rfl _ _ w.heap.size 25 _ (0,0) _ rfl (set4 HK3.out _ _ _ _) Tryz.underlying25 rfl zay _ rfl) rfl ⟨?_,zan HB3.out (yp _) _ _ _ _⟩
    rw [HL.out]
    rfl
   go_wp2_with fail
   refine (HALF.out _).mono ?_
   rintro e w3 ⟨rfl,hb3⟩
   have HK3:=yb (zaa hb3 HK2.out)
   have HB3:=yb (HB2.out.trans (hb3.mono hw2))
   clear hb3
   go_wp2_with fail
   refine (HALR.out _).mono ?_
   rintro e w4 ⟨rfl,hb4⟩
   have HK4:=yb (zaa hb4 HK3.out)
   have HB4:=yo HB3 hb4
   clear hb4
   cases cR
   case false =>
    have HL:=yb (show V=(0,0,11) by
     rw [HS.out];unfold zbe;rw [yg (.inr (.inr (by rw [<-HR.out];exact HCR.out)))])
    obtain ⟨⟨k0,k1,k2,k3⟩,f0,f1,f2,f3⟩:=zah HK4.out
    go_wp2
    refine yi (zac rfl _ _ w.heap.size 25 _ (0,0) _ rfl (set4 HK4.out _ _ _ _) Tryz.underlying25 rfl zay _ rfl) rfl ⟨?_,zan HB4.out (yp _) _ _ _ _⟩
    rw [HL.out]
    rfl
   have hd0:bl (⟨#[48]⟩++F:ByteArray)=48::bl F:=by rw [zdp];rfl
   have hdig:=fun W=>zb9 (⟨#[48]⟩++F) W
   rw [hd0,digits0 _ HCF.out] at hdig
   have HDIG:=yb hdig
   have HL:=yb (show V=if 2147483647<valD (bl F) then (0,0,5) else if pt=false then (2,(1:Int)*(valD (bl F):Nat),0) else if 2147483647000000<valD (bl F)*1000000+mil (bl R) then (0,0,5) else (3,(1:Int)*((valD (bl F)*1000000+mil (bl R):Nat):Int),0) by
    rw [HS.out];unfold zbe
    rw [yh (by
     rintro (h|h|h)
     ·rw [<-HF.out,<-HR.out,zaR,zaR] at h;exact hz h
     ·rw [<-HF.out,HCF.out] at h;cases h
     ·rw [<-HR.out,HCR.out] at h;cases h),HPT.out,<-HF.out,<-HR.out])
   have HMIL:=yb (fun W=>zb3 R W (by omega) HCR.out)
   have hml:=zfw (bl R) HCR.out
   have hszF:(⟨#[48]⟩++F:ByteArray).size=F.size+1:=by rw [zc1,Nat.add_comm];rfl
   clear hdig hd0
   generalize valD (bl F)=n at *
   generalize mil (bl R)=m at *
   by_cases hov:2147483647<n
   ·rw [yg hov] at HDIG
    rw [yg hov] at HL
    clear hov
    go_wp2_with fail
    refine (HDIG.out _).mono ?_
    rintro e w5 ⟨rfl,hb5⟩
    have HK5:=yb (zaa hb5 HK4.out)
    have HB5:=yo HB4 hb5
    obtain ⟨⟨k0,k1,k2,k3⟩,f0,f1,f2,f3⟩:=zah HK5.out
    clear hb5
    go_wp2
    refine yi (zac rfl _ _ w.heap.size 25 _ (0,0) _ rfl (set4 HK5.out _ _ _ _) Tryz.underlying25 rfl zay _ rfl) rfl ⟨?_,zan HB5.out (yp _) _ _ _ _⟩
    rw [HL.out]
    rfl
   rw [yh hov] at HDIG
   rw [yh hov] at HL
   have hn:(n:Int)<=2147483647:=by omega
   clear hov
   go_wp2_with fail
   refine (HDIG.out _).mono ?_
   rintro e w5 ⟨rfl,hb5⟩
   have HK5:=yb (zaa hb5 HK4.out)
   have HB5:=yo HB4 hb5
   obtain ⟨⟨k0,k1,k2,k3⟩,f0,f1,f2,f3⟩:=zah HK5.out
   clear hb5
   cases pt
   case false =>
    rw [yg rfl] at HL
    go_wp2
    refine yi (zac rfl _ _ w.heap.size 25 _ (0,0) _ rfl (set4 HK5.out _ _ _ _) Tryz.underlying25 rfl zay _ rfl) rfl ⟨?_,zan HB5.out (yp _) _ _ _ _⟩
    rw [HL.out]
    simp [valC,zbB]
   rw [yh (by decide)] at HL
   clear k0 k1 k2 k3 f0 f1 f2 f3
   go_wp2_with fail
   refine (HMIL.out _).mono ?_
   rintro e w6 ⟨rfl,hb6⟩
   have HK6:=yb (zaa hb6 HK5.out)
   have HB6:=yo HB5 hb6
   clear hb6
   have hw6:=(Array.getElem?_eq_some_iff.1 HK6.out).1
   have hck:zaD 3 ((n:Int)*1000000+(m:Int)) (za7 ⟨#[]⟩ 0)=if 2147483647000000<n*1000000+m then 2 else 0:=by
    unfold zaD
    by_cases hb:2147483647000000<n*1000000+m
    ·rw [yg hb,yh];rintro ⟨-,h|h⟩<;>omega
    ·rw [yh hb,yg];exact ⟨rfl,.inr ⟨rfl,by omega,by omega⟩⟩
   have HCK:=yb (fun W=>zcj 3 ((n:Int)*1000000+(m:Int)) ⟨#[]⟩ none 0 0 W (by omega))
   rw [hck] at HCK
   clear hck
   go_wp2_with fail
   refine (HCK.out _).mono ?_
   rintro e w7 ⟨rfl,hb7⟩
   have HK7:=yb (zaa hb7 (zak _ HK6.out))
   have hq7:=zaa hb7 (zab _ rfl)
   have HB7:=yb ((HB6.out.alloc (Nat.le_of_lt hw6) (.cells #[.int .i64 3,.int .i64 ((n:Int)*1000000+(m:Int)),.string ⟨#[]⟩,.slice none 0 0] 25)).trans (hb7.mono (by rw [zaq];omega)))
   obtain ⟨⟨k0,k1,k2,k3⟩,f0,f1,f2,f3⟩:=zah HK7.out
   obtain ⟨⟨g0,g1,g2,g3⟩,-⟩:=zah hq7
   clear hb7 hq7
   by_cases hbig:2147483647000000<n*1000000+m
   ·rw [yg hbig] at HL |-
    clear hbig
    go_wp2
    refine yi (zac rfl _ _ w.heap.size 25 _ (0,0) _ rfl (set4 HK7.out _ _ _ _) Tryz.underlying25 rfl zay _ rfl) rfl ⟨?_,zan HB7.out (yp _) _ _ _ _⟩
    rw [HL.out]
    rfl
   ·rw [yh hbig] at HL |-
    clear hbig
    go_wp2
    refine yi (zac rfl _ _ w.heap.size 25 _ (0,0) _ rfl (set4 HK7.out _ _ _ _) Tryz.underlying25 rfl zay _ rfl) rfl ⟨?_,zan HB7.out (yp _) _ _ _ _⟩
    rw [HL.out]
    simp [valC,zbB]
 case false =>
  have HS:=yb (show V=zbe 1 (bl s) by
   rw [HV.out,zbf,show zd0 (bl s)=bl s from by unfold zd0;rw [yh (by rintro (h|h);exact zdg HC1.out h;exact zdg HC2.out h)]];unfold zdY;rw [yh (zdg HC1.out)])
  have hsz:=hs
  obtain ⟨b,hb⟩:∃b,b=s:=⟨_,rfl⟩
  rw [<-hb] at HS
  go_enter Tryz.func181,Tryz.ntmps181
  go_wp2_with (go_at_call 116;first|(refine (HP1.out _).mono ?_;rintro e w' ⟨rfl,rfl⟩)|(refine (HP2.out _).mono ?_;rintro e w' ⟨rfl,rfl⟩))
  subst hb
  go_wp2_with fail
  refine (cut_any b _ (by omega)).mono ?_
  rintro e w' ⟨F,R,rfl,h1,h2,h3,h4,q,rfl⟩
  have HK2:=yb (show ((w.alloc (.cells #[.int .i64 0,.int .i64 0,.string ⟨#[]⟩,.slice none 0 0] 25)).drewN q).heap[w.heap.size]?=some (.cells #[.int .i64 0,.int .i64 0,.string ⟨#[]⟩,.slice none 0 0] 25 (0,0)) from HBX.out)
  have HB2:=yb (show Below w.heap.size w ((w.alloc (.cells #[.int .i64 0,.int .i64 0,.string ⟨#[]⟩,.slice none 0 0] 25)).drewN q) from zad HB0.out q)
  generalize ((w.alloc (.cells #[.int .i64 0,.int .i64 0,.string ⟨#[]⟩,.slice none 0 0] 25)).drewN q)=w2 at *
  have HF:=yb h1
  have HR:=yb h2
  obtain ⟨pt,hpt⟩:∃pt,zdJ (bl b)=pt:=⟨_,rfl⟩
  rw [hpt]
  have HPT:=yb hpt
  clear h1 h2 hpt
  have hw2:=HB2.out.size
  have HALF:=yb (fun W=>zdC F W)
  have HALR:=yb (fun W=>zdC R W)
  by_cases hz:F.size+R.size=0
  ·have HL:=yb (show V=(0,0,11) by
    rw [HS.out];unfold zbe;rw [yg (.inl (by rw [<-HF.out,<-HR.out,zaR,zaR];exact hz))])
   have hz0:(((F.size:Int)+(R.size:Int))==0)=true:=by rw [beq_iff_eq];omega
   obtain ⟨⟨k0,k1,k2,k3⟩,f0,f1,f2,f3⟩:=zah HK2.out
   go_wp2
   refine yi (zac rfl _ _ w.heap.size 25 _ (0,0) _ rfl (set4 HK2.out _ _ _ _) Tryz.underlying25 rfl zay _ rfl) rfl ⟨?_,zan HB2.out (yp _) _ _ _ _⟩
   rw [HL.out]
   rfl
  ·have hz0:(((F.size:Int)+(R.size:Int))==0)=false:=by rw [yf];omega
   obtain ⟨cF,hcF⟩:∃c,(bl F).all isDg=c:=⟨_,rfl⟩
   obtain ⟨cR,hcR⟩:∃c,(bl R).all isDg=c:=⟨_,rfl⟩
   rw [hcF] at HALF
   rw [hcR] at HALR
   have HCF:=yb hcF
   have HCR:=yb hcR
   clear hcF hcR
   cases cF
   case false =>
    have HL:=yb (show V=(0,0,11) by
     rw [HS.out];unfold zbe;rw [yg (.inr (.inl (by rw [<-HF.out];exact HCF.out)))])
    go_wp2_with fail
    refine (HALF.out _).mono ?_
    rintro e w3 ⟨rfl,hb3⟩
    have h3k:=zaa hb3 HK2.out
    have HB3:=yb (HB2.out.trans (hb3.mono hw2))
    obtain ⟨⟨k0,k1,k2,k3⟩,f0,f1,f2,f3⟩:=zah h3k
    have HK3:=yb h3k
    clear h3k hb3
    go_wp2
    refine yi (zac rfl _ _ w.heap.size 25 _ (0,0) _ rfl (set4 HK3.out _ _ _ _) Tryz.underlying25 rfl zay _ rfl) rfl ⟨?_,zan HB3.out (yp _) _ _ _ _⟩
    rw [HL.out]
    rfl
   go_wp2_with fail
   refine (HALF.out _).mono ?_
   rintro e w3 ⟨rfl,hb3⟩
   have HK3:=yb (zaa hb3 HK2.out)
   have HB3:=yb (HB2.out.trans (hb3.mono hw2))
   clear hb3
   go_wp2_with fail
   refine (HALR.out _).mono ?_
   rintro e w4 ⟨rfl,hb4⟩
   have HK4:=yb (zaa hb4 HK3.out)
   have HB4:=yo HB3 hb4
   clear hb4
   cases cR
   case false =>
    have HL:=yb (show V=(0,0,11) by
     rw [HS.out];unfold zbe;rw [yg (.inr (.inr (by rw [<-HR.out];exact HCR.out)))])
    obtain ⟨⟨k0,k1,k2,k3⟩,f0,f1,f2,f3⟩:=zah HK4.out
    go_wp2
    refine yi (zac rfl _ _ w.heap.size 25 _ (0,0) _ rfl (set4 HK4.out _ _ _ _) Tryz.underlying25 rfl zay _ rfl) rfl ⟨?_,zan HB4.out (yp _) _ _ _ _⟩
    rw [HL.out]
    rfl
   have hd0:bl (⟨#[48]⟩++F:ByteArray)=48::bl F:=by rw [zdp];rfl
   have hdig:=fun W=>zb9 (⟨#[48]⟩++F) W
   rw [hd0,digits0 _ HCF.out] at hdig
   have HDIG:=yb hdig
   have HL:=yb (show V=if 2147483647<valD (bl F) then (0,0,5) else if pt=false then (2,(1:Int)*(valD (bl F):Nat),0) else if 2147483647000000<valD (bl F)*1000000+mil (bl R) then (0,0,5) else (3,(1:Int)*((valD (bl F)*1000000+mil (bl R):Nat):Int),0) by
    rw [HS.out];unfold zbe
    rw [yh (by
     rintro (h|h|h)
     ·rw [<-HF.out,<-HR.out,zaR,zaR] at h;exact hz h
     ·rw [<-HF.out,HCF.out] at h;cases h
     ·rw [<-HR.out,HCR.out] at h;cases h),HPT.out,<-HF.out,<-HR.out])
   have HMIL:=yb (fun W=>zb3 R W (by omega) HCR.out)
   have hml:=zfw (bl R) HCR.out
   have hszF:(⟨#[48]⟩++F:ByteArray).size=F.size+1:=by rw [zc1,Nat.add_comm];rfl
   clear hdig hd0
   generalize valD (bl F)=n at *
   generalize mil (bl R)=m at *
   by_cases hov:2147483647<n
   ·rw [yg hov] at HDIG
    rw [yg hov] at HL
    clear hov
    go_wp2_with fail
    refine (HDIG.out _).mono ?_
    rintro e w5 ⟨rfl,hb5⟩
    have HK5:=yb (zaa hb5 HK4.out)
    have HB5:=yo HB4 hb5
    obtain ⟨⟨k0,k1,k2,k3⟩,f0,f1,f2,f3⟩:=zah HK5.out
    clear hb5
    go_wp2
    refine yi (zac rfl _ _ w.heap.size 25 _ (0,0) _ rfl (set4 HK5.out _ _ _ _) Tryz.underlying25 rfl zay _ rfl) rfl ⟨?_,zan HB5.out (yp _) _ _ _ _⟩
    rw [HL.out]
    rfl
   rw [yh hov] at HDIG
   rw [yh hov] at HL
   have hn:(n:Int)<=2147483647:=by omega
   clear hov
   go_wp2_with fail
   refine (HDIG.out _).mono ?_
   rintro e w5 ⟨rfl,hb5⟩
   have HK5:=yb (zaa hb5 HK4.out)
   have HB5:=yo HB4 hb5
   obtain ⟨⟨k0,k1,k2,k3⟩,f0,f1,f2,f3⟩:=zah HK5.out
   clear hb5
   cases pt
   case false =>
    rw [yg rfl] at HL
    go_wp2
    refine yi (zac rfl _ _ w.heap.size 25 _ (0,0) _ rfl (set4 HK5.out _ _ _ _) Tryz.underlying25 rfl zay _ rfl) rfl ⟨?_,zan HB5.out (yp _) _ _ _ _⟩
    rw [HL.out]
    simp [valC,zbB]
   rw [yh (by decide)] at HL
   clear k0 k1 k2 k3 f0 f1 f2 f3
   go_wp2_with fail
   refine (HMIL.out _).mono ?_
   rintro e w6 ⟨rfl,hb6⟩
   have HK6:=yb (zaa hb6 HK5.out)
   have HB6:=yo HB5 hb6
   clear hb6
   have hw6:=(Array.getElem?_eq_some_iff.1 HK6.out).1
   have hck:zaD 3 ((n:Int)*1000000+(m:Int)) (za7 ⟨#[]⟩ 0)=if 2147483647000000<n*1000000+m then 2 else 0:=by
    unfold zaD
    by_cases hb:2147483647000000<n*1000000+m
    ·rw [yg hb,yh];rintro ⟨-,h|h⟩<;>omega
    ·rw [yh hb,yg];exact ⟨rfl,.inr ⟨rfl,by omega,by omega⟩⟩
   have HCK:=yb (fun W=>zcj 3 ((n:Int)*1000000+(m:Int)) ⟨#[]⟩ none 0 0 W (by omega))
   rw [hck] at HCK
   clear hck
   go_wp2_with fail
   refine (HCK.out _).mono ?_
   rintro e w7 ⟨rfl,hb7⟩
   have HK7:=yb (zaa hb7 (zak _ HK6.out))
   have hq7:=zaa hb7 (zab _ rfl)
   have HB7:=yb ((HB6.out.alloc (Nat.le_of_lt hw6) (.cells #[.int .i64 3,.int .i64 ((n:Int)*1000000+(m:Int)),.string ⟨#[]⟩,.slice none 0 0] 25)).trans (hb7.mono (by rw [zaq];omega)))
   obtain ⟨⟨k0,k1,k2,k3⟩,f0,f1,f2,f3⟩:=zah HK7.out
   obtain ⟨⟨g0,g1,g2,g3⟩,-⟩:=zah hq7
   clear hb7 hq7
   by_cases hbig:2147483647000000<n*1000000+m
   ·rw [yg hbig] at HL |-
    clear hbig
    go_wp2
    refine yi (zac rfl _ _ w.heap.size 25 _ (0,0) _ rfl (set4 HK7.out _ _ _ _) Tryz.underlying25 rfl zay _ rfl) rfl ⟨?_,zan HB7.out (yp _) _ _ _ _⟩
    rw [HL.out]
    rfl
   ·rw [yh hbig] at HL |-
    clear hbig
    go_wp2
    refine yi (zac rfl _ _ w.heap.size 25 _ (0,0) _ rfl (set4 HK7.out _ _ _ _) Tryz.underlying25 rfl zay _ rfl) rfl ⟨?_,zan HB7.out (yp _) _ _ _ _⟩
    rw [HL.out]
    simp [valC,zbB]
end Go.Proofs.YtcmoehknppjkiaaGreatDoor
