/-
  Our texts Num2 to Lex2, in one.
-/
import Derived.Test.YtkhcjoomijkfbaaGreatDoorPkT2
import Derived.Lib.Bytealg
import Derived.PlainAid
import Derived.Lib.ConvBytes
import Derived.Lib.Builder
import Derived.Lib.UnsafeStr
import Derived.Lib.ByteType
set_option maxRecDepth 8000
set_option maxHeartbeats 8000000
namespace Go.Proofs.YtkhcjoomijkfbaaGreatDoor
open Go.RowKit
theorem zew:∀(l:List UInt8) (c:UInt8),Lib.indexByte l c=-1→c∉l
 | [],_,_=>by simp
 | b :: l, c, h => by
   have hg:=Lib.indexByte_ge l c
   unfold Lib.indexByte at h
   split at h
   · omega
   · rename_i hb
     split at h
     · rename_i h1
       have:=zew l c (by simpa using h1)
       simp at hb
       simp [this,Ne.symm hb]
     · rename_i h1
       simp at h1;omega
theorem zeq:∀(l:List UInt8) (c:UInt8) (i:Nat),Lib.indexByte l c=(i:Int)→∃w t,l=w++c::t∧w.length=i∧c∉w
 | [],_,_,h=>by unfold Lib.indexByte at h;omega
 | b :: l, c, i, h => by
   have hg:=Lib.indexByte_ge l c
   unfold Lib.indexByte at h
   split at h
   · rename_i hb
     have:b=c:=by simpa using hb
     exact ⟨[],l,by simp [this],by simp;omega,by simp⟩
   · rename_i hb
     split at h
     · omega
     · rename_i h1
       simp at h1
       obtain ⟨w,t,e1,e2,e3⟩:=zeq l c (i-1) (by omega)
       simp at hb
       exact ⟨b::w,t,by simp [e1],by simp;omega,by simp [e3,Ne.symm hb]⟩
set_option maxRecDepth 100000 in
theorem sidx_any (s:ByteArray) (c:Int) (w:World) :
   Calls Tryz.prog 194 #[.string s,.int .u8 c] w fun e w'=>e=.returned (.int .i64 (Lib.indexByte (bl s) c.toNat.toUInt8))∧w=w':=by
 go_enter Tryz.func194,Tryz.ntmps194
 go_wp2
 rw [run_callFunc_extern Tryz.func220 (by kernel_rfl) (by kernel_rfl) (by kernel_rfl) (e:=Extern.BytealgIndexByte.indexByte) (by kernel_rfl),Lib.run_indexByteString]
 simp only [Result.andThen]
 rw [Oper.upon_value]
 go_wp2
 go_ret
 exact ⟨rfl,rfl⟩
theorem sidx2_any (s:ByteArray) (c:Int) (w:World) :
   Calls Tryz.prog 158 #[.string s,.int .u8 c] w fun e w'=>e=.returned (.int .i64 (Lib.indexByte (bl s) c.toNat.toUInt8))∧w=w':=by
 go_enter Tryz.func158,Tryz.ntmps158
 go_wp2_with (go_at_call 194;refine (sidx_any _ _ _).mono ?_;rintro e w' ⟨rfl,rfl⟩)
 go_ret
 exact ⟨rfl,rfl⟩
theorem zgi (s:ByteArray) (w:World) :
   Calls Tryz.prog 240 #[.string s,.string ⟨#[46]⟩] w fun e w'=>e=.returned (.int .i64 (Lib.indexByte (bl s) 46))∧w=w':=by
 obtain ⟨V,hV⟩:∃V,V=Lib.indexByte (bl s) 46:=⟨_,rfl⟩
 rw [←hV]
 have HV:=Lib.hid hV
 clear hV
 by_cases h:s.toList=[46]
 · have HE := Lib.hid (show V = 0 by rw [HV.out, ← toL, h]; rfl)
   go_enter Tryz.func240,Tryz.ntmps240
   go_wp2
   go_ret
   exact ⟨zan HE.out.symm,rfl⟩
 · have h2 : ([46] == s.toList) = false := by rw [beq_eq_false_iff_ne]; exact fun e => h e.symm
   clear h
   go_enter Tryz.func240,Tryz.ntmps240
   go_wp2_with (go_at_call 194;refine (sidx_any _ _ _).mono ?_;rintro e w' ⟨rfl,rfl⟩)
   go_ret
   exact ⟨zan HV.out.symm,rfl⟩
def CutEnd (s:ByteArray) (w:World) (e:Ending) (w':World):Prop :=
 ∃W R:ByteArray,e=.returned (.tuple #[.string W,.string R,.bool (zeI (bl s))])∧bl W=zbz (bl s)∧bl R=zcU (bl s)∧W.size≤s.size∧R.size≤s.size∧∃q,w'=w.drewN q
theorem bl_ext (s:ByteArray) (i j:Nat):bl (s.extract i j)=((bl s).drop i).take (j-i):=by
 unfold bl;rw [ByteArray.data_extract,Array.toList_extract]
theorem bl_to (s:ByteArray) (i:Nat):bl (s.extract 0 i)=(bl s).take i:=by rw [bl_ext];rfl
theorem bl_from (s:ByteArray) (i:Nat):bl (s.extract i s.size)=(bl s).drop i:=by
 rw [bl_ext,List.take_of_length_le]
 rw [List.length_drop,zaL];exact Nat.le_refl _
theorem ret_tup3 {a b a' b':ByteArray} {p p':Bool} (h1:a=a') (h2:b=b') (h3:p=p'):Ending.returned (.tuple #[.string a,.string b,.bool p])=Ending.returned (.tuple #[.string a',.string b',.bool p']):=by rw [h1,h2,h3]
theorem cut1_any (s:ByteArray) (w:World) (hs:s.size≤4611686018427387904) :
   Calls Tryz.prog 225 #[.string s,.string ⟨#[46]⟩] w (CutEnd s w):=by
 have hge:=Lib.indexByte_ge (bl s) 46
 by_cases hneg:Lib.indexByte (bl s) 46=-1
 · have hn:=zew _ _ hneg
   obtain ⟨t1,t2,t3⟩:=tw_none (bl s) (fun x hx e=>hn (e▸hx))
   have HT:=Lib.hid (And.intro t1 (And.intro t2 t3))
   clear t1 t2 t3 hn hge
   go_enter Tryz.func225,Tryz.ntmps225
   go_wp2_with (go_at_call 240;refine (zgi _ _).mono ?_;rintro e w' ⟨rfl,rfl⟩;rw [hneg])
   go_ret3
   exact ⟨s,⟨#[]⟩,ret_tup3 rfl rfl HT.out.2.2.symm,HT.out.1.symm,HT.out.2.1.symm,Nat.le_refl _,Nat.zero_le _,0,rfl⟩
 · obtain ⟨i, hi⟩ := Int.eq_ofNat_of_zero_le (show 0 ≤ Lib.indexByte (bl s) 46 by omega)
   obtain ⟨a,t,e1,e2,e3⟩:=zeq _ _ _ hi
   have hlen:=congrArg List.length e1
   rw [zaL] at hlen
   simp only [List.length_append,List.length_cons,e2] at hlen
   have hlt:i<s.size:=by omega
   obtain ⟨t1,t2,t3⟩:=tw_app a t (fun x hx e=>e3 (e▸hx))
   have h1:bl (s.extract 0 i)=zbz (bl s):=by rw [bl_to,e1,t1,←e2];simp
   have h2:bl (s.extract (i+1) s.size)=zcU (bl s):=by
     rw [bl_from,e1,t2,←e2,List.drop_append,Nat.add_sub_cancel_left,List.drop_of_length_le (by omega)];rfl
   have HT:=Lib.hid (And.intro h1 (And.intro h2 (show zeI (bl s)=true by rw [e1];exact t3)))
   have HI:=Lib.hid hi
   clear t1 t2 t3 h1 h2 e1 e2 e3 hlen hge hi hneg
   go_enter Tryz.func225,Tryz.ntmps225
   go_wp2_with (go_at_call 240;refine (zgi _ _).mono ?_;rintro e w' ⟨rfl,rfl⟩;rw [HI.out])
   go_quiet (fail)
   go_wp2
   go_ret3
   exact ⟨_,_,ret_tup3 rfl rfl HT.out.2.2.symm,HT.out.1,HT.out.2.1,by rw [ByteArray.size_extract];omega,by rw [ByteArray.size_extract];omega,_,rfl⟩
theorem cut_any (s:ByteArray) (w:World) (hs:s.size≤4611686018427387904) :
   Calls Tryz.prog 201 #[.string s,.string ⟨#[46]⟩] w (CutEnd s w):=by
 have HC:=Lib.hid (fun W=>cut1_any s W hs)
 go_enter Tryz.func201,Tryz.ntmps201
 go_wp2_with (go_at_call 225;refine (HC.out _).mono ?_;rintro e w' ⟨W,R,rfl,h1,h2,h3,h4,q,rfl⟩;have H1:=Lib.hid h1;have H2:=Lib.hid h2;clear h1 h2)
 go_ret3
 exact ⟨W,R,rfl,H1.out,H2.out,h3,h4,q,rfl⟩
def hd1 (s:ByteArray) (c:UInt8):Bool:=decide ((bl s).head?=some c)
theorem pre1_any (s:ByteArray) (c:UInt8) (w:World) (hs:s.size≤4611686018427387904) :
   Calls Tryz.prog 122 #[.string s,.string ⟨#[c]⟩] w fun e w'=>e=.returned (.bool (hd1 s c))∧w=w':=by
 by_cases h0:0<s.size
 · have hx:(s.extract 0 1).toList=[s[0]]:=by
     rw [toL,bl_to]
     have:=zdT s 0 h0
     simpa using this
   have HV:=Lib.hid (show hd1 s c=(s[0]==c) by
     unfold hd1
     have h1:=bl_drop s 0 h0
     rw [List.drop_zero] at h1
     rw [h1,List.head?_cons,Bool.eq_iff_iff]
     simp)
   have h1:(1:Int)≤s.size:=by omega
   have h1d:decide (1≤s.size)=true:=decide_eq_true (by omega)
   go_enter Tryz.func122,Tryz.ntmps122
   go_wp2
   go_ret
   exact ⟨zbH HV.out.symm,rfl⟩
 · have h1 : ¬ (1 : Int) ≤ s.size := by omega
   have h1d:decide ((1:Int)≤s.size)=false:=by simpa using h1
   have h1e:decide (1≤s.size)=false:=decide_eq_false (by omega)
   have HV:=Lib.hid (show hd1 s c=false by
     unfold hd1
     have h1:bl s=[]:=List.eq_nil_of_length_eq_zero (by rw [zaL];omega)
     rw [h1];rfl)
   go_enter Tryz.func122,Tryz.ntmps122
   go_wp2
   go_ret
   exact ⟨zbH HV.out.symm,rfl⟩
theorem zfZ (s:ByteArray) (c:UInt8) (w:World) (hs:s.size≤4611686018427387904) :
   Calls Tryz.prog 80 #[.string s,.string ⟨#[c]⟩] w fun e w'=>e=.returned (.bool (hd1 s c))∧w=w':=by
 have HC:=Lib.hid (fun W=>pre1_any s c W hs)
 go_enter Tryz.func80,Tryz.ntmps80
 go_wp2_with (go_at_call 122;refine (HC.out _).mono ?_;rintro e w' ⟨rfl,rfl⟩)
 go_ret
 exact ⟨rfl,rfl⟩
def valC (k n:Int) (s:ByteArray):Array Value:=#[.int .i64 k,.int .i64 n,.string s,.slice none 0 0]
def zbU:ByteArray:=⟨#[]⟩
theorem zer (a b:ByteArray):(a++b).size=a.size+b.size:=ByteArray.size_append
theorem zeE (a b:ByteArray):bl (a++b)=bl a++bl b:=by unfold bl;rw [ByteArray.data_append,Array.toList_append]
theorem zcD (s:ByteArray) (w:World) (hs:s.size≤4611686018427387904) (hd:(bl s).all isDg=true) :
   Calls Tryz.prog 204 #[.string s] w fun e w'=>e=.returned (.int .i64 (mil (bl s):Nat))∧Below w.heap.size w w':=by
 have hD:=fun W=>zdn ((s++⟨#[48,48,48,48,48,48]⟩).extract 0 6) W
 have hb:bl ((s++⟨#[48,48,48,48,48,48]⟩).extract 0 6)=(bl s++List.replicate 6 48).take 6:=by rw [bl_to,zeE];rfl
 have hlt:=zg9 (bl s) hd
 have hv:zbY ((bl s++List.replicate 6 48).take 6)=(((mil (bl s):Nat):Int),0):=by
   refine zeQ ?_ ?_ ?_
   · intro e;have:=congrArg List.length e;simp at this
   · rw [List.all_eq_true]
     intro x hx
     have hx:=List.mem_of_mem_take hx
     rw [List.mem_append] at hx
     rcases hx with hx|hx
     · exact List.all_eq_true.1 hd x hx
     · rw [List.mem_replicate] at hx;rw [hx.2];rfl
   · show mil (bl s)≤_;omega
 rw [hb,hv] at hD
 have HD:=Lib.hid hD
 have hsz:(s++⟨#[48,48,48,48,48,48]⟩).size=s.size+6:=by rw [zer];rfl
 clear hD hb hv hd
 go_enter Tryz.func204,Tryz.ntmps204
 go_wp2_with (go_at_call 203;refine (HD.out _).mono ?_;rintro e w' ⟨rfl,hb⟩)
 go_ret
 exact ⟨rfl,hb⟩
def zb3 (s:ByteArray) (m:Nat):Bool:=decide (bl s=[])&&decide (m=0)
theorem zcI (k n:Int) (s:ByteArray) (a:Option Addr) (m c:Nat) (w:World) (hm:(m:Int)≤9223372036854775807) :
   Calls Tryz.prog 27 #[.agg #[.int .i64 k,.int .i64 n,.string s,.slice a m c]] w fun e w'=>e=.returned (.int .i64 (zaS k n (zb3 s m)))∧Below w.heap.size w w':=by
 obtain ⟨V,hV⟩:∃V,V=zaS k n (zb3 s m):=⟨_,rfl⟩
 rw [←hV]
 unfold zaS at hV
 by_cases hk:k=2∨k=3
 · obtain ⟨L,hL⟩:∃L:Int,L=if k=2 then 2147483647 else 2147483647000000:=⟨_,rfl⟩
   have hk2:(k==2)=decide (k=2):=by by_cases h:k=2<;>simp [h]
   by_cases h1:n < -L
   · have HV := Lib.hid (show V = 2 by rw [hV, if_neg]; rintro ⟨-, h | h⟩ <;> (rw [h.1] at hL; simp at hL; omega))
     have HB:=Lib.hid (zah w (.cells #[.int .i64 k,.int .i64 n,.string s,.slice a m c] 48))
     clear hV hk2
     rcases hk with rfl|rfl<;>(simp at hL;subst hL)
     all_goals
       go_enter Tryz.func27,Tryz.ntmps27
       go_wp2
       go_ret
       exact ⟨zan HV.out.symm,HB.out⟩
   · have h1d : decide (n < -L) = false := by simpa using h1
     by_cases h2:L<n
     · have HV := Lib.hid (show V = 2 by rw [hV, if_neg]; rintro ⟨-, h | h⟩ <;> (rw [h.1] at hL; simp at hL; omega))
       have HB:=Lib.hid (zah w (.cells #[.int .i64 k,.int .i64 n,.string s,.slice a m c] 48))
       clear hV hk2 h1
       rcases hk with rfl|rfl<;>(simp at hL;subst hL)
       all_goals
         go_enter Tryz.func27,Tryz.ntmps27
         go_wp2
         go_ret
         exact ⟨zan HV.out.symm,HB.out⟩
     · have h2d : decide (L < n) = false := by simpa using h2
       by_cases h3:s.toList=[]
       · by_cases h4:m=0
         · have HV:=Lib.hid (show V=0 by
             rw [hV,if_pos]
             refine ⟨by unfold zb3;rw [←toL,h3,h4];rfl,?_⟩
             rcases hk with h|h<;>rw [h] at hL<;>simp at hL
             · exact .inl ⟨h,by omega,by omega⟩
             · exact .inr ⟨h,by omega,by omega⟩)
           have HB:=Lib.hid (zah w (.cells #[.int .i64 k,.int .i64 n,.string s,.slice a m c] 48))
           have h3e:s.toList.isEmpty=true:=by rw [h3];rfl
           clear hV hk2 h1 h2
           subst h4
           rcases hk with rfl|rfl<;>(simp at hL;subst hL)
           all_goals
             go_enter Tryz.func27,Tryz.ntmps27
             go_wp2
             go_ret
             exact ⟨zan HV.out.symm,HB.out⟩
         · have HV := Lib.hid (show V = 2 by rw [hV, if_neg]; rintro ⟨h, -⟩; unfold zb3 at h; simp at h; exact h4 h.2)
           have HB:=Lib.hid (zah w (.cells #[.int .i64 k,.int .i64 n,.string s,.slice a m c] 48))
           have h3e:s.toList.isEmpty=true:=by rw [h3];rfl
           have h4':(0:Int)<m:=by omega
           have h4'':0<m:=by omega
           clear hV hk2 h1 h2 h4
           rcases hk with rfl|rfl<;>(simp at hL;subst hL)
           all_goals
             go_enter Tryz.func27,Tryz.ntmps27
             go_wp2
             go_ret
             exact ⟨zan HV.out.symm,HB.out⟩
       · have HV := Lib.hid (show V = 2 by rw [hV, if_neg]; rintro ⟨h, -⟩; unfold zb3 at h; rw [← toL] at h; simp at h; exact h3 h.1)
         have HB:=Lib.hid (zah w (.cells #[.int .i64 k,.int .i64 n,.string s,.slice a m c] 48))
         have h3e:s.toList.isEmpty=false:=by simpa using h3
         clear hV hk2 h1 h2
         rcases hk with rfl|rfl<;>(simp at hL;subst hL)
         all_goals
           go_enter Tryz.func27,Tryz.ntmps27
           go_wp2
           go_ret
           exact ⟨zan HV.out.symm,HB.out⟩
 · have HV := Lib.hid (show V = 2 by rw [hV, if_neg]; rintro ⟨-, h | h⟩ <;> exact hk (by omega))
   have HB:=Lib.hid (zah w (.cells #[.int .i64 k,.int .i64 n,.string s,.slice a m c] 48))
   have hk2:(k==2)=false:=by rw [beq_eq_false_iff_ne];omega
   have hk3:(k==3)=false:=by rw [beq_eq_false_iff_ne];omega
   clear hV hk
   go_enter Tryz.func27,Tryz.ntmps27
   go_wp2
   go_ret
   exact ⟨zan HV.out.symm,HB.out⟩
theorem zas:(Tryz.prog.info? 48).map (·.size)=some 4:=by kernel_rfl
theorem zaa {P:Program} {fn:Func} {p u:Tmp} {ty:TypeId} (h:fn.results=#[.cell p ty,.tmp u]) (tmps:Array Value) (w:World) (g:Nat) (t:TypeId) (cs:Array Value) (fr:Nat×Nat) (d:TypeDesc)
   (hp:tmps.getD p undef=.pointer (some ⟨g,0,none⟩)) (hg:w.heap[g]?=some (.cells cs t fr))
   (hu:P.underlying ty=some d) (hd:(match d with | .struct _ | .array _ _=>true|_=>false)=true) (hi:(P.info? ty).map (·.size)=some cs.size) (v:Value) (hv:tmps.getD u undef=v) :
   (results fn tmps).run P w=.ok (.tuple #[.agg cs,v]) w:=by
 rw [results_cell_tmp h,hp,hv]
 simp [asAddr,Result.andThen,run_loadVar_row w g t ty cs fr d hg hu hd hi]
theorem set4 {w:World} {b:Nat} {x0 x1 x2 x3:Value} {t:TypeId} (h:w.heap[b]?=some (.cells #[x0,x1,x2,x3] t (0,0))) (y0 y1 y2 y3:Value) :
   ((((w.setCell ⟨b,0,none⟩ y0).setCell ⟨b,1,none⟩ y1).setCell ⟨b,2,none⟩ y2).setCell ⟨b,3,none⟩ y3).heap[b]?=some (.cells #[y0,y1,y2,y3] t (0,0)):=by
 rw [heap_setCell_same _ _ 3 _ _ _ (heap_setCell_same _ _ 2 _ _ _ (heap_setCell_same _ _ 1 _ _ _ (heap_setCell_same w _ 0 _ _ _ h)))];rfl
theorem zai {B:Nat} {w0 w:World} (h:Below B w0 w) {b:Nat} (hb:B≤b) (y0 y1 y2 y3:Value) :
   Below B w0 ((((w.setCell ⟨b,0,none⟩ y0).setCell ⟨b,1,none⟩ y1).setCell ⟨b,2,none⟩ y2).setCell ⟨b,3,none⟩ y3) :=
 (((h.setCell hb _).setCell hb _).setCell hb _).setCell hb _
theorem zaf {w:World} {b:Nat} {x0 x1 x2 x3:Value} {t:TypeId} (h:w.heap[b]?=some (.cells #[x0,x1,x2,x3] t (0,0))) :
   (w.cell? ⟨b,0,none⟩=some x0∧w.cell? ⟨b,1,none⟩=some x1∧w.cell? ⟨b,2,none⟩=some x2∧w.cell? ⟨b,3,none⟩=some x3) ∧
   (w.frozen? ⟨b,0,none⟩=false∧w.frozen? ⟨b,1,none⟩=false∧w.frozen? ⟨b,2,none⟩=false∧w.frozen? ⟨b,3,none⟩=false):=by
 refine ⟨⟨?_,?_,?_,?_⟩,frozen_of_row w b 0 _ _ h,frozen_of_row w b 1 _ _ h,frozen_of_row w b 2 _ _ h,frozen_of_row w b 3 _ _ h⟩
 · rw [cell_of_row w b 0 _ _ _ h];rfl
 · rw [cell_of_row w b 1 _ _ _ h];rfl
 · rw [cell_of_row w b 2 _ _ _ h];rfl
 · rw [cell_of_row w b 3 _ _ _ h];rfl
def ParseEnd (V:Int×Int×Int) (w:World) (e:Ending) (w':World):Prop:=e=.returned (.tuple #[.agg (valC V.1 V.2.1 zbU),.int .i64 V.2.2])∧Below w.heap.size w w'
theorem digits0 (l:List UInt8) (h:l.all isDg=true):zbY (48::l)=if 2147483647<valD l then (0,5) else (((valD l:Nat):Int),0):=by
 have hv:valD (48::l)=valD l:=valD_zl 1 l
 have ha:(48::l).all isDg=true:=by rw [List.all_cons,h];rfl
 by_cases ho:2147483647<valD l
 · rw [if_pos ho,zfn (by simp) ha (by rw [hv];exact ho)]
 · rw [if_neg ho,zeQ (by simp) ha (by rw [hv];omega),hv]
theorem zen {s:ByteArray} {c:UInt8} (h:hd1 s c=true):(bl s).head?=some c∧1≤s.size:=by
 unfold hd1 at h
 have h2:(bl s).head?=some c:=by simpa using h
 refine ⟨h2,?_⟩
 have:bl s≠[]:=by intro e;rw [e] at h2;simp at h2
 have h3:=List.length_pos_iff.2 this
 rw [zaL] at h3;exact h3
theorem zd9 {s:ByteArray} {c:UInt8} (h:hd1 s c=false):(bl s).head?≠some c:=by
 unfold hd1 at h;simpa using h
theorem body_from {s:ByteArray} (h:(bl s).head?=some 45∨(bl s).head?=some 43) (_h1:1≤s.size):bl (s.extract 1 s.size)=zdJ (bl s):=by
 unfold zdJ;rw [if_pos h,bl_from,List.drop_one]
theorem parse_any (s:ByteArray) (w:World) (hs:s.size≤400000) :
   Calls Tryz.prog 167 #[.string s] w (ParseEnd (zaF (bl s)) w):=by
 have hbx:(w.alloc (.cells #[.int .i64 0,.int .i64 0,.string ⟨#[]⟩,.slice none 0 0] 48)).heap[w.heap.size]?=some (.cells #[.int .i64 0,.int .i64 0,.string ⟨#[]⟩,.slice none 0 0] 48 (0,0)):=zac _ rfl
 have hB0:=zah w (.cells #[.int .i64 0,.int .i64 0,.string ⟨#[]⟩,.slice none 0 0] 48)
 have HBX:=Lib.hid hbx
 have HB0:=Lib.hid hB0
 obtain ⟨V,hV⟩:∃V,V=zaF (bl s):=⟨_,rfl⟩
 rw [←hV]
 have HV:=Lib.hid hV
 clear hV hbx hB0
 obtain ⟨c1,hc1⟩:∃c,hd1 s 45=c:=⟨_,rfl⟩
 obtain ⟨c2,hc2⟩:∃c,hd1 s 43=c:=⟨_,rfl⟩
 have HP1:=Lib.hid (fun W=>zfZ s 45 W (by omega))
 have HP2:=Lib.hid (fun W=>zfZ s 43 W (by omega))
 rw [hc1] at HP1
 rw [hc2] at HP2
 have HC1:=Lib.hid hc1
 have HC2:=Lib.hid hc2
 clear hc1 hc2
 cases c1
 case true =>
   have hz:=(zen HC1.out).2
   have HS:=Lib.hid (show V=za0 (-1) (bl (s.extract 1 s.size)) by
     rw [HV.out,zaF,body_from (.inl (zen HC1.out).1) hz];unfold zdM;rw [if_pos (zen HC1.out).1])
   have hsz:(s.extract 1 s.size).size≤400000:=by rw [ByteArray.size_extract];omega
   go_enter Tryz.func167,Tryz.ntmps167
   go_wp2_with (go_at_call 80;refine (HP1.out _).mono ?_;rintro e w' ⟨rfl,rfl⟩)
   go_quiet (fail)
   generalize s.extract 1 s.size=b at *
   go_wp2_with fail
   refine (cut_any b _ (by omega)).mono ?_
   rintro e w' ⟨F,R,rfl,h1,h2,h3,h4,q,rfl⟩
   have HK2:=Lib.hid (show (((w.alloc (.cells #[.int .i64 0,.int .i64 0,.string ⟨#[]⟩,.slice none 0 0] 48)).drewN nq).drewN q).heap[w.heap.size]?=some (.cells #[.int .i64 0,.int .i64 0,.string ⟨#[]⟩,.slice none 0 0] 48 (0,0)) from HBX.out)
   have HB2:=Lib.hid (show Below w.heap.size w (((w.alloc (.cells #[.int .i64 0,.int .i64 0,.string ⟨#[]⟩,.slice none 0 0] 48)).drewN nq).drewN q) from zad (zad HB0.out nq) q)
   generalize (((w.alloc (.cells #[.int .i64 0,.int .i64 0,.string ⟨#[]⟩,.slice none 0 0] 48)).drewN nq).drewN q)=w2 at *
   have HF:=Lib.hid h1
   have HR:=Lib.hid h2
   obtain ⟨pt,hpt⟩:∃pt,zeI (bl b)=pt:=⟨_,rfl⟩
   rw [hpt]
   have HPT:=Lib.hid hpt
   clear h1 h2 hpt
   have hw2:=HB2.out.size
   have HALF:=Lib.hid (fun W=>zeZ F W)
   have HALR:=Lib.hid (fun W=>zeZ R W)
   by_cases hz:F.size+R.size=0
   · have HL:=Lib.hid (show V=(0,0,11) by
       rw [HS.out];unfold za0;rw [if_pos (.inl (by rw [←HF.out,←HR.out,zaL,zaL];exact hz))])
     have hz0:(((F.size:Int)+(R.size:Int))==0)=true:=by rw [beq_iff_eq];omega
     obtain ⟨⟨k0,k1,k2,k3⟩,f0,f1,f2,f3⟩:=zaf HK2.out
     go_wp2
     refine bodyPost_ret (zaa rfl _ _ w.heap.size 48 _ (0,0) _ rfl (set4 HK2.out _ _ _ _) Tryz.underlying48 rfl zas _ rfl) rfl ⟨?_,zai HB2.out (Nat.le_refl _) _ _ _ _⟩
     rw [HL.out]
     rfl
   · have hz0 : (((F.size : Int) + (R.size : Int)) == 0) = false := by rw [beq_eq_false_iff_ne]; omega
     obtain ⟨cF,hcF⟩:∃c,(bl F).all isDg=c:=⟨_,rfl⟩
     obtain ⟨cR,hcR⟩:∃c,(bl R).all isDg=c:=⟨_,rfl⟩
     rw [hcF] at HALF
     rw [hcR] at HALR
     have HCF:=Lib.hid hcF
     have HCR:=Lib.hid hcR
     clear hcF hcR
     cases cF
     case false =>
       have HL:=Lib.hid (show V=(0,0,11) by
         rw [HS.out];unfold za0;rw [if_pos (.inr (.inl (by rw [←HF.out];exact HCF.out)))])
       go_wp2_with fail
       refine (HALF.out _).mono ?_
       rintro e w3 ⟨rfl,hb3⟩
       have h3k:=zab hb3 HK2.out
       have HB3:=Lib.hid (HB2.out.trans (hb3.mono hw2))
       obtain ⟨⟨k0,k1,k2,k3⟩,f0,f1,f2,f3⟩:=zaf h3k
       have HK3:=Lib.hid h3k
       clear h3k hb3
       go_wp2
       refine bodyPost_ret (zaa rfl _ _ w.heap.size 48 _ (0,0) _ rfl (set4 HK3.out _ _ _ _) Tryz.underlying48 rfl zas _ rfl) rfl ⟨?_,zai HB3.out (Nat.le_refl _) _ _ _ _⟩
       rw [HL.out]
       rfl
     go_wp2_with fail
     refine (HALF.out _).mono ?_
     rintro e w3 ⟨rfl,hb3⟩
     have HK3:=Lib.hid (zab hb3 HK2.out)
     have HB3:=Lib.hid (HB2.out.trans (hb3.mono hw2))
     clear hb3
     go_wp2_with fail
     refine (HALR.out _).mono ?_
     rintro e w4 ⟨rfl,hb4⟩
     have HK4:=Lib.hid (zab hb4 HK3.out)
     have HB4:=Lib.hid (HB3.out.trans (hb4.mono HB3.out.size))
     clear hb4
     cases cR
     case false =>
       have HL:=Lib.hid (show V=(0,0,11) by
         rw [HS.out];unfold za0;rw [if_pos (.inr (.inr (by rw [←HR.out];exact HCR.out)))])
       obtain ⟨⟨k0,k1,k2,k3⟩,f0,f1,f2,f3⟩:=zaf HK4.out
       go_wp2
       refine bodyPost_ret (zaa rfl _ _ w.heap.size 48 _ (0,0) _ rfl (set4 HK4.out _ _ _ _) Tryz.underlying48 rfl zas _ rfl) rfl ⟨?_,zai HB4.out (Nat.le_refl _) _ _ _ _⟩
       rw [HL.out]
       rfl
     have hd0:bl (⟨#[48]⟩++F:ByteArray)=48::bl F:=by rw [zeE];rfl
     have hdig:=fun W=>zdn (⟨#[48]⟩++F) W
     rw [hd0,digits0 _ HCF.out] at hdig
     have HDIG:=Lib.hid hdig
     have HL:=Lib.hid (show V=if 2147483647<valD (bl F) then (0,0,5) else if pt=false then (2,(-1:Int) * (valD (bl F):Nat),0) else if 2147483647000000<valD (bl F) * 1000000+mil (bl R) then (0,0,5) else (3,(-1:Int) * ((valD (bl F) * 1000000+mil (bl R):Nat):Int),0) by
       rw [HS.out];unfold za0
       rw [if_neg (by
         rintro (h|h|h)
         · rw [←HF.out,←HR.out,zaL,zaL] at h;exact hz h
         · rw [←HF.out,HCF.out] at h;cases h
         · rw [←HR.out,HCR.out] at h;cases h),HPT.out,←HF.out,←HR.out])
     have HMIL:=Lib.hid (fun W=>zcD R W (by omega) HCR.out)
     have hml:=zg9 (bl R) HCR.out
     have hszF:(⟨#[48]⟩++F:ByteArray).size=F.size+1:=by rw [zer,Nat.add_comm];rfl
     clear hdig hd0
     generalize valD (bl F)=n at *
     generalize mil (bl R)=m at *
     by_cases hov:2147483647<n
     · rw [if_pos hov] at HDIG
       rw [if_pos hov] at HL
       clear hov
       go_wp2_with fail
       refine (HDIG.out _).mono ?_
       rintro e w5 ⟨rfl,hb5⟩
       have HK5:=Lib.hid (zab hb5 HK4.out)
       have HB5:=Lib.hid (HB4.out.trans (hb5.mono HB4.out.size))
       obtain ⟨⟨k0,k1,k2,k3⟩,f0,f1,f2,f3⟩:=zaf HK5.out
       clear hb5
       go_wp2
       refine bodyPost_ret (zaa rfl _ _ w.heap.size 48 _ (0,0) _ rfl (set4 HK5.out _ _ _ _) Tryz.underlying48 rfl zas _ rfl) rfl ⟨?_,zai HB5.out (Nat.le_refl _) _ _ _ _⟩
       rw [HL.out]
       rfl
     rw [if_neg hov] at HDIG
     rw [if_neg hov] at HL
     have hn:(n:Int)≤2147483647:=by omega
     clear hov
     go_wp2_with fail
     refine (HDIG.out _).mono ?_
     rintro e w5 ⟨rfl,hb5⟩
     have HK5:=Lib.hid (zab hb5 HK4.out)
     have HB5:=Lib.hid (HB4.out.trans (hb5.mono HB4.out.size))
     obtain ⟨⟨k0,k1,k2,k3⟩,f0,f1,f2,f3⟩:=zaf HK5.out
     clear hb5
     cases pt
     case false =>
       rw [if_pos rfl] at HL
       go_wp2
       refine bodyPost_ret (zaa rfl _ _ w.heap.size 48 _ (0,0) _ rfl (set4 HK5.out _ _ _ _) Tryz.underlying48 rfl zas _ rfl) rfl ⟨?_,zai HB5.out (Nat.le_refl _) _ _ _ _⟩
       rw [HL.out]
       simp [valC,zbU]
     rw [if_neg (by decide)] at HL
     clear k0 k1 k2 k3 f0 f1 f2 f3
     go_wp2_with fail
     refine (HMIL.out _).mono ?_
     rintro e w6 ⟨rfl,hb6⟩
     have HK6:=Lib.hid (zab hb6 HK5.out)
     have HB6:=Lib.hid (HB5.out.trans (hb6.mono HB5.out.size))
     clear hb6
     have hw6:=(Array.getElem?_eq_some_iff.1 HK6.out).1
     have hck:zaS 3 (-((n:Int) * 1000000+(m:Int))) (zb3 ⟨#[]⟩ 0)=if 2147483647000000<n * 1000000+m then 2 else 0:=by
       unfold zaS
       by_cases hb:2147483647000000<n * 1000000+m
       · rw [if_pos hb,if_neg];rintro ⟨-,h|h⟩<;>omega
       · rw [if_neg hb,if_pos];exact ⟨rfl,.inr ⟨rfl,by omega,by omega⟩⟩
     have HCK:=Lib.hid (fun W=>zcI 3 (-((n:Int) * 1000000+(m:Int))) ⟨#[]⟩ none 0 0 W (by omega))
     rw [hck] at HCK
     clear hck
     go_wp2_with fail
     refine (HCK.out _).mono ?_
     rintro e w7 ⟨rfl,hb7⟩
     have HK7:=Lib.hid (zab hb7 (zak _ HK6.out))
     have hq7:=zab hb7 (zac _ rfl)
     have HB7:=Lib.hid ((HB6.out.alloc (Nat.le_of_lt hw6) (.cells #[.int .i64 3,.int .i64 (-((n:Int) * 1000000+(m:Int))),.string ⟨#[]⟩,.slice none 0 0] 48)).trans (hb7.mono (by rw [zal];omega)))
     obtain ⟨⟨k0,k1,k2,k3⟩,f0,f1,f2,f3⟩:=zaf HK7.out
     obtain ⟨⟨g0,g1,g2,g3⟩,-⟩:=zaf hq7
     clear hb7 hq7
     by_cases hbig:2147483647000000<n * 1000000+m
     · rw [if_pos hbig] at HL ⊢
       clear hbig
       go_wp2
       refine bodyPost_ret (zaa rfl _ _ w.heap.size 48 _ (0,0) _ rfl (set4 HK7.out _ _ _ _) Tryz.underlying48 rfl zas _ rfl) rfl ⟨?_,zai HB7.out (Nat.le_refl _) _ _ _ _⟩
       rw [HL.out]
       rfl
     · rw [if_neg hbig] at HL ⊢
       clear hbig
       go_wp2
       refine bodyPost_ret (zaa rfl _ _ w.heap.size 48 _ (0,0) _ rfl (set4 HK7.out _ _ _ _) Tryz.underlying48 rfl zas _ rfl) rfl ⟨?_,zai HB7.out (Nat.le_refl _) _ _ _ _⟩
       rw [HL.out]
       simp [valC,zbU]
 case false =>
 cases c2
 case true =>
   have hz:=(zen HC2.out).2
   have HS:=Lib.hid (show V=za0 1 (bl (s.extract 1 s.size)) by
     rw [HV.out,zaF,body_from (.inr (zen HC2.out).1) hz];unfold zdM;rw [if_neg (zd9 HC1.out)])
   have hsz:(s.extract 1 s.size).size≤400000:=by rw [ByteArray.size_extract];omega
   go_enter Tryz.func167,Tryz.ntmps167
   go_wp2_with (go_at_call 80;first|(refine (HP1.out _).mono ?_;rintro e w' ⟨rfl,rfl⟩)|(refine (HP2.out _).mono ?_;rintro e w' ⟨rfl,rfl⟩))
   generalize s.extract 1 s.size=b at *
   go_wp2_with fail
   refine (cut_any b _ (by omega)).mono ?_
   rintro e w' ⟨F,R,rfl,h1,h2,h3,h4,q,rfl⟩
   have HK2:=Lib.hid (show ((w.alloc (.cells #[.int .i64 0,.int .i64 0,.string ⟨#[]⟩,.slice none 0 0] 48)).drewN q).heap[w.heap.size]?=some (.cells #[.int .i64 0,.int .i64 0,.string ⟨#[]⟩,.slice none 0 0] 48 (0,0)) from HBX.out)
   have HB2:=Lib.hid (show Below w.heap.size w ((w.alloc (.cells #[.int .i64 0,.int .i64 0,.string ⟨#[]⟩,.slice none 0 0] 48)).drewN q) from zad HB0.out q)
   generalize ((w.alloc (.cells #[.int .i64 0,.int .i64 0,.string ⟨#[]⟩,.slice none 0 0] 48)).drewN q)=w2 at *
   have HF:=Lib.hid h1
   have HR:=Lib.hid h2
   obtain ⟨pt,hpt⟩:∃pt,zeI (bl b)=pt:=⟨_,rfl⟩
   rw [hpt]
   have HPT:=Lib.hid hpt
   clear h1 h2 hpt
   have hw2:=HB2.out.size
   have HALF:=Lib.hid (fun W=>zeZ F W)
   have HALR:=Lib.hid (fun W=>zeZ R W)
   by_cases hz:F.size+R.size=0
   · have HL:=Lib.hid (show V=(0,0,11) by
       rw [HS.out];unfold za0;rw [if_pos (.inl (by rw [←HF.out,←HR.out,zaL,zaL];exact hz))])
     have hz0:(((F.size:Int)+(R.size:Int))==0)=true:=by rw [beq_iff_eq];omega
     obtain ⟨⟨k0,k1,k2,k3⟩,f0,f1,f2,f3⟩:=zaf HK2.out
     go_wp2
     refine bodyPost_ret (zaa rfl _ _ w.heap.size 48 _ (0,0) _ rfl (set4 HK2.out _ _ _ _) Tryz.underlying48 rfl zas _ rfl) rfl ⟨?_,zai HB2.out (Nat.le_refl _) _ _ _ _⟩
     rw [HL.out]
     rfl
   · have hz0 : (((F.size : Int) + (R.size : Int)) == 0) = false := by rw [beq_eq_false_iff_ne]; omega
     obtain ⟨cF,hcF⟩:∃c,(bl F).all isDg=c:=⟨_,rfl⟩
     obtain ⟨cR,hcR⟩:∃c,(bl R).all isDg=c:=⟨_,rfl⟩
     rw [hcF] at HALF
     rw [hcR] at HALR
     have HCF:=Lib.hid hcF
     have HCR:=Lib.hid hcR
     clear hcF hcR
     cases cF
     case false =>
       have HL:=Lib.hid (show V=(0,0,11) by
         rw [HS.out];unfold za0;rw [if_pos (.inr (.inl (by rw [←HF.out];exact HCF.out)))])
       go_wp2_with fail
       refine (HALF.out _).mono ?_
       rintro e w3 ⟨rfl,hb3⟩
       have h3k:=zab hb3 HK2.out
       have HB3:=Lib.hid (HB2.out.trans (hb3.mono hw2))
       obtain ⟨⟨k0,k1,k2,k3⟩,f0,f1,f2,f3⟩:=zaf h3k
       have HK3:=Lib.hid h3k
       clear h3k hb3
       go_wp2
       refine bodyPost_ret (zaa rfl _ _ w.heap.size 48 _ (0,0) _ rfl (set4 HK3.out _ _ _ _) Tryz.underlying48 rfl zas _ rfl) rfl ⟨?_,zai HB3.out (Nat.le_refl _) _ _ _ _⟩
       rw [HL.out]
       rfl
     go_wp2_with fail
     refine (HALF.out _).mono ?_
     rintro e w3 ⟨rfl,hb3⟩
     have HK3:=Lib.hid (zab hb3 HK2.out)
     have HB3:=Lib.hid (HB2.out.trans (hb3.mono hw2))
     clear hb3
     go_wp2_with fail
     refine (HALR.out _).mono ?_
     rintro e w4 ⟨rfl,hb4⟩
     have HK4:=Lib.hid (zab hb4 HK3.out)
     have HB4:=Lib.hid (HB3.out.trans (hb4.mono HB3.out.size))
     clear hb4
     cases cR
     case false =>
       have HL:=Lib.hid (show V=(0,0,11) by
         rw [HS.out];unfold za0;rw [if_pos (.inr (.inr (by rw [←HR.out];exact HCR.out)))])
       obtain ⟨⟨k0,k1,k2,k3⟩,f0,f1,f2,f3⟩:=zaf HK4.out
       go_wp2
       refine bodyPost_ret (zaa rfl _ _ w.heap.size 48 _ (0,0) _ rfl (set4 HK4.out _ _ _ _) Tryz.underlying48 rfl zas _ rfl) rfl ⟨?_,zai HB4.out (Nat.le_refl _) _ _ _ _⟩
       rw [HL.out]
       rfl
     have hd0:bl (⟨#[48]⟩++F:ByteArray)=48::bl F:=by rw [zeE];rfl
     have hdig:=fun W=>zdn (⟨#[48]⟩++F) W
     rw [hd0,digits0 _ HCF.out] at hdig
     have HDIG:=Lib.hid hdig
     have HL:=Lib.hid (show V=if 2147483647<valD (bl F) then (0,0,5) else if pt=false then (2,(1:Int) * (valD (bl F):Nat),0) else if 2147483647000000<valD (bl F) * 1000000+mil (bl R) then (0,0,5) else (3,(1:Int) * ((valD (bl F) * 1000000+mil (bl R):Nat):Int),0) by
       rw [HS.out];unfold za0
       rw [if_neg (by
         rintro (h|h|h)
         · rw [←HF.out,←HR.out,zaL,zaL] at h;exact hz h
         · rw [←HF.out,HCF.out] at h;cases h
         · rw [←HR.out,HCR.out] at h;cases h),HPT.out,←HF.out,←HR.out])
     have HMIL:=Lib.hid (fun W=>zcD R W (by omega) HCR.out)
     have hml:=zg9 (bl R) HCR.out
     have hszF:(⟨#[48]⟩++F:ByteArray).size=F.size+1:=by rw [zer,Nat.add_comm];rfl
     clear hdig hd0
     generalize valD (bl F)=n at *
     generalize mil (bl R)=m at *
     by_cases hov:2147483647<n
     · rw [if_pos hov] at HDIG
       rw [if_pos hov] at HL
       clear hov
       go_wp2_with fail
       refine (HDIG.out _).mono ?_
       rintro e w5 ⟨rfl,hb5⟩
       have HK5:=Lib.hid (zab hb5 HK4.out)
       have HB5:=Lib.hid (HB4.out.trans (hb5.mono HB4.out.size))
       obtain ⟨⟨k0,k1,k2,k3⟩,f0,f1,f2,f3⟩:=zaf HK5.out
       clear hb5
       go_wp2
       refine bodyPost_ret (zaa rfl _ _ w.heap.size 48 _ (0,0) _ rfl (set4 HK5.out _ _ _ _) Tryz.underlying48 rfl zas _ rfl) rfl ⟨?_,zai HB5.out (Nat.le_refl _) _ _ _ _⟩
       rw [HL.out]
       rfl
     rw [if_neg hov] at HDIG
     rw [if_neg hov] at HL
     have hn:(n:Int)≤2147483647:=by omega
     clear hov
     go_wp2_with fail
     refine (HDIG.out _).mono ?_
     rintro e w5 ⟨rfl,hb5⟩
     have HK5:=Lib.hid (zab hb5 HK4.out)
     have HB5:=Lib.hid (HB4.out.trans (hb5.mono HB4.out.size))
     obtain ⟨⟨k0,k1,k2,k3⟩,f0,f1,f2,f3⟩:=zaf HK5.out
     clear hb5
     cases pt
     case false =>
       rw [if_pos rfl] at HL
       go_wp2
       refine bodyPost_ret (zaa rfl _ _ w.heap.size 48 _ (0,0) _ rfl (set4 HK5.out _ _ _ _) Tryz.underlying48 rfl zas _ rfl) rfl ⟨?_,zai HB5.out (Nat.le_refl _) _ _ _ _⟩
       rw [HL.out]
       simp [valC,zbU]
     rw [if_neg (by decide)] at HL
     clear k0 k1 k2 k3 f0 f1 f2 f3
     go_wp2_with fail
     refine (HMIL.out _).mono ?_
     rintro e w6 ⟨rfl,hb6⟩
     have HK6:=Lib.hid (zab hb6 HK5.out)
     have HB6:=Lib.hid (HB5.out.trans (hb6.mono HB5.out.size))
     clear hb6
     have hw6:=(Array.getElem?_eq_some_iff.1 HK6.out).1
     have hck:zaS 3 ((n:Int) * 1000000+(m:Int)) (zb3 ⟨#[]⟩ 0)=if 2147483647000000<n * 1000000+m then 2 else 0:=by
       unfold zaS
       by_cases hb:2147483647000000<n * 1000000+m
       · rw [if_pos hb,if_neg];rintro ⟨-,h|h⟩<;>omega
       · rw [if_neg hb,if_pos];exact ⟨rfl,.inr ⟨rfl,by omega,by omega⟩⟩
     have HCK:=Lib.hid (fun W=>zcI 3 ((n:Int) * 1000000+(m:Int)) ⟨#[]⟩ none 0 0 W (by omega))
     rw [hck] at HCK
     clear hck
     go_wp2_with fail
     refine (HCK.out _).mono ?_
     rintro e w7 ⟨rfl,hb7⟩
     have HK7:=Lib.hid (zab hb7 (zak _ HK6.out))
     have hq7:=zab hb7 (zac _ rfl)
     have HB7:=Lib.hid ((HB6.out.alloc (Nat.le_of_lt hw6) (.cells #[.int .i64 3,.int .i64 ((n:Int) * 1000000+(m:Int)),.string ⟨#[]⟩,.slice none 0 0] 48)).trans (hb7.mono (by rw [zal];omega)))
     obtain ⟨⟨k0,k1,k2,k3⟩,f0,f1,f2,f3⟩:=zaf HK7.out
     obtain ⟨⟨g0,g1,g2,g3⟩,-⟩:=zaf hq7
     clear hb7 hq7
     by_cases hbig:2147483647000000<n * 1000000+m
     · rw [if_pos hbig] at HL ⊢
       clear hbig
       go_wp2
       refine bodyPost_ret (zaa rfl _ _ w.heap.size 48 _ (0,0) _ rfl (set4 HK7.out _ _ _ _) Tryz.underlying48 rfl zas _ rfl) rfl ⟨?_,zai HB7.out (Nat.le_refl _) _ _ _ _⟩
       rw [HL.out]
       rfl
     · rw [if_neg hbig] at HL ⊢
       clear hbig
       go_wp2
       refine bodyPost_ret (zaa rfl _ _ w.heap.size 48 _ (0,0) _ rfl (set4 HK7.out _ _ _ _) Tryz.underlying48 rfl zas _ rfl) rfl ⟨?_,zai HB7.out (Nat.le_refl _) _ _ _ _⟩
       rw [HL.out]
       simp [valC,zbU]
 case false =>
   have HS:=Lib.hid (show V=za0 1 (bl s) by
     rw [HV.out,zaF,show zdJ (bl s)=bl s from by unfold zdJ;rw [if_neg (by rintro (h|h);exact zd9 HC1.out h;exact zd9 HC2.out h)]];unfold zdM;rw [if_neg (zd9 HC1.out)])
   have hsz:=hs
   obtain ⟨b,hb⟩:∃b,b=s:=⟨_,rfl⟩
   rw [←hb] at HS
   go_enter Tryz.func167,Tryz.ntmps167
   go_wp2_with (go_at_call 80;first|(refine (HP1.out _).mono ?_;rintro e w' ⟨rfl,rfl⟩)|(refine (HP2.out _).mono ?_;rintro e w' ⟨rfl,rfl⟩))
   subst hb
   go_wp2_with fail
   refine (cut_any b _ (by omega)).mono ?_
   rintro e w' ⟨F,R,rfl,h1,h2,h3,h4,q,rfl⟩
   have HK2:=Lib.hid (show ((w.alloc (.cells #[.int .i64 0,.int .i64 0,.string ⟨#[]⟩,.slice none 0 0] 48)).drewN q).heap[w.heap.size]?=some (.cells #[.int .i64 0,.int .i64 0,.string ⟨#[]⟩,.slice none 0 0] 48 (0,0)) from HBX.out)
   have HB2:=Lib.hid (show Below w.heap.size w ((w.alloc (.cells #[.int .i64 0,.int .i64 0,.string ⟨#[]⟩,.slice none 0 0] 48)).drewN q) from zad HB0.out q)
   generalize ((w.alloc (.cells #[.int .i64 0,.int .i64 0,.string ⟨#[]⟩,.slice none 0 0] 48)).drewN q)=w2 at *
   have HF:=Lib.hid h1
   have HR:=Lib.hid h2
   obtain ⟨pt,hpt⟩:∃pt,zeI (bl b)=pt:=⟨_,rfl⟩
   rw [hpt]
   have HPT:=Lib.hid hpt
   clear h1 h2 hpt
   have hw2:=HB2.out.size
   have HALF:=Lib.hid (fun W=>zeZ F W)
   have HALR:=Lib.hid (fun W=>zeZ R W)
   by_cases hz:F.size+R.size=0
   · have HL:=Lib.hid (show V=(0,0,11) by
       rw [HS.out];unfold za0;rw [if_pos (.inl (by rw [←HF.out,←HR.out,zaL,zaL];exact hz))])
     have hz0:(((F.size:Int)+(R.size:Int))==0)=true:=by rw [beq_iff_eq];omega
     obtain ⟨⟨k0,k1,k2,k3⟩,f0,f1,f2,f3⟩:=zaf HK2.out
     go_wp2
     refine bodyPost_ret (zaa rfl _ _ w.heap.size 48 _ (0,0) _ rfl (set4 HK2.out _ _ _ _) Tryz.underlying48 rfl zas _ rfl) rfl ⟨?_,zai HB2.out (Nat.le_refl _) _ _ _ _⟩
     rw [HL.out]
     rfl
   · have hz0 : (((F.size : Int) + (R.size : Int)) == 0) = false := by rw [beq_eq_false_iff_ne]; omega
     obtain ⟨cF,hcF⟩:∃c,(bl F).all isDg=c:=⟨_,rfl⟩
     obtain ⟨cR,hcR⟩:∃c,(bl R).all isDg=c:=⟨_,rfl⟩
     rw [hcF] at HALF
     rw [hcR] at HALR
     have HCF:=Lib.hid hcF
     have HCR:=Lib.hid hcR
     clear hcF hcR
     cases cF
     case false =>
       have HL:=Lib.hid (show V=(0,0,11) by
         rw [HS.out];unfold za0;rw [if_pos (.inr (.inl (by rw [←HF.out];exact HCF.out)))])
       go_wp2_with fail
       refine (HALF.out _).mono ?_
       rintro e w3 ⟨rfl,hb3⟩
       have h3k:=zab hb3 HK2.out
       have HB3:=Lib.hid (HB2.out.trans (hb3.mono hw2))
       obtain ⟨⟨k0,k1,k2,k3⟩,f0,f1,f2,f3⟩:=zaf h3k
       have HK3:=Lib.hid h3k
       clear h3k hb3
       go_wp2
       refine bodyPost_ret (zaa rfl _ _ w.heap.size 48 _ (0,0) _ rfl (set4 HK3.out _ _ _ _) Tryz.underlying48 rfl zas _ rfl) rfl ⟨?_,zai HB3.out (Nat.le_refl _) _ _ _ _⟩
       rw [HL.out]
       rfl
     go_wp2_with fail
     refine (HALF.out _).mono ?_
     rintro e w3 ⟨rfl,hb3⟩
     have HK3:=Lib.hid (zab hb3 HK2.out)
     have HB3:=Lib.hid (HB2.out.trans (hb3.mono hw2))
     clear hb3
     go_wp2_with fail
     refine (HALR.out _).mono ?_
     rintro e w4 ⟨rfl,hb4⟩
     have HK4:=Lib.hid (zab hb4 HK3.out)
     have HB4:=Lib.hid (HB3.out.trans (hb4.mono HB3.out.size))
     clear hb4
     cases cR
     case false =>
       have HL:=Lib.hid (show V=(0,0,11) by
         rw [HS.out];unfold za0;rw [if_pos (.inr (.inr (by rw [←HR.out];exact HCR.out)))])
       obtain ⟨⟨k0,k1,k2,k3⟩,f0,f1,f2,f3⟩:=zaf HK4.out
       go_wp2
       refine bodyPost_ret (zaa rfl _ _ w.heap.size 48 _ (0,0) _ rfl (set4 HK4.out _ _ _ _) Tryz.underlying48 rfl zas _ rfl) rfl ⟨?_,zai HB4.out (Nat.le_refl _) _ _ _ _⟩
       rw [HL.out]
       rfl
     have hd0:bl (⟨#[48]⟩++F:ByteArray)=48::bl F:=by rw [zeE];rfl
     have hdig:=fun W=>zdn (⟨#[48]⟩++F) W
     rw [hd0,digits0 _ HCF.out] at hdig
     have HDIG:=Lib.hid hdig
     have HL:=Lib.hid (show V=if 2147483647<valD (bl F) then (0,0,5) else if pt=false then (2,(1:Int) * (valD (bl F):Nat),0) else if 2147483647000000<valD (bl F) * 1000000+mil (bl R) then (0,0,5) else (3,(1:Int) * ((valD (bl F) * 1000000+mil (bl R):Nat):Int),0) by
       rw [HS.out];unfold za0
       rw [if_neg (by
         rintro (h|h|h)
         · rw [←HF.out,←HR.out,zaL,zaL] at h;exact hz h
         · rw [←HF.out,HCF.out] at h;cases h
         · rw [←HR.out,HCR.out] at h;cases h),HPT.out,←HF.out,←HR.out])
     have HMIL:=Lib.hid (fun W=>zcD R W (by omega) HCR.out)
     have hml:=zg9 (bl R) HCR.out
     have hszF:(⟨#[48]⟩++F:ByteArray).size=F.size+1:=by rw [zer,Nat.add_comm];rfl
     clear hdig hd0
     generalize valD (bl F)=n at *
     generalize mil (bl R)=m at *
     by_cases hov:2147483647<n
     · rw [if_pos hov] at HDIG
       rw [if_pos hov] at HL
       clear hov
       go_wp2_with fail
       refine (HDIG.out _).mono ?_
       rintro e w5 ⟨rfl,hb5⟩
       have HK5:=Lib.hid (zab hb5 HK4.out)
       have HB5:=Lib.hid (HB4.out.trans (hb5.mono HB4.out.size))
       obtain ⟨⟨k0,k1,k2,k3⟩,f0,f1,f2,f3⟩:=zaf HK5.out
       clear hb5
       go_wp2
       refine bodyPost_ret (zaa rfl _ _ w.heap.size 48 _ (0,0) _ rfl (set4 HK5.out _ _ _ _) Tryz.underlying48 rfl zas _ rfl) rfl ⟨?_,zai HB5.out (Nat.le_refl _) _ _ _ _⟩
       rw [HL.out]
       rfl
     rw [if_neg hov] at HDIG
     rw [if_neg hov] at HL
     have hn:(n:Int)≤2147483647:=by omega
     clear hov
     go_wp2_with fail
     refine (HDIG.out _).mono ?_
     rintro e w5 ⟨rfl,hb5⟩
     have HK5:=Lib.hid (zab hb5 HK4.out)
     have HB5:=Lib.hid (HB4.out.trans (hb5.mono HB4.out.size))
     obtain ⟨⟨k0,k1,k2,k3⟩,f0,f1,f2,f3⟩:=zaf HK5.out
     clear hb5
     cases pt
     case false =>
       rw [if_pos rfl] at HL
       go_wp2
       refine bodyPost_ret (zaa rfl _ _ w.heap.size 48 _ (0,0) _ rfl (set4 HK5.out _ _ _ _) Tryz.underlying48 rfl zas _ rfl) rfl ⟨?_,zai HB5.out (Nat.le_refl _) _ _ _ _⟩
       rw [HL.out]
       simp [valC,zbU]
     rw [if_neg (by decide)] at HL
     clear k0 k1 k2 k3 f0 f1 f2 f3
     go_wp2_with fail
     refine (HMIL.out _).mono ?_
     rintro e w6 ⟨rfl,hb6⟩
     have HK6:=Lib.hid (zab hb6 HK5.out)
     have HB6:=Lib.hid (HB5.out.trans (hb6.mono HB5.out.size))
     clear hb6
     have hw6:=(Array.getElem?_eq_some_iff.1 HK6.out).1
     have hck:zaS 3 ((n:Int) * 1000000+(m:Int)) (zb3 ⟨#[]⟩ 0)=if 2147483647000000<n * 1000000+m then 2 else 0:=by
       unfold zaS
       by_cases hb:2147483647000000<n * 1000000+m
       · rw [if_pos hb,if_neg];rintro ⟨-,h|h⟩<;>omega
       · rw [if_neg hb,if_pos];exact ⟨rfl,.inr ⟨rfl,by omega,by omega⟩⟩
     have HCK:=Lib.hid (fun W=>zcI 3 ((n:Int) * 1000000+(m:Int)) ⟨#[]⟩ none 0 0 W (by omega))
     rw [hck] at HCK
     clear hck
     go_wp2_with fail
     refine (HCK.out _).mono ?_
     rintro e w7 ⟨rfl,hb7⟩
     have HK7:=Lib.hid (zab hb7 (zak _ HK6.out))
     have hq7:=zab hb7 (zac _ rfl)
     have HB7:=Lib.hid ((HB6.out.alloc (Nat.le_of_lt hw6) (.cells #[.int .i64 3,.int .i64 ((n:Int) * 1000000+(m:Int)),.string ⟨#[]⟩,.slice none 0 0] 48)).trans (hb7.mono (by rw [zal];omega)))
     obtain ⟨⟨k0,k1,k2,k3⟩,f0,f1,f2,f3⟩:=zaf HK7.out
     obtain ⟨⟨g0,g1,g2,g3⟩,-⟩:=zaf hq7
     clear hb7 hq7
     by_cases hbig:2147483647000000<n * 1000000+m
     · rw [if_pos hbig] at HL ⊢
       clear hbig
       go_wp2
       refine bodyPost_ret (zaa rfl _ _ w.heap.size 48 _ (0,0) _ rfl (set4 HK7.out _ _ _ _) Tryz.underlying48 rfl zas _ rfl) rfl ⟨?_,zai HB7.out (Nat.le_refl _) _ _ _ _⟩
       rw [HL.out]
       rfl
     · rw [if_neg hbig] at HL ⊢
       clear hbig
       go_wp2
       refine bodyPost_ret (zaa rfl _ _ w.heap.size 48 _ (0,0) _ rfl (set4 HK7.out _ _ _ _) Tryz.underlying48 rfl zas _ rfl) rfl ⟨?_,zai HB7.out (Nat.le_refl _) _ _ _ _⟩
       rw [HL.out]
       simp [valC,zbU]
def mkS (l:List UInt8):ByteArray:=⟨l.toArray⟩
theorem zcs (l:List UInt8):bl (mkS l)=l:=rfl
theorem mkS_bl (s:ByteArray):mkS (bl s)=s:=rfl
theorem zbw (l:List UInt8):(mkS l).size=l.length:=by unfold mkS;simp [ByteArray.size]
theorem zfU (a b:List UInt8):mkS a++mkS b=mkS (a++b):=ByteArray.mk_append_mk a b
theorem zc0 {a b:ByteArray} (h:bl a=bl b):a=b:=by rw [←mkS_bl a,←mkS_bl b,h]
theorem zcz {a b:ByteArray} (h:a=b):Ending.returned (.string a)=.returned (.string b):=by rw [h]
theorem zbP {a b:ByteArray} {x y:Int} (h:a=b) (h2:x=y):Ending.returned (.tuple #[.string a,.int .i64 x])=.returned (.tuple #[.string b,.int .i64 y]):=by rw [h,h2]
theorem dig_ext (d:Nat) (h:d<10):(⟨#[48,49,50,51,52,53,54,55,56,57]⟩:ByteArray).extract d (d+1)=mkS [UInt8.ofNat (48+d)]:=by
 have:d=0∨d=1∨d=2∨d=3∨d=4∨d=5∨d=6∨d=7∨d=8∨d=9:=by omega
 rcases this with rfl|rfl|rfl|rfl|rfl|rfl|rfl|rfl|rfl|rfl<;>rfl
def zhI (n:Nat) (w:World) (e:Ending) (w':World):Prop:=e=.returned (.string (mkS (decL n)))∧∃q,w'=w.drewN q
theorem zgb (n:Nat) (hn:n<18446744073709551616) (w:World):Calls Tryz.prog 28 #[.int .u64 n] w (zhI n w):=by
 induction n using Nat.strongRecOn generalizing w with
 | ind n ih =>
   by_cases h:n<10
   · have HV := Lib.hid (show (⟨#[48, 49, 50, 51, 52, 53, 54, 55, 56, 57]⟩ : ByteArray).extract n (n + 1) = mkS (decL n) by rw [dig_ext n h, zb6 h])
     clear ih
     go_enter Tryz.func28,Tryz.ntmps28
     go_wp2
     go_ret
     exact ⟨zcz HV.out,0,rfl⟩
   · have hm : n % 10 < 10 := by omega
     have hd:n / 10<n:=by omega
     have hlen:=zaQ 19 (n / 10) (by omega)
     have HV:=Lib.hid (show mkS (decL (n / 10))++(⟨#[48,49,50,51,52,53,54,55,56,57]⟩:ByteArray).extract (n % 10) (n % 10+1)=mkS (decL n) by
       rw [dig_ext _ hm,zfU,zd4 (n:=n) (by omega)])
     have HI:=Lib.hid (fun W=>ih (n / 10) hd (by omega) W)
     have hsz:(mkS (decL (n / 10))).size≤20:=by rw [zbw];exact hlen
     have hdc:decide ((n:Int)<10)=false:=decide_eq_false (by omega)
     have h10:(10:Int)≤n:=by omega
     clear ih hlen h
     unfold zhI at HI
     generalize mkS (decL (n / 10))=T at *
     go_enter Tryz.func28,Tryz.ntmps28
     go_wp2
     go_quiet ((go_at_call 28;exact Calls.quiet_of (HI.out _)))
     go_wp2
     go_ret
     exact ⟨zcz HV.out,_,rfl⟩
theorem zdw (N:Nat) (L:Int) (w:World) (hN:N<9223372036854775808) (hL1:1≤L) (hL2:L≤20) :
   Calls Tryz.prog 91 #[.int .i64 N,.int .i64 L] w fun e w'=>e=.returned (.string (mkS (padL N L.toNat)))∧w=w':=by
 obtain ⟨V,hV⟩:∃V,V=mkS (padL N L.toNat):=⟨_,rfl⟩
 rw [←hV]
 have HV:=Lib.hid hV
 have HNN:=Lib.hid hN
 clear hV
 go_enter Tryz.func91,Tryz.ntmps91
 go_wp2
 go_loop [0,5,6] (fun n s i=>∃(k M:Nat) (S:ByteArray),k≤20∧n=.int .i64 M∧s=.string S∧i=.int .i64 k∧M<9223372036854775808∧Hid (M=N / 10 ^ k)∧Hid (S=mkS (fixD N k))∧Hid (L.toNat<k→N / 10 ^ (k-1)≠0)) (fun _ _ i=>20-(intOf i).toNat)
 case atStart=>exact ⟨0,N,⟨#[]⟩,by omega,rfl,rfl,rfl,hN,Lib.hid (by simp),Lib.hid rfl,Lib.hid (fun h=>by omega)⟩
 case round =>
   obtain ⟨k,M,S,hk,rfl,rfl,rfl,hM,HM,HS,HL⟩:=hrel
   have hsz:S.size=k:=by rw [HS.out,zbw,zfA]
   have HNEXT:=Lib.hid (show (⟨#[48,49,50,51,52,53,54,55,56,57]⟩:ByteArray).extract (M % 10) (M % 10+1)++S=mkS (fixD N (k+1)) by
     rw [dig_ext _ (by omega),HS.out,zfU,HM.out];rfl)
   have HM2:=Lib.hid (show M / 10=N / 10 ^ (k+1) by rw [HM.out,Nat.div_div_eq_div_mul,Nat.pow_succ])
   clear hN
   by_cases hk20:k<20
   · have d1 : decide ((k : Int) < 20) = true := by simp; omega
     by_cases hM0:0<M
     · have d2 : decide ((0 : Int) < M) = true := by simp; omega
       have HL2:=Lib.hid (show L.toNat<k+1→N / 10 ^ (k+1-1)≠0 from fun _=>by rw [show k+1-1=k from rfl,←HM.out];omega)
       go_wp2
       go_round
       case rel=>exact ⟨k+1,M / 10,_,by omega,by go_num,rfl,by go_num,by omega,HM2,HNEXT,HL2⟩
       case measure=>simp [intOf];omega
     · have d2 : decide ((0 : Int) < M) = false := decide_eq_false (by omega)
       have d2':M=0:=by omega
       by_cases hkL:(k:Int)<L
       · have d3 : decide ((k : Int) < L) = true := by simpa using hkL
         have HL2:=Lib.hid (show L.toNat<k+1→N / 10 ^ (k+1-1)≠0 from fun h=>by omega)
         subst d2'
         go_wp2
         go_round
         case rel=>exact ⟨k+1,0,_,by omega,by go_num,rfl,by go_num,by omega,HM2,HNEXT,HL2⟩
         case measure=>simp [intOf];omega
       · have d3 : decide ((k : Int) < L) = false := by simpa using hkL
         have HE:=Lib.hid (show S=V by rw [HV.out,HS.out,fixD_end N L.toNat k (by omega) (by omega) (by rw [←HM.out];exact d2') HL.out])
         subst d2'
         go_wp2
         go_ret
         exact ⟨zcz HE.out,rfl⟩
   · obtain rfl : k = 20 := by omega
     have HE:=Lib.hid (show S=V by
       rw [HV.out,HS.out,fixD_end N L.toNat 20 (by omega) (by omega) (Nat.div_eq_of_lt (by have:=HNN.out;omega)) HL.out])
     go_wp2
     go_ret
     exact ⟨zcz HE.out,rfl⟩
def strLen:Value→Nat | .string t=>t.size|_=>0
theorem trimByte_any (s:ByteArray) (w:World) (hs:s.size≤100000) :
   Calls Tryz.prog 47 #[.string s,.int .u8 48] w fun e w'=>e=.returned (.string (mkS (zca (bl s))))∧w=w':=by
 obtain ⟨V,hV⟩:∃V,V=zca (bl s):=⟨_,rfl⟩
 rw [←hV]
 have HV:=Lib.hid hV
 clear hV
 go_enter Tryz.func47,Tryz.ntmps47
 go_wp2
 go_loop [0] (fun v=>∃T:ByteArray,v=.string T∧T.size≤100000∧Hid (V=zca (bl T))) (fun v=>strLen v)
 case atStart=>exact ⟨s,rfl,hs,HV⟩
 case round =>
   obtain ⟨T,rfl,hT,HT⟩:=hrel
   by_cases h0:T.size=0
   · have HE:=Lib.hid (show T=mkS V by
       apply zc0
       have:bl T=[]:=List.eq_nil_of_length_eq_zero (by rw [zaL];exact h0)
       rw [HT.out,this];rfl)
     go_wp2
     go_ret
     exact ⟨zcz HE.out,rfl⟩
   · obtain ⟨m, hm⟩ : ∃ m, T.size = m + 1 := ⟨T.size - 1, by omega⟩
     have hgb:=PlainAid.get_bt T
     have hlt:m<T.size:=by omega
     have hx:(T[m].toNat:Int)=PlainAid.bt T m:=hgb m hlt
     have hsp:=zdT T m hlt
     rw [List.take_of_length_le (by rw [zaL];omega)] at hsp
     have HSP:=Lib.hid hsp
     have HX:=Lib.hid hx
     clear hsp hx h0
     by_cases h48:PlainAid.bt T m=48
     · have h48d : (PlainAid.bt T m == 48) = true := by rw [beq_iff_eq]; exact h48
       have HN:=Lib.hid (show V=zca (bl (T.extract 0 m)) by
         rw [HT.out,HSP.out,bl_to,show T[m]=48 from UInt8.toNat_inj.1 (Int.ofNat_inj.1 (HX.out.trans h48)),zeH])
       clear h48
       go_wp2
       go_round
       case rel=>exact ⟨_,rfl,by rw [ByteArray.size_extract];omega,HN⟩
       case measure=>simp [strLen,ByteArray.size_extract];omega
     · have h48d : (PlainAid.bt T m == 48) = false := by rw [beq_eq_false_iff_ne]; exact h48
       have HE:=Lib.hid (show T=mkS V by
         apply zc0
         rw [zcs,HT.out,HSP.out,zeW]
         intro e;exact h48 (by rw [←HX.out,e];rfl))
       clear h48
       go_wp2
       go_ret
       exact ⟨zcz HE.out,rfl⟩
theorem zhk (s:ByteArray) (w:World) (hs:s.size≤100000) :
   Calls Tryz.prog 30 #[.string s,.string ⟨#[48]⟩] w fun e w'=>e=.returned (.string (mkS (zca (bl s))))∧w=w':=by
 have HT:=Lib.hid (fun W=>trimByte_any s W hs)
 by_cases he:s.toList=[]
 · have HE := Lib.hid (show s = mkS (zca (bl s)) by apply zc0; rw [zcs, ← toL, he]; rfl)
   generalize mkS (zca (bl s))=V at *
   go_enter Tryz.func30,Tryz.ntmps30
   go_wp2
   go_ret
   exact ⟨zcz HE.out,rfl⟩
 · have he2 : s.toList.isEmpty = false := by simpa using he
   generalize mkS (zca (bl s))=V at *
   clear he
   go_enter Tryz.func30,Tryz.ntmps30
   go_wp2_with (go_at_call 47;refine (HT.out _).mono ?_;rintro e w' ⟨rfl,rfl⟩)
   go_ret
   exact ⟨rfl,rfl⟩
theorem zeros_ext (k:Nat) (h:k≤64):(mkS (List.replicate 64 48)).extract 0 k=mkS (List.replicate k 48):=by
 apply zc0
 rw [bl_to,zcs,zcs,List.take_replicate,Nat.min_eq_left h]
theorem case20 (k:Nat) (h:k<20):k=0∨k=1∨k=2∨k=3∨k=4∨k=5∨k=6∨k=7∨k=8∨k=9∨k=10∨k=11∨k=12∨k=13∨k=14∨k=15∨k=16∨k=17∨k=18∨k=19:=by omega
theorem mul64_any (k : Nat) (h : k < 20) (w : World) : Calls Tryz.prog 121 #[.int .u64 1, .int .u64 k] w fun e w' => e = .returned (.tuple #[.int .u64 0, .int .u64 k]) ∧ w = w' := by
 rcases case20 k h with rfl|rfl|rfl|rfl|rfl|rfl|rfl|rfl|rfl|rfl|rfl|rfl|rfl|rfl|rfl|rfl|rfl|rfl|rfl|rfl
 all_goals
   go_enter Tryz.func121,Tryz.ntmps121
   go_wp2
   go_ret2
   exact ⟨rfl,rfl⟩
theorem mul_any (k : Nat) (h : k < 20) (w : World) : Calls Tryz.prog 79 #[.int .u64 1, .int .u64 k] w fun e w' => e = .returned (.tuple #[.int .u64 0, .int .u64 k]) ∧ w = w' := by
 have HM:=Lib.hid (fun W=>mul64_any k h W)
 go_enter Tryz.func79,Tryz.ntmps79
 go_wp2_with (go_at_call 121;refine (HM.out _).mono ?_;rintro e w' ⟨rfl,rfl⟩)
 go_ret2
 exact ⟨rfl,rfl⟩
set_option maxRecDepth 100000 in
theorem repeat_any (k : Nat) (h : k < 20) (w : World) : Calls Tryz.prog 46 #[.string ⟨#[48]⟩, .int .i64 k] w fun e w' => e = .returned (.string (mkS (List.replicate k 48))) ∧ w = w' := by
 have HM:=Lib.hid (fun W=>mul_any k h W)
 obtain ⟨V,hV⟩:∃V,V=mkS (List.replicate k 48):=⟨_,rfl⟩
 rw [←hV]
 have HV:=Lib.hid hV
 clear hV
 by_cases h0:k=0
 · subst h0
   go_enter Tryz.func46,Tryz.ntmps46
   go_wp2
   go_ret
   exact ⟨zcz HV.out.symm,rfl⟩
 by_cases h1:k=1
 · subst h1
   go_enter Tryz.func46,Tryz.ntmps46
   go_wp2
   go_ret
   exact ⟨zcz HV.out.symm,rfl⟩
 have h0d:((k:Int)==0)=false:=by rw [beq_eq_false_iff_ne];omega
 have h1d:((k:Int)==1)=false:=by rw [beq_eq_false_iff_ne];omega
 have hn:decide ((k:Int)<0)=false:=decide_eq_false (by omega)
 have hk19:(k:Int)≤19:=by omega
 have hk0:(0:Int)≤k:=by omega
 have h128:decide ((k:Int)≤128)=true:=decide_eq_true (by omega)
 have h64:decide ((k:Int)≤64)=true:=decide_eq_true (by omega)
 have HE:=Lib.hid (show (mkS (List.replicate 64 48)).extract 0 k=V by rw [HV.out];exact zeros_ext k (by omega))
 clear h0 h1
 go_enter Tryz.func46,Tryz.ntmps46
 go_wp2_with fail
 refine (HM.out _).mono ?_
 rintro e w' ⟨rfl,rfl⟩
 go_wp2_with fail
 refine (zfZ _ 48 _ (by decide)).mono ?_
 rintro e w' ⟨rfl,rfl⟩
 rw [show hd1 _ 48=false from rfl]
 go_wp2_with fail
 refine (zfZ _ 48 _ (by decide)).mono ?_
 rintro e w' ⟨rfl,rfl⟩
 rw [show hd1 _ 48=false from rfl]
 go_wp2_with fail
 refine (zfZ _ 48 _ (by decide)).mono ?_
 rintro e w' ⟨rfl,rfl⟩
 rw [show hd1 _ 48=true from rfl]
 go_wp2
 go_ret
 exact ⟨zcz HE.out,rfl⟩
def zf8 (n d:Int) (w:World) (e:Ending) (w':World):Prop:=e=.returned (.tuple #[.string (mkS (padV n d).1),.int .i64 (padV n d).2])∧∃q,w'=w.drewN q
theorem zcv {n d:Int} (h:n<0∨d<1∨20<d∨d<((decL n.toNat).length:Int)):padV n d=([],2):=by unfold padV;rw [if_pos h]
theorem zgo {N:Nat} {d:Int} (h1:1≤d) (h2:d≤20) (h3:((decL N).length:Int)≤d):padV N d=(padL N d.toNat,0):=by unfold padV;rw [if_neg (by simp;omega)];simp
theorem pad_any (n d:Int) (w:World) (hn:n<9223372036854775808) (hn0:-9223372036854775808≤n) (hd0:-9223372036854775808≤d) (hd1:d≤9223372036854775807) :
   Calls Tryz.prog 29 #[.int .i64 n,.int .i64 d] w (zf8 n d w):=by
 obtain ⟨V,hV⟩:∃V,V=padV n d:=⟨_,rfl⟩
 unfold zf8
 rw [←hV]
 have HV:=Lib.hid hV
 clear hV
 by_cases h1:n<0
 · have HE := Lib.hid (show V = ([], 2) by rw [HV.out]; exact zcv (.inl h1))
   clear hn hn0 hd0 hd1
   go_enter Tryz.func29,Tryz.ntmps29
   go_wp2
   go_ret2
   exact ⟨by rw [HE.out];rfl,0,rfl⟩
 have h1d:decide (n<0)=false:=by simpa using h1
 by_cases h2:d<1
 · have HE := Lib.hid (show V = ([], 2) by rw [HV.out]; exact zcv (.inr (.inl h2)))
   clear hn hn0 hd0 hd1 h1
   go_enter Tryz.func29,Tryz.ntmps29
   go_wp2
   go_ret2
   exact ⟨by rw [HE.out];rfl,0,rfl⟩
 have h2d:decide (d<1)=false:=by simpa using h2
 by_cases h3:20<d
 · have HE := Lib.hid (show V = ([], 2) by rw [HV.out]; exact zcv (.inr (.inr (.inl h3))))
   clear hn hn0 hd0 hd1 h1 h2
   go_enter Tryz.func29,Tryz.ntmps29
   go_wp2
   go_ret2
   exact ⟨by rw [HE.out];rfl,0,rfl⟩
 have h3d:decide (20<d)=false:=by simpa using h3
 obtain ⟨N,rfl⟩:=Int.eq_ofNat_of_zero_le (show 0≤n by omega)
 have h2':1≤d:=by omega
 have h3':d≤20:=by omega
 have HT:=Lib.hid (fun W=>zgb N (by omega) W)
 unfold zhI at HT
 have hsz:(mkS (decL N)).size=(decL N).length:=zbw _
 have hl1:=(zbS N).2.2
 have hconv:IntKind.u64.wrap (N:Int)=(N:Int):=IntWalk.u64_in _ (by omega)
 clear hn hn0 hd0 hd1 h1 h2 h3
 by_cases h4:d<((decL N).length:Int)
 · have HE := Lib.hid (show V = ([], 2) by rw [HV.out]; exact zcv (.inr (.inr (.inr (by simpa using h4)))))
   generalize (decL N).length=len at *
   generalize mkS (decL N)=T at *
   go_enter Tryz.func29,Tryz.ntmps29
   go_wp2_with (go_at_call 28;refine (HT.out _).mono ?_;rintro e w' ⟨rfl,q,rfl⟩)
   go_ret2
   exact ⟨by rw [HE.out];rfl,q,rfl⟩
 · have h4d : decide (d < ((decL N).length : Int)) = false := by simpa using h4
   obtain ⟨k,hk⟩:=Int.eq_ofNat_of_zero_le (show 0≤d-((decL N).length:Int) by omega)
   have HR:=Lib.hid (fun W=>repeat_any k (by omega) W)
   have hzz:(mkS (List.replicate k 48)).size=k:=by rw [zbw,List.length_replicate]
   have hk19:k≤19:=by omega
   have hl20:(decL N).length≤20:=by omega
   have HE:=Lib.hid (show V=(bl (mkS (List.replicate k 48)++mkS (decL N)),0) by
     rw [HV.out,zgo h2' h3' (by omega),zfU,zcs]
     unfold padL
     rw [show d.toNat-(decL N).length=k from by omega])
   clear h4
   generalize (decL N).length=len at *
   generalize mkS (decL N)=T at *
   generalize mkS (List.replicate k 48)=Z at *
   go_enter Tryz.func29,Tryz.ntmps29
   go_wp2_with (first
     | (go_at_call 28;refine (HT.out _).mono ?_;rintro e w' ⟨rfl,q,rfl⟩)
     | (go_at_call 46;refine (HR.out _).mono ?_;rintro e w' ⟨rfl,rfl⟩))
   go_ret2
   exact ⟨by rw [HE.out];rfl,q,rfl⟩
theorem rpad_any (n d:Int) (w:World) (hn:n<9223372036854775808) (hn0:-9223372036854775808≤n) (hd0:-9223372036854775808≤d) (hd1:d≤9223372036854775807) :
   Calls Tryz.prog 52 #[.int .i64 n,.int .i64 d] w (zf8 n d w):=by
 obtain ⟨V,hV⟩:∃V,V=padV n d:=⟨_,rfl⟩
 unfold zf8
 rw [←hV]
 have HV:=Lib.hid hV
 clear hV
 by_cases h1:n<0
 · have HE := Lib.hid (show V = ([], 2) by rw [HV.out]; exact zcv (.inl h1))
   clear hn hn0 hd0 hd1
   go_enter Tryz.func52,Tryz.ntmps52
   go_wp2
   go_ret2
   exact ⟨by rw [HE.out];rfl,0,rfl⟩
 have h1d:decide (n<0)=false:=by simpa using h1
 by_cases h2:d<1
 · have HE := Lib.hid (show V = ([], 2) by rw [HV.out]; exact zcv (.inr (.inl h2)))
   clear hn hn0 hd0 hd1 h1
   go_enter Tryz.func52,Tryz.ntmps52
   go_wp2
   go_ret2
   exact ⟨by rw [HE.out];rfl,0,rfl⟩
 have h2d:decide (d<1)=false:=by simpa using h2
 by_cases h3:20<d
 · have HE := Lib.hid (show V = ([], 2) by rw [HV.out]; exact zcv (.inr (.inr (.inl h3))))
   clear hn hn0 hd0 hd1 h1 h2
   go_enter Tryz.func52,Tryz.ntmps52
   go_wp2
   go_ret2
   exact ⟨by rw [HE.out];rfl,0,rfl⟩
 have h3d:decide (20<d)=false:=by simpa using h3
 obtain ⟨N,rfl⟩:=Int.eq_ofNat_of_zero_le (show 0≤n by omega)
 have h2':1≤d:=by omega
 have h3':d≤20:=by omega
 have HT:=Lib.hid (fun W=>zdw N d W (by omega) h2' h3')
 have hsz:(mkS (padL N d.toNat)).size=(padL N d.toNat).length:=zbw _
 have hl1:=(zbS N).2.2
 clear hn hn0 hd0 hd1 h1 h2 h3
 by_cases h4:d<((decL N).length:Int)
 · have HE := Lib.hid (show V = ([], 2) by rw [HV.out]; exact zcv (.inr (.inr (.inr (by simpa using h4)))))
   have h5:d<((padL N d.toNat).length:Int):=by rw [zcP (by omega)];exact h4
   generalize (padL N d.toNat).length=len at *
   generalize mkS (padL N d.toNat)=T at *
   clear h4
   go_enter Tryz.func52,Tryz.ntmps52
   go_wp2_with (go_at_call 91;refine (HT.out _).mono ?_;rintro e w' ⟨rfl,rfl⟩)
   go_ret2
   exact ⟨by rw [HE.out];rfl,0,rfl⟩
 · have h5 : decide (d < ((padL N d.toNat).length : Int)) = false := by rw [zeb (by omega)]; simp; omega
   have HE:=Lib.hid (show V=(bl (mkS (padL N d.toNat)),0) by rw [HV.out,zgo h2' h3' (by omega),zcs])
   generalize (padL N d.toNat).length=len at *
   generalize mkS (padL N d.toNat)=T at *
   clear h4
   go_enter Tryz.func52,Tryz.ntmps52
   go_wp2_with (go_at_call 91;refine (HT.out _).mono ?_;rintro e w' ⟨rfl,rfl⟩)
   go_ret2
   exact ⟨by rw [HE.out];rfl,0,rfl⟩
theorem rcheck_any (k n:Int) (s:ByteArray) (a:Option Addr) (m c:Nat) (w:World) (hm:(m:Int)≤9223372036854775807) :
   Calls Tryz.prog 128 #[.agg #[.int .i64 k,.int .i64 n,.string s,.slice a m c]] w fun e w'=>e=.returned (.int .i64 (zaS k n (zb3 s m)))∧Below w.heap.size w w':=by
 obtain ⟨V,hV⟩:∃V,V=zaS k n (zb3 s m):=⟨_,rfl⟩
 rw [←hV]
 unfold zaS at hV
 have HB:=Lib.hid (zah w (.cells #[.int .i64 k,.int .i64 n,.string s,.slice a m c] 48))
 by_cases h3:s.toList=[]
 · have h3e : s.toList.isEmpty = true := by rw [h3]; rfl
   by_cases h4:m=0
   · have hb : zb3 s m = true := by unfold zb3; rw [← toL, h3, h4]; rfl
     subst h4
     rw [hb] at hV
     by_cases hk2:k=2
     · subst hk2
       by_cases h5:-2147483647≤n
       · by_cases h6:n≤2147483647
         · have HV := Lib.hid (show V = 0 by rw [hV, if_pos]; exact ⟨rfl, .inl ⟨rfl, h5, h6⟩⟩)
           clear hV
           go_enter Tryz.func128,Tryz.ntmps128
           go_wp2
           go_ret
           exact ⟨zan HV.out.symm,HB.out⟩
         · have HV := Lib.hid (show V = 2 by rw [hV, if_neg]; rintro ⟨-, h | h⟩ <;> omega)
           have h6d:decide (n≤2147483647)=false:=by simpa using h6
           clear hV h6
           go_enter Tryz.func128,Tryz.ntmps128
           go_wp2
           go_ret
           exact ⟨zan HV.out.symm,HB.out⟩
       · have HV := Lib.hid (show V = 2 by rw [hV, if_neg]; rintro ⟨-, h | h⟩ <;> omega)
         have h5d:decide (-2147483647≤n)=false:=by simpa using h5
         clear hV h5
         go_enter Tryz.func128,Tryz.ntmps128
         go_wp2
         go_ret
         exact ⟨zan HV.out.symm,HB.out⟩
     · have hk2d : (k == 2) = false := by rw [beq_eq_false_iff_ne]; exact hk2
       by_cases hk3:k=3
       · subst hk3
         by_cases h5:-2147483647000000≤n
         · by_cases h6:n≤2147483647000000
           · have HV := Lib.hid (show V = 0 by rw [hV, if_pos]; exact ⟨rfl, .inr ⟨rfl, h5, h6⟩⟩)
             clear hV hk2d
             go_enter Tryz.func128,Tryz.ntmps128
             go_wp2
             go_ret
             exact ⟨zan HV.out.symm,HB.out⟩
           · have HV := Lib.hid (show V = 2 by rw [hV, if_neg]; rintro ⟨-, h | h⟩ <;> omega)
             have h6d:decide (n≤2147483647000000)=false:=by simpa using h6
             clear hV h6 hk2d
             go_enter Tryz.func128,Tryz.ntmps128
             go_wp2
             go_ret
             exact ⟨zan HV.out.symm,HB.out⟩
         · have HV := Lib.hid (show V = 2 by rw [hV, if_neg]; rintro ⟨-, h | h⟩ <;> omega)
           have h5d:decide (-2147483647000000≤n)=false:=by simpa using h5
           clear hV h5 hk2d
           go_enter Tryz.func128,Tryz.ntmps128
           go_wp2
           go_ret
           exact ⟨zan HV.out.symm,HB.out⟩
       · have hk3d : (k == 3) = false := by rw [beq_eq_false_iff_ne]; exact hk3
         have HV:=Lib.hid (show V=2 by rw [hV,if_neg];rintro ⟨-,h|h⟩<;>omega)
         clear hV hk2 hk3
         go_enter Tryz.func128,Tryz.ntmps128
         go_wp2
         go_ret
         exact ⟨zan HV.out.symm,HB.out⟩
   · have HV := Lib.hid (show V = 2 by rw [hV, if_neg]; rintro ⟨h, -⟩; unfold zb3 at h; simp at h; exact h4 h.2)
     have h4d:((m:Int)==0)=false:=by rw [beq_eq_false_iff_ne];omega
     have h4e:((m:Int) != 0)=true:=by rw [bne_iff_ne];omega
     clear hV h4
     go_enter Tryz.func128,Tryz.ntmps128
     go_wp2
     go_ret
     exact ⟨zan HV.out.symm,HB.out⟩
 · have HV := Lib.hid (show V = 2 by rw [hV, if_neg]; rintro ⟨h, -⟩; unfold zb3 at h; rw [← toL] at h; simp at h; exact h3 h.1)
   have h3e:s.toList.isEmpty=false:=by simpa using h3
   clear hV
   go_enter Tryz.func128,Tryz.ntmps128
   go_wp2
   go_ret
   exact ⟨zan HV.out.symm,HB.out⟩
def zdk (k n:Int) (bare:Bool) (w:World) (e:Ending) (w':World):Prop:=e=.returned (.tuple #[.string (mkS (zc7 k n bare).1),.int .i64 (zc7 k n bare).2])∧Below w.heap.size w w'
theorem zgU {k n:Int} {b:Bool} (h:zaS k n b=2):zc7 k n b=([],2):=by unfold zc7;rw [if_neg (by omega)]
theorem zee {k n:Int} {b:Bool} (h:zaS k n b=0):zc7 k n b=(zb4 n++absL k n.natAbs,0):=by unfold zc7;rw [if_pos h]
theorem checkV_is (k n:Int) (b:Bool):zaS k n b=0∨zaS k n b=2:=by unfold zaS;split<;>simp
theorem padV6 (A:Nat):padV ((A % 1000000:Nat):Int) 6=(padL (A % 1000000) 6,0):=by
 have h:=zaQ 5 (A % 1000000) (by omega)
 rw [zgo (by omega) (by omega) (by omega)];rfl
theorem pad6_len (A:Nat):(padL (A % 1000000) 6).length=6:=zeb (zaQ 5 (A % 1000000) (by omega))
theorem print_any (k n:Int) (s:ByteArray) (a:Option Addr) (m c:Nat) (w:World) (hm:(m:Int)≤9223372036854775807) :
   Calls Tryz.prog 16 #[.agg #[.int .i64 k,.int .i64 n,.string s,.slice a m c]] w (zdk k n (zb3 s m) w):=by
 obtain ⟨V,hV⟩:∃V,V=zc7 k n (zb3 s m):=⟨_,rfl⟩
 unfold zdk
 rw [←hV]
 have HV:=Lib.hid hV
 have HC:=Lib.hid (fun W=>zcI k n s a m c W hm)
 have HBX:=Lib.hid (show (w.alloc (.cells #[.int .i64 k,.int .i64 n,.string s,.slice a m c] 48)).heap[w.heap.size]?=some (.cells #[.int .i64 k,.int .i64 n,.string s,.slice a m c] 48 (0,0)) from zac _ rfl)
 have HB0:=Lib.hid (zah w (.cells #[.int .i64 k,.int .i64 n,.string s,.slice a m c] 48))
 clear hV hm
 rcases checkV_is k n (zb3 s m) with hc|hc
 case inr =>
   have HE:=Lib.hid (show V=([],2) by rw [HV.out];exact zgU hc)
   rw [hc] at HC
   clear hc
   go_enter Tryz.func16,Tryz.ntmps16
   go_wp2_with (go_at_call 27;refine (HC.out _).mono ?_;rintro e w' ⟨rfl,hb⟩)
   go_ret2
   exact ⟨by rw [HE.out];rfl,HB0.out.trans (hb.mono HB0.out.size)⟩
 have HE:=Lib.hid (show V=(zb4 n++absL k n.natAbs,0) by rw [HV.out];exact zee hc)
 obtain ⟨-,hkn⟩:=zfm hc
 rw [hc] at HC
 clear hc
 obtain ⟨A,hA⟩:∃A:Nat,A=n.natAbs:=⟨_,rfl⟩
 rw [←hA] at HE
 have hAb:A≤2147483647000000:=by omega
 have HT:=Lib.hid (fun W=>zgb A (by omega) W)
 have HT2:=Lib.hid (fun W=>zgb (A / 1000000) (by omega) W)
 unfold zhI at HT HT2
 have hconv:IntKind.u64.wrap (A:Int)=(A:Int):=IntWalk.u64_in _ (by omega)
 have hconv2:IntKind.u64.wrap ((A / 1000000:Nat):Int)=((A / 1000000:Nat):Int):=IntWalk.u64_in _ (by omega)
 have hTs:(mkS (decL A)).size≤20:=by rw [zbw];exact zaQ 19 A (by omega)
 have hTs2:(mkS (decL (A / 1000000))).size≤20:=by rw [zbw];exact zaQ 19 _ (by omega)
 rcases hkn with ⟨rfl,hn1,hn2⟩|⟨rfl,hn1,hn2⟩
 · have HE2 := Lib.hid (show V = (zb4 n ++ decL A, 0) by rw [HE.out]; rfl)
   by_cases hn:n<0
   · have hAn : -n = (A : Int) := by omega
     have HR:=Lib.hid (show (⟨#[45]⟩:ByteArray)++mkS (decL A)=mkS (zb4 n++decL A) by rw [←zfU];unfold zb4;rw [if_pos hn];rfl)
     clear hA
     generalize mkS (decL A)=T at *
     go_enter Tryz.func16,Tryz.ntmps16
     go_wp2_with fail
     refine (HC.out _).mono ?_
     rintro e w1 ⟨rfl,hb1⟩
     have HK1:=Lib.hid (zab hb1 HBX.out)
     have HB1:=Lib.hid (HB0.out.trans (hb1.mono HB0.out.size))
     obtain ⟨⟨k0,k1,k2,k3⟩,-⟩:=zaf HK1.out
     clear hb1
     go_wp2
     go_quiet (fail)
     go_wp2_with (go_at_call 28;refine (HT.out _).mono ?_;rintro e w' ⟨rfl,q,rfl⟩)
     go_ret2
     exact ⟨zbP (by rw [HE2.out];exact HR.out) (by rw [HE2.out]),by simpa using zad (zad HB1.out nq) q⟩
   · obtain rfl : n = (A : Int) := by omega
     have HR:=Lib.hid (show (⟨#[]⟩:ByteArray)++mkS (decL A)=mkS (zb4 (A:Int)++decL A) by rw [←zfU];unfold zb4;rw [if_neg hn];rfl)
     clear hA hn
     generalize mkS (decL A)=T at *
     go_enter Tryz.func16,Tryz.ntmps16
     go_wp2_with fail
     refine (HC.out _).mono ?_
     rintro e w1 ⟨rfl,hb1⟩
     have HK1:=Lib.hid (zab hb1 HBX.out)
     have HB1:=Lib.hid (HB0.out.trans (hb1.mono HB0.out.size))
     obtain ⟨⟨k0,k1,k2,k3⟩,-⟩:=zaf HK1.out
     clear hb1
     go_wp2
     go_quiet (fail)
     go_wp2_with (go_at_call 28;refine (HT.out _).mono ?_;rintro e w' ⟨rfl,q,rfl⟩)
     go_ret2
     exact ⟨zbP (by rw [HE2.out];exact HR.out) (by rw [HE2.out]),by simpa using zad (zad HB1.out nq) q⟩
 · have HE2 := Lib.hid (show V = (zb4 n ++ (decL (A / 1000000) ++ 46 :: zbk (padL (A % 1000000) 6)), 0) by rw [HE.out]; rfl)
   have hp:=fun W=>pad_any ((A % 1000000:Nat):Int) 6 W (by omega) (by omega) (by omega) (by omega)
   unfold zf8 at hp
   rw [padV6] at hp
   have HP:=Lib.hid hp
   have hFs:(mkS (padL (A % 1000000) 6)).size=6:=by rw [zbw];exact pad6_len A
   have HTR:=Lib.hid (fun W=>zhk ((mkS (padL (A % 1000000) 6)).extract 1 6) W (by rw [ByteArray.size_extract];omega))
   have HTF:=Lib.hid (show (mkS (padL (A % 1000000) 6)).extract 0 1++mkS (zca (bl ((mkS (padL (A % 1000000) 6)).extract 1 6)))=mkS (zbk (padL (A % 1000000) 6)) by
     apply zc0
     rw [zeE,zcs,zcs,bl_to]
     have h6:=bl_from (mkS (padL (A % 1000000) 6)) 1
     rw [hFs] at h6
     rw [h6,zcs];rfl)
   have hFe:((mkS (padL (A % 1000000) 6)).extract 0 1++mkS (zca (bl ((mkS (padL (A % 1000000) 6)).extract 1 6)))).size≤6:=by
     rw [HTF.out,zbw];exact (mil_trimF (A % 1000000) (by omega)).2.2.2
   have hF1:(mkS (zca (bl ((mkS (padL (A % 1000000) 6)).extract 1 6)))).size≤6:=by rw [zer] at hFe;omega
   have hF0:((mkS (padL (A % 1000000) 6)).extract 0 1).size≤6:=by rw [ByteArray.size_extract];omega
   clear hp
   by_cases hn:n<0
   · have hAn : -n = (A : Int) := by omega
     have HR:=Lib.hid (show (⟨#[45]⟩:ByteArray)++mkS (decL (A / 1000000))++⟨#[46]⟩++((mkS (padL (A % 1000000) 6)).extract 0 1++mkS (zca (bl ((mkS (padL (A % 1000000) 6)).extract 1 6))))=mkS (zb4 n++(decL (A / 1000000)++46::zbk (padL (A % 1000000) 6))) by
       rw [HTF.out]
       unfold zb4;rw [if_pos hn]
       apply zc0
       simp only [zeE,zcs]
       simp [bl])
     clear hA HTF
     generalize mkS (decL (A / 1000000))=T at *
     generalize mkS (padL (A % 1000000) 6)=F at *
     go_enter Tryz.func16,Tryz.ntmps16
     go_wp2_with fail
     refine (HC.out _).mono ?_
     rintro e w1 ⟨rfl,hb1⟩
     have HK1:=Lib.hid (zab hb1 HBX.out)
     have HB1:=Lib.hid (HB0.out.trans (hb1.mono HB0.out.size))
     obtain ⟨⟨k0,k1,k2,k3⟩,-⟩:=zaf HK1.out
     clear hb1
     go_wp2
     go_quiet (fail)
     go_wp2_with fail
     refine (HP.out _).mono ?_
     rintro e w2 ⟨rfl,q,rfl⟩
     go_wp2_with fail
     go_quiet ((go_at_call 30;exact (HTR.out _).mono fun _ _ ⟨he,hm⟩=>⟨he,_,hm.symm⟩))
     go_wp2_with (go_at_call 28;refine (HT2.out _).mono ?_;rintro e w' ⟨rfl,q2,rfl⟩)
     go_ret2
     exact ⟨zbP (by rw [HE2.out];exact HR.out) (by rw [HE2.out]),by simpa using zad HB1.out _⟩
   · obtain rfl : n = (A : Int) := by omega
     have HR:=Lib.hid (show (⟨#[]⟩:ByteArray)++mkS (decL (A / 1000000))++⟨#[46]⟩++((mkS (padL (A % 1000000) 6)).extract 0 1++mkS (zca (bl ((mkS (padL (A % 1000000) 6)).extract 1 6))))=mkS (zb4 (A:Int)++(decL (A / 1000000)++46::zbk (padL (A % 1000000) 6))) by
       rw [HTF.out]
       unfold zb4;rw [if_neg hn]
       apply zc0
       simp only [zeE,zcs]
       simp [bl])
     clear hA HTF hn
     generalize mkS (decL (A / 1000000))=T at *
     generalize mkS (padL (A % 1000000) 6)=F at *
     go_enter Tryz.func16,Tryz.ntmps16
     go_wp2_with fail
     refine (HC.out _).mono ?_
     rintro e w1 ⟨rfl,hb1⟩
     have HK1:=Lib.hid (zab hb1 HBX.out)
     have HB1:=Lib.hid (HB0.out.trans (hb1.mono HB0.out.size))
     obtain ⟨⟨k0,k1,k2,k3⟩,-⟩:=zaf HK1.out
     clear hb1
     go_wp2
     go_quiet (fail)
     go_wp2_with fail
     refine (HP.out _).mono ?_
     rintro e w2 ⟨rfl,q,rfl⟩
     go_wp2_with fail
     go_quiet ((go_at_call 30;exact (HTR.out _).mono fun _ _ ⟨he,hm⟩=>⟨he,_,hm.symm⟩))
     go_wp2_with (go_at_call 28;refine (HT2.out _).mono ?_;rintro e w' ⟨rfl,q2,rfl⟩)
     go_ret2
     exact ⟨zbP (by rw [HE2.out];exact HR.out) (by rw [HE2.out]),by simpa using zad HB1.out _⟩
theorem trimF_one (a:UInt8):zbk [a]=[a]:=by simp [zbk,zca]
theorem trimF_snoc (a:UInt8) (g:List UInt8):zbk (a::(g++[48]))=zbk (a::g):=by unfold zbk;simp [zeH]
theorem trimF_stop (a c:UInt8) (g:List UInt8) (h:c≠48):zbk (a::(g++[c]))=a::(g++[c]):=by unfold zbk;simp [zeW _ _ h]
theorem zg3 (t:List UInt8) (ht:1≤t.length):zbk (t++[48])=zbk t:=by
 cases t with
 | nil=>simp at ht
 | cons a g=>exact trimF_snoc a g
theorem zgT (t:List UInt8) (c:UInt8) (ht:1≤t.length) (hc:c≠48):zbk (t++[c])=t++[c]:=by
 cases t with
 | nil=>simp at ht
 | cons a g=>exact trimF_stop a c g hc
theorem rprint_any (k n:Int) (s:ByteArray) (a:Option Addr) (m c:Nat) (w:World) (hm:(m:Int)≤9223372036854775807) :
   Calls Tryz.prog 88 #[.agg #[.int .i64 k,.int .i64 n,.string s,.slice a m c]] w (zdk k n (zb3 s m) w):=by
 obtain ⟨V,hV⟩:∃V,V=zc7 k n (zb3 s m):=⟨_,rfl⟩
 unfold zdk
 rw [←hV]
 have HV:=Lib.hid hV
 have HC:=Lib.hid (fun W=>rcheck_any k n s a m c W hm)
 have HBX:=Lib.hid (show (w.alloc (.cells #[.int .i64 k,.int .i64 n,.string s,.slice a m c] 48)).heap[w.heap.size]?=some (.cells #[.int .i64 k,.int .i64 n,.string s,.slice a m c] 48 (0,0)) from zac _ rfl)
 have HB0:=Lib.hid (zah w (.cells #[.int .i64 k,.int .i64 n,.string s,.slice a m c] 48))
 clear hV hm
 rcases checkV_is k n (zb3 s m) with hc|hc
 case inr =>
   have HE:=Lib.hid (show V=([],2) by rw [HV.out];exact zgU hc)
   rw [hc] at HC
   clear hc
   go_enter Tryz.func88,Tryz.ntmps88
   go_wp2_with (go_at_call 128;refine (HC.out _).mono ?_;rintro e w' ⟨rfl,hb⟩)
   go_ret2
   exact ⟨by rw [HE.out];rfl,HB0.out.trans (hb.mono HB0.out.size)⟩
 have HE:=Lib.hid (show V=(zb4 n++absL k n.natAbs,0) by rw [HV.out];exact zee hc)
 obtain ⟨-,hkn⟩:=zfm hc
 rw [hc] at HC
 clear hc
 obtain ⟨A,hA⟩:∃A:Nat,A=n.natAbs:=⟨_,rfl⟩
 rw [←hA] at HE
 have hAb:A≤2147483647000000:=by omega
 have hT:=fun W=>zdw A 1 W (by omega) (by omega) (by omega)
 have hT2:=fun W=>zdw (A / 1000000) 1 W (by omega) (by omega) (by omega)
 have hT3:=fun W=>zdw (A % 1000000) 6 W (by omega) (by omega) (by omega)
 rw [show padL A (1:Int).toNat=decL A from zcP (zbS A).2.2] at hT
 rw [show padL (A / 1000000) (1:Int).toNat=decL (A / 1000000) from zcP (zbS _).2.2] at hT2
 rw [show (6:Int).toNat=6 from rfl] at hT3
 have HT:=Lib.hid hT
 have HT2:=Lib.hid hT2
 have HT3:=Lib.hid hT3
 clear hT hT2 hT3
 have hTs:(mkS (decL A)).size≤20:=by rw [zbw];exact zaQ 19 A (by omega)
 have hTs2:(mkS (decL (A / 1000000))).size≤20:=by rw [zbw];exact zaQ 19 _ (by omega)
 obtain ⟨sg,hsg⟩:∃sg:ByteArray,sg=if n<0 then ⟨#[45]⟩ else ⟨#[]⟩:=⟨_,rfl⟩
 have HSG:=Lib.hid (show bl sg=zb4 n by rw [hsg];unfold zb4;split<;>rfl)
 rcases hkn with ⟨rfl,hn1,hn2⟩|⟨rfl,hn1,hn2⟩
 · have HE2 := Lib.hid (show V = (zb4 n ++ decL A, 0) by rw [HE.out]; rfl)
   have HR:=Lib.hid (show sg++mkS (decL A)=mkS (zb4 n++decL A) by apply zc0;rw [zeE,zcs,zcs,HSG.out])
   by_cases hn:n<0
   · have hAn : -n = (A : Int) := by omega
     rw [if_pos hn] at hsg
     subst hsg
     clear hA
     generalize mkS (decL A)=T at *
     go_enter Tryz.func88,Tryz.ntmps88
     go_wp2_with fail
     refine (HC.out _).mono ?_
     rintro e w1 ⟨rfl,hb1⟩
     have HK1:=Lib.hid (zab hb1 HBX.out)
     have HB1:=Lib.hid (HB0.out.trans (hb1.mono HB0.out.size))
     obtain ⟨⟨k0,k1,k2,k3⟩,-⟩:=zaf HK1.out
     clear hb1
     go_wp2_with (go_at_call 91;refine (HT.out _).mono ?_;rintro e w' ⟨rfl,rfl⟩)
     go_ret2
     exact ⟨zbP (by rw [HE2.out];exact HR.out) (by rw [HE2.out]),HB1.out⟩
   · obtain rfl : n = (A : Int) := by omega
     rw [if_neg hn] at hsg
     subst hsg
     clear hA hn
     generalize mkS (decL A)=T at *
     go_enter Tryz.func88,Tryz.ntmps88
     go_wp2_with fail
     refine (HC.out _).mono ?_
     rintro e w1 ⟨rfl,hb1⟩
     have HK1:=Lib.hid (zab hb1 HBX.out)
     have HB1:=Lib.hid (HB0.out.trans (hb1.mono HB0.out.size))
     obtain ⟨⟨k0,k1,k2,k3⟩,-⟩:=zaf HK1.out
     clear hb1
     go_wp2_with (go_at_call 91;refine (HT.out _).mono ?_;rintro e w' ⟨rfl,rfl⟩)
     go_ret2
     exact ⟨zbP (by rw [HE2.out];exact HR.out) (by rw [HE2.out]),HB1.out⟩
 · have HE2 := Lib.hid (show V = (zb4 n ++ (decL (A / 1000000) ++ 46 :: zbk (padL (A % 1000000) 6)), 0) by rw [HE.out]; rfl)
   have hFs:(mkS (padL (A % 1000000) 6)).size=6:=by rw [zbw];exact pad6_len A
   have HR := Lib.hid (show ∀ F : ByteArray, bl F = zbk (padL (A % 1000000) 6) → sg ++ mkS (decL (A / 1000000)) ++ ⟨#[46]⟩ ++ F = mkS (zb4 n ++ (decL (A / 1000000) ++ 46 :: zbk (padL (A % 1000000) 6))) from fun F hF => by
       apply zc0
       simp only [zeE,zcs,HSG.out,hF]
       simp [bl])
   obtain ⟨f,hf⟩:∃f,f=zbk (padL (A % 1000000) 6):=⟨_,rfl⟩
   have HF:=Lib.hid (show f=zbk (bl (mkS (padL (A % 1000000) 6))) from hf)
   rw [←hf] at HR HE2
   clear hf
   by_cases hn:n<0
   · have hAn : -n = (A : Int) := by omega
     rw [if_pos hn] at hsg
     subst hsg
     clear hA
     generalize mkS (decL (A / 1000000))=T at *
     generalize mkS (padL (A % 1000000) 6)=F at *
     go_enter Tryz.func88,Tryz.ntmps88
     go_wp2_with fail
     refine (HC.out _).mono ?_
     rintro e w1 ⟨rfl,hb1⟩
     have HK1:=Lib.hid (zab hb1 HBX.out)
     have HB1:=Lib.hid (HB0.out.trans (hb1.mono HB0.out.size))
     obtain ⟨⟨k0,k1,k2,k3⟩,-⟩:=zaf HK1.out
     clear hb1
     go_wp2_with fail
     refine (HT3.out _).mono ?_
     rintro e w2 ⟨rfl,rfl⟩
     go_wp2
     go_loop [6,7] (fun v i=>∃(j:Nat) (G:ByteArray),j≤5∧v=.string G∧i=.int .i64 j∧G.size=6-j∧Hid (f=zbk (bl G))) (fun _ i=>5-(intOf i).toNat)
     case atStart=>exact ⟨0,F,by omega,rfl,rfl,hFs,HF⟩
     case round =>
       obtain ⟨j,G,hj,rfl,rfl,hGs,HG⟩:=hrel
       by_cases hj5:j<5
       · have hj5d : decide ((j : Int) < 5) = true := by simp; omega
         obtain ⟨q,hq⟩:∃q,6-j=q+1:=⟨5-j,by omega⟩
         have hq1:1≤q:=by omega
         have hq5:q≤5:=by omega
         have hgb:=PlainAid.get_bt G
         rw [hq] at hGs
         have hlt:q<G.size:=by omega
         have hx:(G[q].toNat:Int)=PlainAid.bt G q:=hgb q hlt
         have hl:1≤((bl G).take q).length:=by rw [List.length_take,zaL];omega
         have hsp:=zdT G q hlt
         rw [List.take_of_length_le (by rw [zaL];omega)] at hsp
         have HL:=Lib.hid hl
         have HSP:=Lib.hid hsp
         have HX:=Lib.hid hx
         have HQ:=Lib.hid hq
         clear hl hsp hx hq
         by_cases h48:PlainAid.bt G q=48
         · have h48d : (PlainAid.bt G q == 48) = true := by rw [beq_iff_eq]; exact h48
           have HN:=Lib.hid (show f=zbk (bl (G.extract 0 q)) by
             have hc:G[q]=48:=UInt8.toNat_inj.1 (Int.ofNat_inj.1 (HX.out.trans h48))
             have h1:=HSP.out
             rw [hc] at h1
             have h2:=zg3 _ HL.out
             rw [←h1] at h2
             rw [HG.out,bl_to,h2])
           clear h48
           go_wp2
           go_round
           case rel=>exact ⟨j+1,_,by omega,rfl,by go_num,by have:=HQ.out;rw [ByteArray.size_extract];omega,HN⟩
           case measure=>simp [intOf];omega
         · have h48d : (PlainAid.bt G q == 48) = false := by rw [beq_eq_false_iff_ne]; exact h48
           have HN:=Lib.hid (show bl G=f by
             have hc:G[q]≠48:=fun e=>h48 (by rw [←HX.out,e];rfl)
             have h2:=zgT _ _ HL.out hc
             rw [←HSP.out] at h2
             rw [HG.out,h2])
           have HRF:=Lib.hid (HR.out G HN.out)
           clear h48
           go_wp2_with (go_at_call 91;refine (HT2.out _).mono ?_;rintro e w' ⟨rfl,rfl⟩)
           go_ret2
           exact ⟨zbP (by rw [HE2.out];exact HRF.out) (by rw [HE2.out]),HB1.out⟩
       · obtain rfl : j = 5 := by omega
         have HN:=Lib.hid (show bl G=f by
           rw [HG.out]
           have hl1:(bl G).length=1:=by rw [zaL,hGs]
           obtain ⟨a,ha⟩:=List.length_eq_one_iff.1 hl1
           rw [ha,trimF_one])
         have HRF:=Lib.hid (HR.out G HN.out)
         go_wp2_with (go_at_call 91;refine (HT2.out _).mono ?_;rintro e w' ⟨rfl,rfl⟩)
         go_ret2
         exact ⟨zbP (by rw [HE2.out];exact HRF.out) (by rw [HE2.out]),HB1.out⟩
   · obtain rfl : n = (A : Int) := by omega
     rw [if_neg hn] at hsg
     subst hsg
     clear hA hn
     generalize mkS (decL (A / 1000000))=T at *
     generalize mkS (padL (A % 1000000) 6)=F at *
     go_enter Tryz.func88,Tryz.ntmps88
     go_wp2_with fail
     refine (HC.out _).mono ?_
     rintro e w1 ⟨rfl,hb1⟩
     have HK1:=Lib.hid (zab hb1 HBX.out)
     have HB1:=Lib.hid (HB0.out.trans (hb1.mono HB0.out.size))
     obtain ⟨⟨k0,k1,k2,k3⟩,-⟩:=zaf HK1.out
     clear hb1
     go_wp2_with fail
     refine (HT3.out _).mono ?_
     rintro e w2 ⟨rfl,rfl⟩
     go_wp2
     go_loop [6,7] (fun v i=>∃(j:Nat) (G:ByteArray),j≤5∧v=.string G∧i=.int .i64 j∧G.size=6-j∧Hid (f=zbk (bl G))) (fun _ i=>5-(intOf i).toNat)
     case atStart=>exact ⟨0,F,by omega,rfl,rfl,hFs,HF⟩
     case round =>
       obtain ⟨j,G,hj,rfl,rfl,hGs,HG⟩:=hrel
       by_cases hj5:j<5
       · have hj5d : decide ((j : Int) < 5) = true := by simp; omega
         obtain ⟨q,hq⟩:∃q,6-j=q+1:=⟨5-j,by omega⟩
         have hq1:1≤q:=by omega
         have hq5:q≤5:=by omega
         have hgb:=PlainAid.get_bt G
         rw [hq] at hGs
         have hlt:q<G.size:=by omega
         have hx:(G[q].toNat:Int)=PlainAid.bt G q:=hgb q hlt
         have hl:1≤((bl G).take q).length:=by rw [List.length_take,zaL];omega
         have hsp:=zdT G q hlt
         rw [List.take_of_length_le (by rw [zaL];omega)] at hsp
         have HL:=Lib.hid hl
         have HSP:=Lib.hid hsp
         have HX:=Lib.hid hx
         have HQ:=Lib.hid hq
         clear hl hsp hx hq
         by_cases h48:PlainAid.bt G q=48
         · have h48d : (PlainAid.bt G q == 48) = true := by rw [beq_iff_eq]; exact h48
           have HN:=Lib.hid (show f=zbk (bl (G.extract 0 q)) by
             have hc:G[q]=48:=UInt8.toNat_inj.1 (Int.ofNat_inj.1 (HX.out.trans h48))
             have h1:=HSP.out
             rw [hc] at h1
             have h2:=zg3 _ HL.out
             rw [←h1] at h2
             rw [HG.out,bl_to,h2])
           clear h48
           go_wp2
           go_round
           case rel=>exact ⟨j+1,_,by omega,rfl,by go_num,by have:=HQ.out;rw [ByteArray.size_extract];omega,HN⟩
           case measure=>simp [intOf];omega
         · have h48d : (PlainAid.bt G q == 48) = false := by rw [beq_eq_false_iff_ne]; exact h48
           have HN:=Lib.hid (show bl G=f by
             have hc:G[q]≠48:=fun e=>h48 (by rw [←HX.out,e];rfl)
             have h2:=zgT _ _ HL.out hc
             rw [←HSP.out] at h2
             rw [HG.out,h2])
           have HRF:=Lib.hid (HR.out G HN.out)
           clear h48
           go_wp2_with (go_at_call 91;refine (HT2.out _).mono ?_;rintro e w' ⟨rfl,rfl⟩)
           go_ret2
           exact ⟨zbP (by rw [HE2.out];exact HRF.out) (by rw [HE2.out]),HB1.out⟩
       · obtain rfl : j = 5 := by omega
         have HN:=Lib.hid (show bl G=f by
           rw [HG.out]
           have hl1:(bl G).length=1:=by rw [zaL,hGs]
           obtain ⟨a,ha⟩:=List.length_eq_one_iff.1 hl1
           rw [ha,trimF_one])
         have HRF:=Lib.hid (HR.out G HN.out)
         go_wp2_with (go_at_call 91;refine (HT2.out _).mono ?_;rintro e w' ⟨rfl,rfl⟩)
         go_ret2
         exact ⟨zbP (by rw [HE2.out];exact HRF.out) (by rw [HE2.out]),HB1.out⟩
theorem lpad_ok (n : Int) (h0 : 0 ≤ n) (h1 : n ≤ 2147483647) (w : World) : Calls Tryz.prog 19 #[.int .i64 n] w fun e w' => e = .returned (.string (mkB (padN n))) ∧ ∃ q, w' = w.drewN q := by
 have hp:=pad_any n 10 w (by omega) (by omega) (by omega) (by omega)
 have hv:padV n 10=(padN n,0):=by
   have h:=zgo (N:=n.toNat) (d:=10) (by omega) (by omega) (by have:=zaQ 9 n.toNat (by omega);omega)
   rw [show ((n.toNat:Nat):Int)=n by omega] at h
   exact h
 unfold zf8 at hp
 rw [hv] at hp
 have HP:=Lib.hid hp
 have he:mkS (padN n)=mkB (padN n):=rfl
 dsimp only at HP
 rw [he] at HP
 generalize mkB (padN n)=T at *
 clear hp hv he h0 h1
 go_enter Tryz.func19,Tryz.ntmps19
 go_wp2_with (go_at_call 29;refine HP.out.mono ?_;rintro e w' ⟨rfl,q,rfl⟩)
 go_ret
 exact ⟨rfl,_,rfl⟩
theorem intOf29 (n : Int) (w : World) : Calls Tryz.prog 17 #[.int .i64 n] w fun e w' => e = .returned (.agg #[.int .i64 2, .int .i64 n, .string ⟨#[]⟩, .slice none 0 0]) ∧ Below w.heap.size w w' := by
 go_enter Tryz.func17,Tryz.ntmps17
 go_wp2
 refine bodyPost_ret (results_cell_row rfl _ _ w.heap.size 48 _ (0,0) _ rfl (zac _ rfl) Tryz.underlying48 rfl (by kernel_rfl)) rfl ?_
 exact ⟨rfl,zah _ _⟩
def nmA:Value:=.agg #[.string ⟨#[76]⟩,.string ⟨#[79]⟩,.string ⟨#[69]⟩,.string ⟨#[78]⟩,.string ⟨#[84]⟩]
theorem names_any (w : World) : Calls Tryz.prog 18 #[] w fun e w' => e = .returned nmA ∧ Below w.heap.size w w' := by
 go_enter Tryz.func18,Tryz.ntmps18
 go_wp2
 refine bodyPost_ret (results_cell_row rfl _ _ w.heap.size 50 _ (0,0) _ rfl (zac _ rfl) Tryz.underlying50 rfl (by kernel_rfl)) rfl ?_
 exact ⟨rfl,zah _ _⟩
theorem number_ok (n : Int) (h1 : 1 ≤ n) (h2 : n ≤ 4096) (w : World) : Calls Tryz.prog 16 #[.agg #[.int .i64 2, .int .i64 n, .string ⟨#[]⟩, .slice none 0 0]] w fun e w' => e = .returned (.tuple #[.string (mkB (decL n.toNat)), .int .i64 0]) ∧ Below w.heap.size w w' := by
 have h:=print_any 2 n ⟨#[]⟩ none 0 0 w (by omega)
 have hv:zc7 2 n (zb3 ⟨#[]⟩ 0)=(decL n.toNat,0):=by
   rw [show zb3 ⟨#[]⟩ 0=true from rfl]
   have hc:zaS 2 n true=0:=zeA h1 h2
   rw [zee hc]
   have hs:zb4 n=[]:=by unfold zb4;rw [if_neg (by omega)]
   have ha:absL 2 n.natAbs=decL n.toNat:=by unfold absL;rw [if_pos rfl,show n.natAbs=n.toNat by omega]
   rw [hs,ha];rfl
 unfold zdk at h
 rw [hv] at h
 exact h
def spI (x:Int):Bool:=decide (x=0∨x=9∨x=10∨x=12∨x=13∨x=32)
def dlI (x:Int):Bool:=decide (x=40∨x=41∨x=60∨x=62∨x=91∨x=93∨x=123∨x=125∨x=47∨x=37)
theorem zdF (c:UInt8) (n:Nat) (hn:n<256):c=UInt8.ofNat n↔(c.toNat:Int)=(n:Int):=by
 constructor
 · rintro rfl;rw [UInt8.toNat_ofNat'];omega
 · intro h;apply UInt8.toNat_inj.1;rw [UInt8.toNat_ofNat'];omega
theorem spI_eq (c:UInt8):isSp c=spI c.toNat:=by
 unfold isSp spI
 rw [Bool.eq_iff_iff]
 simp only [Bool.or_eq_true,beq_iff_eq,decide_eq_true_iff,or_assoc]
 rw [show c=0↔_ from zdF c 0 (by omega),show c=9↔_ from zdF c 9 (by omega),show c=10↔_ from zdF c 10 (by omega),show c=12↔_ from zdF c 12 (by omega),show c=13↔_ from zdF c 13 (by omega),show c=32↔_ from zdF c 32 (by omega)]
 rfl
theorem dlI_eq (c:UInt8):isDl c=dlI c.toNat:=by
 unfold isDl dlI
 rw [Bool.eq_iff_iff]
 simp only [Bool.or_eq_true,beq_iff_eq,decide_eq_true_iff,or_assoc]
 rw [show c=40↔_ from zdF c 40 (by omega),show c=41↔_ from zdF c 41 (by omega),show c=60↔_ from zdF c 60 (by omega),show c=62↔_ from zdF c 62 (by omega),show c=91↔_ from zdF c 91 (by omega),show c=93↔_ from zdF c 93 (by omega),show c=123↔_ from zdF c 123 (by omega),show c=125↔_ from zdF c 125 (by omega),show c=47↔_ from zdF c 47 (by omega),show c=37↔_ from zdF c 37 (by omega)]
 rfl
def rgI (x:Int):Bool:=!spI x&&!dlI x
theorem rgI_eq (c:UInt8):isRg c=rgI c.toNat:=by unfold isRg rgI;rw [spI_eq,dlI_eq]
def hexI (x:Int):Int:=if 48≤x∧x≤57 then x-48 else if 97≤x∧x≤102 then x-87 else if 65≤x∧x≤70 then x-55 else -1
theorem hexI_eq (c:UInt8):hexD c=hexI c.toNat:=by
 unfold hexD hexI
 repeat' split
 all_goals omega
theorem sp_134 (x : Int) (w : World) : Calls Tryz.prog 134 #[.int .u8 x] w fun e w' => e = .returned (.bool (spI x)) ∧ w = w' := by
 obtain ⟨V,hV⟩:∃V,V=spI x:=⟨_,rfl⟩
 rw [←hV]
 have HV:=Lib.hid hV
 clear hV
 by_cases h:x=0∨x=9∨x=10∨x=12∨x=13∨x=32
 · have HL := Lib.hid (show V = true by rw [HV.out]; exact decide_eq_true h)
   rcases h with rfl|rfl|rfl|rfl|rfl|rfl
   all_goals
     go_enter Tryz.func134,Tryz.ntmps134
     go_wp2
     go_ret
     exact ⟨zbH HL.out.symm,rfl⟩
 · have HL := Lib.hid (show V = false by rw [HV.out]; exact decide_eq_false h)
   have e0:(x==0)=false:=by rw [beq_eq_false_iff_ne];omega
   have e1:(x==9)=false:=by rw [beq_eq_false_iff_ne];omega
   have e2:(x==10)=false:=by rw [beq_eq_false_iff_ne];omega
   have e3:(x==12)=false:=by rw [beq_eq_false_iff_ne];omega
   have e4:(x==13)=false:=by rw [beq_eq_false_iff_ne];omega
   have e5:(x==32)=false:=by rw [beq_eq_false_iff_ne];omega
   clear h
   go_enter Tryz.func134,Tryz.ntmps134
   go_wp2
   go_ret
   exact ⟨zbH HL.out.symm,rfl⟩
theorem zfT (x:Int) (w:World):Calls Tryz.prog 134 #[.int .u8 x] w fun e w'=>e=.returned (.bool (spI x))∧w=w':=sp_134 x w
theorem dl_idx (c:UInt8):decide (0≤Lib.indexByte [40,41,60,62,91,93,123,125,47,37] c)=dlI c.toNat:=by
 rw [←dlI_eq]
 have hg:=Lib.indexByte_ge [40,41,60,62,91,93,123,125,47,37] c
 by_cases h:Lib.indexByte [40,41,60,62,91,93,123,125,47,37] c=-1
 · have:=zew _ _ h
   rw [h]
   simp at this
   simp [isDl,this]
 · obtain ⟨i, hi⟩ := Int.eq_ofNat_of_zero_le (show 0 ≤ Lib.indexByte [40, 41, 60, 62, 91, 93, 123, 125, 47, 37] c by omega)
   obtain ⟨a,t,e,-,-⟩:=zeq _ _ _ hi
   have hm:c∈([40,41,60,62,91,93,123,125,47,37]:List UInt8):=by rw [e];simp
   rw [hi,decide_eq_true (by omega)]
   simp at hm
   rcases hm with rfl|rfl|rfl|rfl|rfl|rfl|rfl|rfl|rfl|rfl<;>rfl
theorem u8_back (c:UInt8):((c.toNat:Int)).toNat.toUInt8=c:=by simp
theorem delim_any (c : UInt8) (w : World) : Calls Tryz.prog 166 #[.int .u8 c.toNat] w fun e w' => e = .returned (.bool (dlI c.toNat)) ∧ w = w' := by
 have HV:=Lib.hid (dl_idx c)
 have hS:=fun W=>sidx2_any ⟨#[40,41,60,62,91,93,123,125,47,37]⟩ (c.toNat:Int) W
 rw [u8_back] at hS
 have hS2:∀W,Calls Tryz.prog 158 #[.string ⟨#[40,41,60,62,91,93,123,125,47,37]⟩,.int .u8 c.toNat] W fun e w'=>e=.returned (.int .i64 (Lib.indexByte [40,41,60,62,91,93,123,125,47,37] c))∧W=w':=hS
 have HS:=Lib.hid hS2
 clear hS hS2
 generalize dlI c.toNat=V at *
 generalize Lib.indexByte [40,41,60,62,91,93,123,125,47,37] c=I at *
 go_enter Tryz.func166,Tryz.ntmps166
 go_wp2_with (go_at_call 158;refine (HS.out _).mono ?_;rintro e w' ⟨rfl,rfl⟩)
 go_ret
 exact ⟨zbH HV.out,rfl⟩
theorem zgh (c : UInt8) (w : World) : Calls Tryz.prog 135 #[.int .u8 c.toNat] w fun e w' => e = .returned (.bool (rgI c.toNat)) ∧ w = w' := by
 have HV:=Lib.hid (show rgI c.toNat=(!spI c.toNat&&!dlI c.toNat) from rfl)
 have HS:=Lib.hid (fun W=>zfT c.toNat W)
 have HD:=Lib.hid (fun W=>delim_any c W)
 generalize dlI c.toNat=b at *
 generalize spI c.toNat=a at *
 generalize rgI c.toNat=V at *
 cases a
 all_goals
   go_enter Tryz.func135,Tryz.ntmps135
   go_wp2_with (first
     | (go_at_call 134;refine (HS.out _).mono ?_;rintro e w' ⟨rfl,rfl⟩)
     | (go_at_call 166;refine (HD.out _).mono ?_;rintro e w' ⟨rfl,rfl⟩))
   go_ret
   exact ⟨zbH (by rw [HV.out];rfl),rfl⟩
theorem hx_174 (x : Int) (w : World) (h0 : 0 ≤ x) (h1 : x ≤ 255) : Calls Tryz.prog 174 #[.int .u8 x] w fun e w' => e = .returned (.int .i64 (hexI x)) ∧ w = w' := by
 obtain ⟨V,hV⟩:∃V,V=hexI x:=⟨_,rfl⟩
 rw [←hV]
 unfold hexI at hV
 have d48:∀b,decide (48≤x)=b→decide (48≤x)=b:=fun _ h=>h
 by_cases ha:48≤x
 · by_cases hb:x≤57
   · rw [if_pos ⟨ha,hb⟩] at hV
     have HV:=Lib.hid hV
     clear hV
     go_enter Tryz.func174,Tryz.ntmps174
     go_wp2
     go_ret
     exact ⟨zan (by rw [HV.out]),rfl⟩
   · rw [if_neg (by omega)] at hV
     have hbd:decide (x≤57)=false:=by simpa using hb
     by_cases hc:97≤x
     · by_cases hd:x≤102
       · rw [if_pos ⟨hc,hd⟩] at hV
         have HV:=Lib.hid hV
         clear hV hb
         go_enter Tryz.func174,Tryz.ntmps174
         go_wp2
         go_ret
         exact ⟨zan (by have:=HV.out;omega),rfl⟩
       · rw [if_neg (by omega), if_neg (by omega)] at hV
         have hdd:decide (x≤102)=false:=by simpa using hd
         have he:65≤x:=by omega
         have hfd:decide (x≤70)=false:=by simp;omega
         have HV:=Lib.hid hV
         clear hV hb hd
         go_enter Tryz.func174,Tryz.ntmps174
         go_wp2
         go_ret
         exact ⟨zan (by rw [HV.out]),rfl⟩
     · rw [if_neg (by omega)] at hV
       have hcd:decide (97≤x)=false:=by simpa using hc
       by_cases he:65≤x
       · by_cases hf:x≤70
         · rw [if_pos ⟨he,hf⟩] at hV
           have HV:=Lib.hid hV
           clear hV hb hc
           go_enter Tryz.func174,Tryz.ntmps174
           go_wp2
           go_ret
           exact ⟨zan (by have:=HV.out;omega),rfl⟩
         · rw [if_neg (by omega)] at hV
           have hfd:decide (x≤70)=false:=by simpa using hf
           have HV:=Lib.hid hV
           clear hV hb hc hf
           go_enter Tryz.func174,Tryz.ntmps174
           go_wp2
           go_ret
           exact ⟨zan (by rw [HV.out]),rfl⟩
       · rw [if_neg (by omega)] at hV
         have hed:decide (65≤x)=false:=by simpa using he
         have HV:=Lib.hid hV
         clear hV hb hc he
         go_enter Tryz.func174,Tryz.ntmps174
         go_wp2
         go_ret
         exact ⟨zan (by rw [HV.out]),rfl⟩
 · rw [if_neg (by omega), if_neg (by omega), if_neg (by omega)] at hV
   have had:decide (48≤x)=false:=by simpa using ha
   have hcd:decide (97≤x)=false:=decide_eq_false (by omega)
   have hed:decide (65≤x)=false:=decide_eq_false (by omega)
   have HV:=Lib.hid hV
   clear hV ha d48
   go_enter Tryz.func174,Tryz.ntmps174
   go_wp2
   go_ret
   exact ⟨zan (by rw [HV.out]),rfl⟩
theorem hex_any (c : UInt8) (w : World) : Calls Tryz.prog 174 #[.int .u8 c.toNat] w fun e w' => e = .returned (.int .i64 (hexD c)) ∧ w = w' := by
 rw [hexI_eq];exact hx_174 _ w (by omega) (by have:=c.toNat_lt;omega)
def u8C (b:UInt8):Value:=.int .u8 b.toNat
structure Src where
 a:Option Addr
 cap:Nat
 bs:List UInt8
 last:Bool
def scV (X:Src) (ad v:Value) (k:Nat):Array Value:=#[ad,v,.slice X.a X.bs.length X.cap,.int .i64 k,.bool X.last]
structure IsSc (w:World) (S:Nat→Prop) (p:Nat) (X:Src) (out:List UInt8) (k:Nat) (ad v:Value):Prop where
 blk:w.heap[p]?=some (.cells (scV X ad v k) 171 (0,0))
 ad_:ad=.pointer none∨ad=.pointer (some ⟨p,0,none⟩)
 row:w.ownsRow (p+1) 5 1 v out.length (out.map u8C)
 at_:∀b,v.ownBlock=some b→S b
 own:S p
 lt:∀b,S b→p≤b∧b<w.heap.size
 src:Row w 1 X.a X.bs.length X.cap (X.bs.map u8C)
 srcb:∀x,X.a=some x→x.block<p
 le:k≤X.bs.length
 small:X.bs.length≤400000
 outl:out.length≤k
 nil_:out=[]→v=.slice none 0 0
def ScQ (w:World) (S:Nat→Prop) (p:Nat) (X:Src) (out:List UInt8) (k:Nat):Prop:=∃ad v,IsSc w S p X out k ad v
def zaj (w:World) (S:Nat→Prop) (p:Nat) (X:Src) (out:List UInt8) (k:Nat) (w':World):Prop:=∃S',ScQ w' S' p X out k∧Keeps S w w'∧∀b,S' b→S b∨w.heap.size≤b
theorem zaj.refl {w:World} {S:Nat→Prop} {p:Nat} {X:Src} {out:List UInt8} {k:Nat} (h:ScQ w S p X out k):zaj w S p X out k w:=⟨S,h,Keeps.refl _ _,fun _ h=>.inl h⟩
theorem zaj.trans {w w1 w2:World} {S S1:Nat→Prop} {p:Nat} {X:Src} {out:List UInt8} {k:Nat} (hk:Keeps S w w1) (hs:∀b,S1 b→S b∨w.heap.size≤b) (h2:zaj w1 S1 p X out k w2):zaj w S p X out k w2:=by
 obtain ⟨S2,q,k2,s⟩:=h2
 exact ⟨S2,q,hk.trans k2 hs,fun b hb=>(s b hb).elim (hs b) (fun h=>.inr (Nat.le_trans hk.size h))⟩
theorem IsSc.keep {w w':World} {S:Nat→Prop} {p:Nat} {X:Src} {out:List UInt8} {k:Nat} {ad v:Value} (h:IsSc w S p X out k ad v) (hb:Below w.heap.size w w'):IsSc w' S p X out k ad v :=
 ⟨zab hb h.blk,h.ad_,zay h.row hb,h.at_,h.own,fun b hS=>⟨(h.lt b hS).1,Nat.lt_of_lt_of_le (h.lt b hS).2 hb.size⟩,h.src.mono hb,h.srcb,h.le,h.small,h.outl,h.nil_⟩
theorem ScQ.keep {w w':World} {S:Nat→Prop} {p:Nat} {X:Src} {out:List UInt8} {k:Nat} (h:ScQ w S p X out k) (hb:Below w.heap.size w w'):ScQ w' S p X out k:=by
 obtain ⟨ad,v,h⟩:=h;exact ⟨ad,v,h.keep hb⟩
theorem ScQ.drewN {w:World} {S:Nat→Prop} {p:Nat} {X:Src} {out:List UInt8} {k:Nat} (h:ScQ w S p X out k) (q:Nat):ScQ (w.drewN q) S p X out k:=h.keep (zad (Below.refl _ _) q)
theorem IsSc.cells {w:World} {S:Nat→Prop} {p:Nat} {X:Src} {out:List UInt8} {k:Nat} {ad v:Value} (h:IsSc w S p X out k ad v) :
   w.cell? ⟨p,0,none⟩=some ad∧w.cell? ⟨p,1,none⟩=some v∧w.cell? ⟨p,2,none⟩=some (.slice X.a X.bs.length X.cap)∧w.cell? ⟨p,3,none⟩=some (.int .i64 k)∧w.cell? ⟨p,4,none⟩=some (.bool X.last):=by
 refine ⟨?_,?_,?_,?_,?_⟩<;>(rw [cell_of_row w p _ _ _ _ h.blk];rfl)
theorem IsSc.free {w:World} {S:Nat→Prop} {p:Nat} {X:Src} {out:List UInt8} {k:Nat} {ad v:Value} (h:IsSc w S p X out k ad v) (j:Nat):w.frozen? ⟨p,j,none⟩=false:=frozen_of_row w p j _ _ h.blk
theorem IsSc.byte {w:World} {S:Nat→Prop} {p:Nat} {X:Src} {out:List UInt8} {k:Nat} {ad v:Value} (h:IsSc w S p X out k ad v) (hk:k<X.bs.length) :
   ∃b off,X.a=some ⟨b,off,none⟩∧w.cell? ⟨b,off+k,none⟩=some (u8C (X.bs.getD k 0)):=by
 obtain ⟨b,off,ha,_,hc⟩:=h.src.at 0 k hk
 exact ⟨b,off,ha,hc k hk⟩
theorem IsSc.move {w:World} {S:Nat→Prop} {p:Nat} {X:Src} {out:List UInt8} {k:Nat} {ad v:Value} (h:IsSc w S p X out k ad v) (k':Nat) (hk:k'≤X.bs.length) (hk2:k≤k'):zaj w S p X out k' (w.setCell ⟨p,3,none⟩ (.int .i64 k')):=by
 have hb:w.heap[p]?=some (.cells (scV X ad v k) 171 (0,0)):=h.blk
 have hp:=(h.lt p h.own).2
 refine ⟨S,⟨ad,v,⟨?_,h.ad_,?_,h.at_,h.own,fun b hS=>by have:=h.lt b hS;simpa using this,?_,h.srcb,hk,h.small,by have:=h.outl;omega,h.nil_⟩⟩,(Keeps.refl S w).setCell (.inl h.own) _,fun _ hS=>.inl hS⟩
 · rw [heap_setCell_same _ _ 3 _ _ _ hb];rfl
 · exact ownsRow_setCell_other h.row (a:=⟨p,3,none⟩) (fun e=>by have:=(h.row.lt p e).1;omega) _
 · exact h.src.keeps (S:=fun b=>b=p) ((Keeps.refl (fun b=>b=p) w).setCell (a:=⟨p,3,none⟩) (.inl rfl) _) (fun x hx e=>by have:=h.srcb x hx;omega)
def zft (X:Src) (k:Nat):Value:=if k<X.bs.length then .tuple #[u8C (X.bs.getD k 0),.bool true] else .tuple #[.int .u8 0,.bool false]
theorem zcY {w:World} {S:Nat→Prop} {p:Nat} {X:Src} {out:List UInt8} {k:Nat} (h:ScQ w S p X out k) :
   Calls Tryz.prog 168 #[.pointer (some ⟨p,0,none⟩)] w fun e w'=>e=.returned (zft X k)∧∃q,w'=w.drewN q:=by
 obtain ⟨ad,v,h⟩:=h
 obtain ⟨c0,c1,c2,c3,c4⟩:=h.cells
 have hsm:=h.small
 have hle:=h.le
 obtain ⟨V,hV⟩:∃V,V=zft X k:=⟨_,rfl⟩
 rw [←hV]
 unfold zft at hV
 by_cases hk:k<X.bs.length
 · obtain ⟨b,off,ha,hc⟩:=h.byte hk
   rw [if_pos hk] at hV
   have HV:=Lib.hid hV
   rw [ha] at c2
   unfold u8C at hc HV
   generalize (X.bs.getD k 0).toNat=x at *
   generalize X.bs.length=n at *
   have hkd:decide ((n:Int)≤k)=false:=decide_eq_false (by omega)
   have hki:(k:Int)<n:=by omega
   clear hV h ha
   go_enter Tryz.func168,Tryz.ntmps168
   go_wp2
   go_quiet (fail)
   go_wp2
   go_quiet (fail)
   go_wp2
   go_ret2
   exact ⟨by rw [HV.out];rfl,by simp only [World.drewN_drewN];exact ⟨_,rfl⟩⟩
 · rw [if_neg hk] at hV
   have HV:=Lib.hid hV
   generalize X.bs.length=n at *
   have hkd:decide ((n:Int)≤k)=true:=decide_eq_true (by omega)
   clear hV h
   go_enter Tryz.func168,Tryz.ntmps168
   go_wp2
   go_quiet (fail)
   go_wp2
   go_ret2
   exact ⟨by rw [HV.out];rfl,_,rfl⟩
theorem zd8 {w:World} {S:Nat→Prop} {p:Nat} {X:Src} {out:List UInt8} {k:Nat} (h:ScQ w S p X out k) :
   Calls Tryz.prog 169 #[.pointer (some ⟨p,0,none⟩)] w fun e w'=>e=.returned (.int .i64 (zbb X.last))∧w=w':=by
 obtain ⟨ad,v,h⟩:=h
 obtain ⟨-,-,-,-,c4⟩:=h.cells
 have HV:=Lib.hid (show zbb X.last=if X.last=true then 10 else 6 by unfold zbb;cases X.last<;>rfl)
 clear h
 generalize zbb X.last=V at *
 generalize X.last=l at *
 cases l
 all_goals
   go_enter Tryz.func169,Tryz.ntmps169
   go_wp2
   go_ret
   exact ⟨zan (by rw [HV.out];rfl),rfl⟩
end Go.Proofs.YtkhcjoomijkfbaaGreatDoor
