/-
  Our texts SortP to PsA, in one.
-/
import Derived.Test.YtkhcjoomijkfbaaGreatDoorPkT6
import Derived.Test.YtkhcjoomijkfbaaGreatDoorProg
import Derived.BigQuiet
import Derived.Deep.QuietTactic
set_option maxRecDepth 8000
set_option maxHeartbeats 8000000
namespace Go.Proofs.YtkhcjoomijkfbaaGreatDoor
open Go.RowKit Go.Sort
variable {α : Type} [Inhabited α]
theorem inner_eq (lt1 lt2:α→α→Bool) (a:Nat):∀(j:Nat) (d:Array α),j<d.size→(∀p,a≤p→p<j→lt1 d[j]! d[p]! = lt2 d[j]! d[p]!)→insInner lt1 a j d=insInner lt2 a j d
 | 0,d,_,_=>rfl
 | j + 1, d, hj, h => by
   rw [insInner,insInner]
   by_cases hja:j+1 > a
   · rw [h j (by omega) (by omega)]
     have ih := inner_eq lt1 lt2 a j (swp d (j + 1) j) (by rw [size_swp]; omega) (fun p hp hpj => by
       rw [swp_right d (j+1) j (by omega),swp_other d (j+1) j p (by omega) (by omega)]
       exact h p hp (by omega))
     rw [ih]
   · simp [hja]
theorem outer_eq (lt1 lt2:α→α→Bool) (hS:SWO lt2) (a b:Nat) (d0:Array α) (hb:b≤d0.size) (h:∀p q,a≤p→p<q→q<b→lt1 d0[q]! d0[p]! = lt2 d0[q]! d0[p]!) :
   ∀(n i:Nat) (d:Array α),b-i=n→a<i→PermIn a i d0 d→SortedIn lt2 a i d→insOuter lt1 a b i d=insOuter lt2 a b i d
 | 0,i,d,hn,_,_,_=>by rw [zb7 _ _ _ _ _ (by omega),zb7 _ _ _ _ _ (by omega)]
 | n + 1, i, d, hn, hai, hP, hs => by
   have hib:i<b:=by omega
   have e : insInner lt1 a i d = insInner lt2 a i d := inner_eq lt1 lt2 a i d (by rw [hP.1]; omega) (fun p hp hpi => by
     rw [hP.2.1 i (by omega)]
     exact permIn_all d0 d a i (fun x=>lt1 d0[i]! x=lt2 d0[i]! x) (by omega) hP (fun q hq hqi=>h q i hq hqi hib) p hp hpi)
   have h1:=insInner_spec hS swp_permIn permIn_refl permIn_trans a b i hib i d (by omega) (Nat.le_refl _) (by rw [hP.1];exact hb) ⟨fun p q hap hpq hqi _ hq=>hs p q hap hpq (by omega),fun q h1 h2=>by omega⟩
   rw [zdB _ _ _ _ _ hib,zdB _ _ _ _ _ hib,e]
   have hP1:=insInner_spec hS swp_permIn permIn_refl permIn_trans a (i+1) i (by omega) i d (by omega) (Nat.le_refl _) (by rw [hP.1];omega) ⟨fun p q hap hpq hqi _ hq=>hs p q hap hpq (by omega),fun q h1 h2=>by omega⟩
   refine outer_eq lt1 lt2 hS a b d0 hb h n (i+1) _ (by omega) (by omega) (permIn_trans _ _ _ _ _ (permIn_mono d0 d a i a (i+1) (by omega) (by omega) (by omega) hP) hP1.1) hP1.2
theorem zdA (lt1 lt2:α→α→Bool) (hS:SWO lt2) (a b:Nat) (d:Array α) (hab:a≤b) (hb:b≤d.size) (h:∀p q,a≤p→p<q→q<b→lt1 d[q]! d[p]! = lt2 d[q]! d[p]!) :
   PermIn a b d (Sort.insertionSort lt1 d a b)∧SortedIn lt2 a b (Sort.insertionSort lt1 d a b):=by
 have e:Sort.insertionSort lt1 d a b=Sort.insertionSort lt2 d a b:=by
   unfold Sort.insertionSort
   by_cases hb2:a+1≤b
   · exact outer_eq lt1 lt2 hS a b d hb h _ (a+1) d rfl (by omega) (permIn_refl _ _ _) (fun i j h1 h2 h3=>by omega)
   · rw [zb7 _ _ _ _ _ (by omega),zb7 _ _ _ _ _ (by omega)]
 rw [e]
 exact insertionSort_holds hS d a b hab hb
end Go.Proofs.YtkhcjoomijkfbaaGreatDoor
namespace Go.Proofs.YtkhcjoomijkfbaaGreatDoor
open Go.RowKit Go.Sort
variable {α : Type} [Inhabited α]
def swR (d:Array α) (a b n k:Nat):α:=if a≤k∧k<a+n then d[k-a+b]! else if b≤k∧k<b+n then d[k-b+a]! else d[k]!
theorem swR_zero (d:Array α) (a b k:Nat):swR d a b 0 k=d[k]! := by
 unfold swR
 rw [if_neg (by omega),if_neg (by omega)]
theorem swR_step (d R:Array α) (a b n i:Nat) (hi:i<n) (hab:a+n≤b) (hb:b+n≤R.size) (hR:∀k,R[k]! = swR d a b i k) (k:Nat):(swp R (a+i) (b+i))[k]! = swR d a b (i+1) k:=by
 by_cases h1:k=a+i
 · subst h1
   rw [swp_left _ _ _ (by omega) (by omega),hR]
   unfold swR
   rw [if_neg (by omega),if_neg (by omega),if_pos (by omega)]
   exact congrArg (fun i=>d[i]!) (by omega)
 · by_cases h2:k=b+i
   · subst h2
     rw [swp_right _ _ _ (by omega),hR]
     unfold swR
     rw [if_neg (by omega),if_neg (by omega),if_neg (by omega),if_pos (by omega)]
     exact congrArg (fun i=>d[i]!) (by omega)
   · rw [swp_other _ _ _ _ h1 h2,hR]
     unfold swR
     repeat' split
     all_goals first
       | rfl
       | (exfalso;omega)
def rotF (d:Array α) (a m b k:Nat):α:=if a≤k∧k<a+(b-m) then d[k+(m-a)]! else if a+(b-m)≤k∧k<b then d[k-(b-m)]! else d[k]!
theorem rot_gt (d R:Array α) (m i j:Nat) (hij:j<i) (him:i≤m) (hR:∀k,R[k]! = swR d (m-i) m j k) (k:Nat):rotF R (m-(i-j)) m (m+j) k=rotF d (m-i) m (m+j) k:=by
 unfold rotF
 simp only [hR,swR]
 repeat' split
 all_goals first
   | (exfalso;omega)
   | exact congrArg (fun i=>d[i]!) (by omega)
theorem rot_lt (d R:Array α) (m i j:Nat) (hij:i<j) (him:i≤m) (hR:∀k,R[k]! = swR d (m-i) (m+j-i) i k) (k:Nat):rotF R (m-i) m (m+(j-i)) k=rotF d (m-i) m (m+j) k:=by
 unfold rotF
 simp only [hR,swR]
 repeat' split
 all_goals first
   | (exfalso;omega)
   | exact congrArg (fun i=>d[i]!) (by omega)
theorem rot_eq (d R:Array α) (m i:Nat) (him:i≤m) (hR:∀k,R[k]! = swR d (m-i) m i k) (k:Nat):R[k]! = rotF d (m-i) m (m+i) k:=by
 unfold rotF
 simp only [hR,swR]
 repeat' split
 all_goals first
   | (exfalso;omega)
   | exact congrArg (fun i=>d[i]!) (by omega)
variable {lt : α → α → Bool}
omit [Inhabited α] in
theorem chain3 (hS:SWO lt) {y u v x:α} (h1:lt y u=false) (h2:lt u v=false) (h3:lt v x=false):lt y x=false:=hS.ntrans _ _ _ (hS.ntrans _ _ _ h1 h2) h3
theorem zbp (hS:SWO lt) {a b i j:Nat} {d:Array α} (h:SortedIn lt a b d) (hai:a≤i) (hij:i≤j) (hjb:j<b):lt d[j]! d[i]! = false:=by
 rcases Nat.lt_or_eq_of_le hij with h1|h1
 · exact h i j hai h1 hjb
 · subst h1;exact hS.irrefl _
def zcO (lt1 lt:α→α→Bool) (d:Array α) (a m b:Nat):Prop:=∀p q,a≤p→p<m→m≤q→q<b→lt1 d[q]! d[p]! = lt d[q]! d[p]!
theorem zgH (hS:SWO lt) (d R R1 R2:Array α) (a m b s e:Nat) (has:a≤s) (hsm:s≤m) (hme:m≤e) (heb:e≤b) (hb:b≤d.size) (hsz:R.size=d.size)
   (h1:SortedIn lt a m d) (h2:SortedIn lt m b d) (hR:∀k,R[k]! = rotF d s m e k)
   (H1:a<s→e<b→lt d[e]! d[s-1]! = false) (H2:s<m→m<e→lt d[s]! d[e-1]! = false)
   (p1:PermIn a (s+(e-m)) R R1) (s1:SortedIn lt a (s+(e-m)) R1) (p2:PermIn (s+(e-m)) b R1 R2) (s2:SortedIn lt (s+(e-m)) b R2):SortedIn lt a b R2:=by
 have hmid:s+(e-m)≤b:=by omega
 have lowx:∀k,a≤k→k<s+(e-m)→(∃q,a≤q∧q<s∧R[k]! = d[q]!)∨(∃q,m≤q∧q<e∧R[k]! = d[q]!):=by
   intro k hk1 hk2
   rw [hR,rotF]
   by_cases hks:k<s
   · left;exact ⟨k,hk1,hks,by rw [if_neg (by omega),if_neg (by omega)]⟩
   · right;exact ⟨k+(m-s),by omega,by omega,by rw [if_pos (by omega)]⟩
 have upx:∀k,s+(e-m)≤k→k<b→(∃q,s≤q∧q<m∧R[k]! = d[q]!)∨(∃q,e≤q∧q<b∧R[k]! = d[q]!):=by
   intro k hk1 hk2
   rw [hR,rotF]
   by_cases hke:k<e
   · left;exact ⟨k-(e-m),by omega,by omega,by rw [if_neg (by omega),if_pos (by omega)]⟩
   · right;exact ⟨k,by omega,hk2,by rw [if_neg (by omega),if_neg (by omega)]⟩
 have cross:∀i j,a≤i→i<s+(e-m)→s+(e-m)≤j→j<b→lt R[j]! R[i]! = false:=by
   intro i j hi1 hi2 hj1 hj2
   rcases lowx i hi1 hi2 with ⟨q,q1,q2,hq⟩|⟨q,q1,q2,hq⟩<;>rcases upx j hj1 hj2 with ⟨r,r1,r2,hr⟩|⟨r,r1,r2,hr⟩<;>rw [hq,hr]
   · exact zbp hS h1 q1 (by omega) r2
   · exact chain3 hS (zbp hS h2 (by omega) r1 r2) (H1 (by omega) (by omega)) (zbp hS h1 q1 (by omega) (by omega))
   · exact chain3 hS (zbp hS h1 (by omega) r1 r2) (H2 (by omega) (by omega)) (zbp hS h2 q1 (by omega) (by omega))
   · exact zbp hS h2 q1 (by omega) r2
 have l1:∀i,a≤i→i<s+(e-m)→∀j,s+(e-m)≤j→j<b→lt R[j]! R1[i]! = false:=fun i hi1 hi2 j hj1 hj2 =>
   permIn_all R R1 a (s+(e-m)) (fun x=>lt R[j]! x=false) (by omega) p1 (fun i h1 h2=>cross i j h1 h2 hj1 hj2) i hi1 hi2
 have l2 : ∀ i, a ≤ i → i < s + (e - m) → ∀ j, s + (e - m) ≤ j → j < b → lt R1[j]! R1[i]! = false := fun i hi1 hi2 j hj1 hj2 => by
   rw [p1.2.1 j (by omega)];exact l1 i hi1 hi2 j hj1 hj2
 have l3:∀i,a≤i→i<s+(e-m)→∀j,s+(e-m)≤j→j<b→lt R2[j]! R1[i]! = false:=fun i hi1 hi2 =>
   permIn_all R1 R2 (s+(e-m)) b (fun x=>lt x R1[i]! = false) (by rw [p1.1];omega) p2 (fun j h1 h2=>l2 i hi1 hi2 j h1 h2)
 intro i j hai hij hjb
 by_cases hj:j<s+(e-m)
 · rw [p2.2.1 i (by omega),p2.2.1 j (by omega)];exact s1 i j hai hij hj
 · by_cases hi:i<s+(e-m)
   · rw [p2.2.1 i (by omega)];exact l3 i hai hi j (by omega) hjb
   · exact s2 i j (by omega) hij hjb
theorem left_done (hS:SWO lt) (d R:Array α) (a b i:Nat) (hi:a+1≤i) (hib:i≤b) (h2:SortedIn lt (a+1) b d) (hlt:∀q,a+1≤q→q<i→lt d[q]! d[a]! = true) (hge:∀q,i≤q→q<b→lt d[q]! d[a]! = false)
   (hR:∀k,R[k]! = if a≤k∧k<i-1 then d[k+1]! else if k=i-1 then d[a]! else d[k]!):SortedIn lt a b R:=by
 intro p q hap hpq hqb
 rw [hR p,hR q]
 have asym : ∀ x y, lt x y = true → lt y x = false := fun x y h => by
   cases h2:lt y x with
   | false=>rfl
   | true=>have:=hS.trans _ _ _ h h2;rw [hS.irrefl] at this;cases this
 by_cases c1:q<i-1
 · rw [if_pos (by omega),if_pos (by omega)];exact h2 _ _ (by omega) (by omega) (by omega)
 · by_cases c2:q=i-1
   · rw [if_neg (by omega), if_pos c2, if_pos (by omega)]
     exact asym _ _ (hlt _ (by omega) (by omega))
   · rw [if_neg (by omega), if_neg c2]
     by_cases c3:p<i-1
     · rw [if_pos (by omega)];exact h2 _ _ (by omega) (by omega) hqb
     · by_cases c4:p=i-1
       · rw [if_neg (by omega),if_pos c4];exact hge q (by omega) hqb
       · rw [if_neg (by omega),if_neg c4];exact h2 _ _ (by omega) hpq hqb
theorem zg1 (hS:SWO lt) (d R:Array α) (a m i:Nat) (hai:a≤i) (him:i≤m) (h1:SortedIn lt a m d) (hge:∀q,a≤q→q<i→lt d[m]! d[q]! = false) (hlt:∀q,i≤q→q<m→lt d[m]! d[q]! = true)
   (hR:∀k,R[k]! = if i<k∧k≤m then d[k-1]! else if k=i then d[m]! else d[k]!):SortedIn lt a (m+1) R:=by
 intro p q hap hpq hqb
 rw [hR p,hR q]
 have asym : ∀ x y, lt x y = true → lt y x = false := fun x y h => by
   cases h2:lt y x with
   | false=>rfl
   | true=>have:=hS.trans _ _ _ h h2;rw [hS.irrefl] at this;cases this
 by_cases c1:i<q
 · rw [if_pos (by omega)]
   by_cases c2:i<p
   · rw [if_pos (by omega)];exact h1 _ _ (by omega) (by omega) (by omega)
   · by_cases c3:p=i
     · rw [if_neg (by omega),if_pos c3];exact asym _ _ (hlt _ (by omega) (by omega))
     · rw [if_neg (by omega),if_neg c3];exact h1 _ _ hap (by omega) (by omega)
 · by_cases c2:q=i
   · rw [if_neg (by omega),if_pos c2,if_neg (by omega),if_neg (by omega)];exact hge _ hap (by omega)
   · rw [if_neg (by omega),if_neg c2,if_neg (by omega),if_neg (by omega)];exact h1 _ _ hap hpq (by omega)
theorem low_all (hS:SWO lt) {d:Array α} {m b h:Nat} {x:α} (hs:SortedIn lt m b d) (hh:h<b) (hx:lt d[h]! x=true):∀q,m≤q→q≤h→lt d[q]! x=true:=by
 intro q h1 h2
 cases hq:lt d[q]! x with
 | true=>rfl
 | false=>have:=hS.ntrans _ _ _ (zbp hS hs h1 h2 hh) hq;rw [hx] at this;cases this
theorem high_all (hS:SWO lt) {d:Array α} {m b h:Nat} {x:α} (hs:SortedIn lt m b d) (hm:m≤h) (hx:lt d[h]! x=false):∀q,h≤q→q<b→lt d[q]! x=false :=
 fun _ h1 h2=>hS.ntrans _ _ _ (zbp hS hs hm h1 h2) hx
theorem low_all' (hS:SWO lt) {d:Array α} {a m h:Nat} {x:α} (hs:SortedIn lt a m d) (hh:h<m) (hx:lt x d[h]! = false):∀q,a≤q→q≤h→lt x d[q]! = false :=
 fun _ h1 h2=>hS.ntrans _ _ _ hx (zbp hS hs h1 h2 hh)
theorem high_all' (hS:SWO lt) {d:Array α} {a m h:Nat} {x:α} (hs:SortedIn lt a m d) (hm:a≤h) (hx:lt x d[h]! = true):∀q,h≤q→q<m→lt x d[q]! = true:=by
 intro q h1 h2
 cases hq:lt x d[q]! with
 | true=>rfl
 | false=>have:=hS.ntrans _ _ _ hq (zbp hS hs hm h1 h2);rw [hx] at this;cases this
end Go.Proofs.YtkhcjoomijkfbaaGreatDoor
namespace Go.Proofs.YtkhcjoomijkfbaaGreatDoor
open Go.RowKit Go.Sort
theorem zeF {α:Type} [Inhabited α] (enc:α→Value) (hE:∀x,∃a n c,enc x=.slice a n c) (F:Value) (g cap a b n:Nat) (rest:List Value) (d:Array α) (w0 w:World)
   (hS:SB enc w0 g 46 rest d w) (hab:a+n≤b) (hb:b+n≤d.size) (hsz:d.size<4611686018427387904) :
   Calls Tryz.prog 251 #[.slice (some ⟨g,0,none⟩) d.size cap,.int .i64 a,.int .i64 b,.int .i64 n,F] w fun e w'=>e=.returned (.tuple #[])∧∃R:Array α,R.size=d.size∧SB enc w0 g 46 rest R w'∧(∀k,R[k]! = swR d a b n k)∧PermIn a (b+n) d R:=by
 have HS:=Lib.hid hS
 clear hS
 go_enter Tryz.func251,Tryz.ntmps251
 go_wp2
 go_loopw [10] (fun vi wr=>∃(i:Nat) (dk:Array α),vi=.int .i64 i∧i≤n∧dk.size=d.size∧Hid (SB enc w0 g 46 rest dk wr)∧Hid (∀k,dk[k]! = swR d a b i k)∧Hid (PermIn a (b+n) d dk)) (fun vi _=>n-(intOf vi).toNat)
 case atStart=>exact ⟨0,d,rfl,by omega,rfl,HS,Lib.hid (fun k=>(swR_zero d a b k).symm),Lib.hid (permIn_refl _ _ _)⟩
 case round =>
   obtain ⟨i,dk,rfl,hin,hsk,HSk,HR,HP⟩:=hrel
   clear HS
   by_cases hlt:i<n
   · have hc1 := HSk.out.cell (a + i) (by omega)
     have hc2:=HSk.out.cell (b+i) (by omega)
     have hf1:=HSk.out.free (a+i)
     have hf2:=HSk.out.free (b+i)
     obtain ⟨X,hX⟩:∃X,X=dk[a+i]! := ⟨_,rfl⟩
     obtain ⟨Y,hY⟩:∃Y,Y=dk[b+i]! := ⟨_,rfl⟩
     rw [←hX] at hc1
     rw [←hY] at hc2
     have HX:=Lib.hid hX
     have HY:=Lib.hid hY
     obtain ⟨x,xn,xc,hx⟩:=hE X
     obtain ⟨y,yn,yc,hy⟩:=hE Y
     rw [hx] at hc1
     rw [hy] at hc2
     have HEx:=Lib.hid hx
     have HEy:=Lib.hid hy
     clear hx hy hX hY
     have hj1:((a:Int)+(i:Int)).toNat=a+i:=by omega
     have hj2:((b:Int)+(i:Int)).toNat=b+i:=by omega
     have hb1:(a:Int)+(i:Int)<(d.size:Int):=by omega
     have hb2:(b:Int)+(i:Int)<(d.size:Int):=by omega
     go_wp2
     go_region
     all_goals go_wp2
     go_roundw
     case rel =>
       refine ⟨i+1,swp dk (a+i) (b+i),by go_num,by omega,by rw [size_swp];exact hsk,?_,Lib.hid (swR_step d dk a b n i hlt hab (by omega) HR.out),Lib.hid (permIn_trans _ _ _ _ _ HP.out (swp_permIn dk a (b+n) (a+i) (b+i) (by omega) (by omega) (by omega) (by omega) (by omega)))⟩
       have hw:=HSk.out.swp (a+i) (b+i) (by omega) (by omega) 1
       rw [←HX.out,←HY.out,HEx.out,HEy.out] at hw
       exact Lib.hid hw
     case measure=>simp [intOf];omega
   · obtain rfl : n = i := by omega
     go_wp2
     go_end0
     exact ⟨rfl,dk,hsk,HSk.out,HR.out,HP.out⟩
theorem rot_anyQ {α:Type} [Inhabited α] (enc:α→Value) (hE:∀x,∃a n c,enc x=.slice a n c) (F:Value) (g cap a m b:Nat) (rest:List Value) (d:Array α) (w0 w:World)
   (hS:SB enc w0 g 46 rest d w) (ham:a<m) (hmb:m<b) (hb:b≤d.size) (hsz:d.size<4611686018427387904) :
   Calls Tryz.prog 247 #[.slice (some ⟨g,0,none⟩) d.size cap,.int .i64 a,.int .i64 m,.int .i64 b,F] w fun e w'=>e=.returned (.tuple #[])∧∃R:Array α,R.size=d.size∧SB enc w0 g 46 rest R w'∧(∀k,R[k]! = rotF d a m b k)∧PermIn a b d R:=by
 have HS:=Lib.hid hS
 clear hS
 go_enter Tryz.func247,Tryz.ntmps247
 go_wp2
 go_loopw [10,11] (fun vi vj wr=>∃(i j:Nat) (dk:Array α),vi=.int .i64 i∧vj=.int .i64 j∧0<i∧0<j∧i≤m-a∧j≤b-m∧dk.size=d.size∧Hid (SB enc w0 g 46 rest dk wr)∧Hid (∀k,rotF dk (m-i) m (m+j) k=rotF d a m b k)∧Hid (PermIn a b d dk)) (fun vi vj _=>(intOf vi).toNat+(intOf vj).toNat)
 case atStart=>exact ⟨m-a,b-m,d,by go_num,by go_num,by omega,by omega,by omega,by omega,rfl,HS,Lib.hid (fun k=>by rw [show m-(m-a)=a from by omega,show m+(b-m)=b from by omega]),Lib.hid (permIn_refl _ _ _)⟩
 case round =>
   obtain ⟨i,j,dk,rfl,rfl,hi,hj,him,hjm,hsk,HSk,HR,HP⟩:=hrel
   clear HS
   have hmi:((m-i:Nat):Int)=(m:Int)-i:=by omega
   by_cases hgt:j<i
   · have hsw := zeF enc hE F g cap (m - i) m j rest dk w0 wr HSk.out (by omega) (by omega) (by omega)
     rw [hmi,hsk] at hsw
     have HSW:=Lib.hid hsw
     have hne:((i:Int)==(j:Int))=false:=by rw [beq_eq_false_iff_ne];omega
     clear hsw
     go_wp2_with (go_at_call 251;refine HSW.out.mono ?_;rintro e w2 ⟨rfl,R,hRs,hRB,hRk,hRP⟩;have HB2:=Lib.hid hRB;have HK2:=Lib.hid hRk;have HP2:=Lib.hid hRP;clear hRB hRk hRP)
     go_roundw
     case rel=>exact ⟨i-j,j,R,by go_num,rfl,by omega,by omega,by omega,by omega,hRs,HB2,Lib.hid (fun k=>by rw [rot_gt dk R m i j hgt (by omega) HK2.out k];exact HR.out k),Lib.hid (permIn_trans _ _ _ _ _ HP.out (permIn_mono dk R (m-i) (m+j) a b (by omega) (by omega) (by omega) HP2.out))⟩
     case measure=>simp [intOf];omega
   · by_cases hlt:i<j
     · have hsw := zeF enc hE F g cap (m - i) (m + j - i) i rest dk w0 wr HSk.out (by omega) (by omega) (by omega)
       rw [hmi,hsk,show ((m+j-i:Nat):Int)=(m:Int)+j-i from by omega] at hsw
       have HSW:=Lib.hid hsw
       have hne:((i:Int)==(j:Int))=false:=by rw [beq_eq_false_iff_ne];omega
       clear hsw
       go_wp2_with (go_at_call 251;refine HSW.out.mono ?_;rintro e w2 ⟨rfl,R,hRs,hRB,hRk,hRP⟩;have HB2:=Lib.hid hRB;have HK2:=Lib.hid hRk;have HP2:=Lib.hid hRP;clear hRB hRk hRP)
       go_roundw
       case rel=>exact ⟨i,j-i,R,rfl,by go_num,by omega,by omega,by omega,by omega,hRs,HB2,Lib.hid (fun k=>by rw [rot_lt dk R m i j hlt (by omega) HK2.out k];exact HR.out k),Lib.hid (permIn_trans _ _ _ _ _ HP.out (permIn_mono dk R (m-i) (m+j-i+i) a b (by omega) (by omega) (by omega) HP2.out))⟩
       case measure=>simp [intOf];omega
     · obtain rfl : i = j := by omega
       have hsw:=zeF enc hE F g cap (m-i) m i rest dk w0 wr HSk.out (by omega) (by omega) (by omega)
       rw [hmi,hsk] at hsw
       have HSW:=Lib.hid hsw
       clear hsw
       go_wp2_with (go_at_call 251;refine HSW.out.mono ?_;rintro e w2 ⟨rfl,R,hRs,hRB,hRk,hRP⟩;have HB2:=Lib.hid hRB;have HK2:=Lib.hid hRk;have HP2:=Lib.hid hRP;clear hRB hRk hRP)
       go_end0
       exact ⟨rfl,R,hRs,HB2.out,fun k=>by rw [rot_eq dk R m i (by omega) HK2.out k];exact HR.out k,permIn_trans _ _ _ _ _ HP.out (permIn_mono dk R (m-i) (m+i) a b (by omega) (by omega) (by omega) HP2.out)⟩
end Go.Proofs.YtkhcjoomijkfbaaGreatDoor
namespace Go.Proofs.YtkhcjoomijkfbaaGreatDoor
open Go.RowKit Go.Sort
variable {α : Type} [Inhabited α]
def shlF (d:Array α) (a k q:Nat):α:=if a≤q∧q<k then d[q+1]! else if q=k then d[a]! else d[q]!
theorem shlF_zero (d:Array α) (a q:Nat):shlF d a a q=d[q]! := by
 unfold shlF
 rw [if_neg (by omega)]
 split
 · rename_i h;rw [h]
 · rfl
theorem shlF_step (d R:Array α) (a k:Nat) (hak:a≤k) (hk:k+1<R.size) (hR:∀q,R[q]! = shlF d a k q) (q:Nat):(swp R k (k+1))[q]! = shlF d a (k+1) q:=by
 by_cases h1:q=k
 · subst h1
   rw [swp_left _ _ _ (by omega) (by omega),hR]
   unfold shlF
   rw [if_neg (by omega),if_neg (by omega),if_pos (by omega)]
 · by_cases h2:q=k+1
   · subst h2
     rw [swp_right _ _ _ (by omega),hR]
     unfold shlF
     rw [if_neg (by omega),if_pos rfl,if_neg (by omega),if_pos rfl]
   · rw [swp_other _ _ _ _ h1 h2,hR]
     unfold shlF
     repeat' split
     all_goals first
       | rfl
       | (exfalso;omega)
def shrF (d:Array α) (m k q:Nat):α:=if k<q∧q≤m then d[q-1]! else if q=k then d[m]! else d[q]!
theorem shrF_zero (d:Array α) (m q:Nat):shrF d m m q=d[q]! := by
 unfold shrF
 rw [if_neg (by omega)]
 split
 · rename_i h;rw [h]
 · rfl
theorem shrF_step (d R:Array α) (m k:Nat) (hkm:k+1≤m) (hk:k+1<R.size) (hR:∀q,R[q]! = shrF d m (k+1) q) (q:Nat):(swp R (k+1) k)[q]! = shrF d m k q:=by
 by_cases h1:q=k+1
 · subst h1
   rw [swp_left _ _ _ (by omega) (by omega),hR]
   unfold shrF
   rw [if_neg (by omega),if_neg (by omega),if_pos (by omega)]
   exact congrArg (fun i=>d[i]!) (by omega)
 · by_cases h2:q=k
   · subst h2
     rw [swp_right _ _ _ (by omega),hR]
     unfold shrF
     rw [if_neg (by omega),if_pos rfl,if_neg (by omega),if_pos rfl]
   · rw [swp_other _ _ _ _ h1 h2,hR]
     unfold shrF
     repeat' split
     all_goals first
       | rfl
       | (exfalso;omega)
theorem zbx (d:Array α) (s m e:Nat) (hsm:s≤m) (hme:m≤e) (h:s=m∨m=e) (k:Nat):d[k]! = rotF d s m e k:=by
 unfold rotF
 repeat' split
 all_goals first
   | rfl
   | (exfalso;omega)
   | exact congrArg (fun i=>d[i]!) (by omega)
variable {lt lt1 : α → α → Bool}
theorem zex {d R : Array α} {a b f : Nat} (lo hi : Nat) (h : SortedIn lt a b d) (hlo : a ≤ f) (hhi : f + (hi - lo) ≤ b) (hR : ∀ k, lo ≤ k → k < hi → R[k]! = d[f + (k - lo)]!) : SortedIn lt lo hi R := fun i j h1 h2 h3 => by
 rw [hR i h1 (by omega),hR j (by omega) h3]
 exact h _ _ (by omega) (by omega) (by omega)
section
variable {d R : Array α} {a m b s e : Nat} (hR : ∀ k, R[k]! = rotF d s m e k) (has : a ≤ s) (hsm : s ≤ m) (hme : m ≤ e) (heb : e ≤ b) (h1 : SortedIn lt a m d) (h2 : SortedIn lt m b d)
include hR in
theorem part1 (k:Nat) (h:k<s):R[k]! = d[k]! := by
 rw [hR,rotF,if_neg (by omega),if_neg (by omega)]
include hR hsm in
theorem part2 (k:Nat) (h1:s≤k) (h2:k<s+(e-m)):R[k]! = d[m+(k-s)]! := by
 rw [hR,rotF,if_pos (by omega)]
 exact congrArg (fun i=>d[i]!) (by omega)
include hR in
theorem part3 (k:Nat) (h1:s+(e-m)≤k) (h2:k<e):R[k]! = d[s+(k-(s+(e-m)))]! := by
 rw [hR,rotF,if_neg (by omega),if_pos (by omega)]
 exact congrArg (fun i=>d[i]!) (by omega)
include hR hsm hme in
theorem part4 (k:Nat) (h1:e≤k):R[k]! = d[k]! := by
 rw [hR,rotF,if_neg (by omega),if_neg (by omega)]
include hR has hsm h1 in
theorem sp1:SortedIn lt a s R:=zex (f:=a) a s h1 (Nat.le_refl _) (by omega) (fun k h3 h4=>by rw [part1 hR k h4];exact congrArg (fun i=>d[i]!) (by omega))
include hR hsm hme heb h2 in
theorem sp2:SortedIn lt s (s+(e-m)) R:=zex (f:=m) _ _ h2 (Nat.le_refl _) (by omega) (fun k h3 h4=>part2 hR hsm k h3 h4)
include hR has hsm hme h1 in
theorem sp3:SortedIn lt (s+(e-m)) e R:=zex (f:=s) _ _ h1 has (by omega) (fun k h3 h4=>part3 hR k h3 h4)
include hR hsm hme heb h2 in
theorem sp4:SortedIn lt e b R:=zex (f:=e) e b h2 hme (by omega) (fun k h3 _=>by rw [part4 hR hsm hme k h3];exact congrArg (fun i=>d[i]!) (by omega))
include hR hsm hme heb in
theorem agree_lo (hA : zcO lt1 lt d a m b) : zcO lt1 lt R a s (s + (e - m)) := fun p q h3 h4 h5 h6 => by
 rw [part1 hR p h4,part2 hR hsm q h5 h6]
 exact hA _ _ h3 (by omega) (by omega) (by omega)
include hR has hsm hme in
theorem agree_hi (hA : zcO lt1 lt d a m b) : zcO lt1 lt R (s + (e - m)) e b := fun p q h3 h4 h5 h6 => by
 rw [part3 hR p h3 h4,part4 hR hsm hme q h5]
 exact hA _ _ (by omega) (by omega) (by omega) h6
include hR has hsm hme heb h1 h2 in
theorem skip_lo (h:s=a∨s=s+(e-m)):SortedIn lt a (s+(e-m)) R:=by
 rcases h with h|h
 · have:=sp2 hR hsm hme heb h2;rw [h] at this ⊢;exact this
 · rw [←h];exact sp1 hR has hsm h1
include hR has hsm hme heb h1 h2 in
theorem skip_hi (h:e=s+(e-m)∨e=b):SortedIn lt (s+(e-m)) b R:=by
 rcases h with h|h
 · rw [←h];exact sp4 hR hsm hme heb h2
 · have:=sp3 hR has hsm hme h1;rw [h] at this ⊢;exact this
end
theorem zbf {d R : Array α} {a b : Nat} (h : SortedIn lt a b d) (hR : ∀ k, a ≤ k → k < b → R[k]! = d[k]!) : SortedIn lt a b R := fun i j h1 h2 h3 => by
 rw [hR i h1 (by omega),hR j (by omega) h3];exact h i j h1 h2 h3
theorem zgs {d R : Array α} {a m b : Nat} (h : zcO lt1 lt d a m b) (hR : ∀ k, a ≤ k → k < b → R[k]! = d[k]!) : zcO lt1 lt R a m b := fun p q h1 h2 h3 h4 => by
 rw [hR p h1 (by omega),hR q (by omega) h4];exact h p q h1 h2 h3 h4
theorem zbO {d R:Array α} {a b:Nat} (D:α→Prop) (hb:b≤d.size) (hP:PermIn a b d R) (hD:∀i,i<d.size→D d[i]!) (i:Nat) (hi:i<R.size):D R[i]! := by
 by_cases h:a≤i∧i<b
 · exact permIn_all d R a b D hb hP (fun k _ h2=>hD k (by omega)) i h.1 h.2
 · rw [hP.2.1 i (by omega)];exact hD i (by rw [←hP.1];exact hi)
end Go.Proofs.YtkhcjoomijkfbaaGreatDoor
namespace Go.Proofs.YtkhcjoomijkfbaaGreatDoor
open Go.RowKit Go.Sort
def zdY {α:Type} [Inhabited α] (enc:α→Value) (lt:α→α→Bool) (g a b:Nat) (rest:List Value) (d:Array α) (w0:World) (e:Ending) (w':World):Prop :=
 e=.returned (.tuple #[])∧∃R:Array α,R.size=d.size∧SB enc w0 g 46 rest R w'∧PermIn a b d R∧SortedIn lt a b R
theorem sym_leftQ {α:Type} [Inhabited α] (enc:α→Value) (hE:∀x,∃a n c,enc x=.slice a n c) (cf:α→α→Int) (lt:α→α→Bool) (hL:SWO lt) (D:α→Prop) (f:FuncId) (cb:Array Value) (g cap a m b:Nat) (rest:List Value) (d:Array α) (w0 w:World)
   (hC:CmpQ Tryz.prog f cb enc cf D w0 g) (hS:SB enc w0 g 46 rest d w) (hD:∀i,i<d.size→D d[i]!) (hm:m=a+1) (hmb:m<b) (hb:b≤d.size) (hsz:d.size<4611686018427387904)
   (h2:SortedIn lt m b d) (hA:zcO (ltOf cf) lt d a m b) :
   Calls Tryz.prog 239 #[.slice (some ⟨g,0,none⟩) d.size cap,.int .i64 a,.int .i64 m,.int .i64 b,.func (.func f) #[] cb] w fun e w'=>zdY enc lt g a b rest d w0 e w':=by
 have eg:=hC.enters
 have HC:=Lib.hid hC
 have HS:=Lib.hid hS
 have HD:=Lib.hid hD
 have H2:=Lib.hid h2
 have HA:=Lib.hid hA
 clear hC hS hD h2 hA
 have heq:((m:Int)-(a:Int)==1)=true:=by rw [beq_iff_eq];omega
 go_enter Tryz.func239,Tryz.ntmps239
 go_wp2
 go_loopw [10,11] (fun vi vj wr=>∃(i j:Nat),vi=.int .i64 i∧vj=.int .i64 j∧m≤i∧i≤j∧j≤b∧Hid (SB enc w0 g 46 rest d wr)∧Hid (∀q,m≤q→q<i→lt d[q]! d[a]! = true)∧Hid (∀q,j≤q→q<b→lt d[q]! d[a]! = false)) (fun vi vj _=>(intOf vj).toNat-(intOf vi).toNat)
 case atStart=>exact ⟨m,b,rfl,rfl,Nat.le_refl _,by omega,Nat.le_refl _,HS,Lib.hid (fun q h1 h2=>by omega),Lib.hid (fun q h1 h2=>by omega)⟩
 case round =>
   obtain ⟨i,j,rfl,rfl,hai,hij,hjb,HSk,HLo,HHi⟩:=hrel
   clear HS
   by_cases hlt:i<j
   · obtain ⟨h,hh⟩:∃h,h=(i+j) / 2:=⟨_,rfl⟩
     have hc1:=HSk.out.cell h (by omega)
     have hc2:=HSk.out.cell a (by omega)
     have hcall:=fun q=>HC.out.calls (wr.drewN q) (HSk.out.drewN q).grown d[h]! d[a]! (HD.out h (by omega)) (HD.out a (by omega))
     have hag:=HA.out a h (Nat.le_refl _) (by omega) (by omega) (by omega)
     obtain ⟨X,hX⟩:∃X,X=d[h]! := ⟨_,rfl⟩
     obtain ⟨Y,hY⟩:∃Y,Y=d[a]! := ⟨_,rfl⟩
     rw [←hX] at hc1 hcall hag
     rw [←hY] at hc2 hcall hag
     have HX:=Lib.hid hX
     have HY:=Lib.hid hY
     obtain ⟨x,xn,xc,hx⟩:=hE X
     obtain ⟨y,yn,yc,hy⟩:=hE Y
     rw [hx] at hc1 hcall
     rw [hy] at hc2 hcall
     have HCALL:=Lib.hid hcall
     have HAG:=Lib.hid hag
     clear hcall hx hy hX hY hag
     have hh1:((i:Int)+(j:Int)) / 2=(h:Int):=by omega
     have hhb:(h:Int)<(d.size:Int):=by omega
     have hab:(a:Int)<(d.size:Int):=by omega
     have hhi:i≤h:=by omega
     have hhj:h<j:=by omega
     clear hh
     by_cases hcf:cf X Y<0
     · have hl : lt X Y = true := by rw [← HAG.out]; simpa [ltOf] using hcf
       have HL:=Lib.hid hl
       have hcf2:cf X Y<0:=hcf
       clear hl hcf
       go_wp2_with fail
       go_quiet ((refine Calls.quiet_of (HCALL.out _)))
       go_wp2
       go_roundw
       case rel=>exact ⟨h+1,j,by go_num,rfl,by omega,by omega,hjb,Lib.hid (HSk.out.drewN _),Lib.hid (fun q h3 h4=>low_all hL H2.out (by omega:h<b) (by rw [←HX.out,←HY.out];exact HL.out) q h3 (by omega)),HHi⟩
       case measure=>simp [intOf];omega
     · have hl : lt X Y = false := by rw [← HAG.out]; simpa [ltOf] using hcf
       have HL:=Lib.hid hl
       have hcf2:0≤cf X Y:=by omega
       clear hl hcf
       go_wp2_with fail
       go_quiet ((refine Calls.quiet_of (HCALL.out _)))
       go_wp2
       go_roundw
       case rel=>exact ⟨i,h,rfl,rfl,hai,hhi,by omega,Lib.hid (HSk.out.drewN _),HLo,Lib.hid (fun q h3 h4=>high_all hL H2.out (by omega) (by rw [←HX.out,←HY.out];exact HL.out) q h3 h4)⟩
       case measure=>simp [intOf];omega
   · obtain rfl : i = j := by omega
     go_wp2
     go_loopw [13] (fun vk wr2=>∃(k:Nat) (dk:Array α),vk=.int .i64 k∧a≤k∧k≤i-1∧dk.size=d.size∧Hid (SB enc w0 g 46 rest dk wr2)∧Hid (∀q,dk[q]! = shlF d a k q)∧Hid (PermIn a b d dk)) (fun vk _=>i-(intOf vk).toNat)
     case atStart=>exact ⟨a,d,rfl,Nat.le_refl _,by omega,rfl,HSk,Lib.hid (fun q=>(shlF_zero d a q).symm),Lib.hid (permIn_refl _ _ _)⟩
     case round =>
       obtain ⟨k,dk,rfl,hak,hki,hsk,HSk2,HR,HP⟩:=hrel
       clear HSk
       by_cases hk:k<i-1
       · have hc1 := HSk2.out.cell k (by omega)
         have hc2:=HSk2.out.cell (k+1) (by omega)
         have hf1:=HSk2.out.free k
         have hf2:=HSk2.out.free (k+1)
         obtain ⟨X,hX⟩:∃X,X=dk[k]! := ⟨_,rfl⟩
         obtain ⟨Y,hY⟩:∃Y,Y=dk[k+1]! := ⟨_,rfl⟩
         rw [←hX] at hc1
         rw [←hY] at hc2
         have HX:=Lib.hid hX
         have HY:=Lib.hid hY
         obtain ⟨x,xn,xc,hx⟩:=hE X
         obtain ⟨y,yn,yc,hy⟩:=hE Y
         rw [hx] at hc1
         rw [hy] at hc2
         have HEx:=Lib.hid hx
         have HEy:=Lib.hid hy
         clear hx hy hX hY
         have hj1:((k:Int)+1).toNat=k+1:=by omega
         have hb1:(k:Int)<(d.size:Int):=by omega
         have hb2:(k:Int)+1<(d.size:Int):=by omega
         go_wp2
         go_region
         all_goals go_wp2
         go_roundw
         case rel =>
           refine ⟨k+1,swp dk k (k+1),by go_num,by omega,by omega,by rw [size_swp];exact hsk,?_,Lib.hid (shlF_step d dk a k hak (by omega) HR.out),Lib.hid (permIn_trans _ _ _ _ _ HP.out (swp_permIn dk a b k (k+1) (by omega) (by omega) (by omega) (by omega) (by omega)))⟩
           have hw:=HSk2.out.swp k (k+1) (by omega) (by omega) 1
           rw [←HX.out,←HY.out,HEx.out,HEy.out] at hw
           exact Lib.hid hw
         case measure=>simp [intOf];omega
       · obtain rfl : k = i - 1 := by omega
         go_wp2
         go_end0
         exact ⟨rfl,dk,hsk,HSk2.out,HP.out,left_done hL d dk a b i (by omega) hjb (by rw [←hm];exact H2.out) (by rw [←hm];exact HLo.out) HHi.out HR.out⟩
theorem sym_rightQ {α:Type} [Inhabited α] (enc:α→Value) (hE:∀x,∃a n c,enc x=.slice a n c) (cf:α→α→Int) (lt:α→α→Bool) (hL:SWO lt) (D:α→Prop) (f:FuncId) (cb:Array Value) (g cap a m b:Nat) (rest:List Value) (d:Array α) (w0 w:World)
   (hC:CmpQ Tryz.prog f cb enc cf D w0 g) (hS:SB enc w0 g 46 rest d w) (hD:∀i,i<d.size→D d[i]!) (ham:a+1<m) (hbm:b=m+1) (hb:b≤d.size) (hsz:d.size<4611686018427387904)
   (h1:SortedIn lt a m d) (hA:zcO (ltOf cf) lt d a m b) :
   Calls Tryz.prog 239 #[.slice (some ⟨g,0,none⟩) d.size cap,.int .i64 a,.int .i64 m,.int .i64 b,.func (.func f) #[] cb] w fun e w'=>zdY enc lt g a b rest d w0 e w':=by
 have eg:=hC.enters
 have HC:=Lib.hid hC
 have HS:=Lib.hid hS
 have HD:=Lib.hid hD
 have H1:=Lib.hid h1
 have HA:=Lib.hid hA
 clear hC hS hD h1 hA
 have hne:((m:Int)-(a:Int)==1)=false:=by rw [beq_eq_false_iff_ne];omega
 have heq:((b:Int)-(m:Int)==1)=true:=by rw [beq_iff_eq];omega
 go_enter Tryz.func239,Tryz.ntmps239
 go_wp2
 go_loopw [14,15] (fun vi vj wr=>∃(i j:Nat),vi=.int .i64 i∧vj=.int .i64 j∧a≤i∧i≤j∧j≤m∧Hid (SB enc w0 g 46 rest d wr)∧Hid (∀q,a≤q→q<i→lt d[m]! d[q]! = false)∧Hid (∀q,j≤q→q<m→lt d[m]! d[q]! = true)) (fun vi vj _=>(intOf vj).toNat-(intOf vi).toNat)
 case atStart=>exact ⟨a,m,rfl,rfl,Nat.le_refl _,by omega,Nat.le_refl _,HS,Lib.hid (fun q h1 h2=>by omega),Lib.hid (fun q h1 h2=>by omega)⟩
 case round =>
   obtain ⟨i,j,rfl,rfl,hai,hij,hjb,HSk,HLo,HHi⟩:=hrel
   clear HS
   by_cases hlt:i<j
   · obtain ⟨h,hh⟩:∃h,h=(i+j) / 2:=⟨_,rfl⟩
     have hc1:=HSk.out.cell m (by omega)
     have hc2:=HSk.out.cell h (by omega)
     have hcall:=fun q=>HC.out.calls (wr.drewN q) (HSk.out.drewN q).grown d[m]! d[h]! (HD.out m (by omega)) (HD.out h (by omega))
     have hag:=HA.out h m (by omega) (by omega) (by omega) (by omega)
     obtain ⟨X,hX⟩:∃X,X=d[m]! := ⟨_,rfl⟩
     obtain ⟨Y,hY⟩:∃Y,Y=d[h]! := ⟨_,rfl⟩
     rw [←hX] at hc1 hcall hag
     rw [←hY] at hc2 hcall hag
     have HX:=Lib.hid hX
     have HY:=Lib.hid hY
     obtain ⟨x,xn,xc,hx⟩:=hE X
     obtain ⟨y,yn,yc,hy⟩:=hE Y
     rw [hx] at hc1 hcall
     rw [hy] at hc2 hcall
     have HCALL:=Lib.hid hcall
     have HAG:=Lib.hid hag
     clear hcall hx hy hX hY hag
     have hh1:((i:Int)+(j:Int)) / 2=(h:Int):=by omega
     have hhb:(h:Int)<(d.size:Int):=by omega
     have hmd:(m:Int)<(d.size:Int):=by omega
     have hhi:i≤h:=by omega
     have hhj:h<j:=by omega
     clear hh
     by_cases hcf:cf X Y<0
     · have hl : lt X Y = true := by rw [← HAG.out]; simpa [ltOf] using hcf
       have HL:=Lib.hid hl
       have hcf2:cf X Y<0:=hcf
       have hcfB:decide (cf X Y<0)=true:=by rw [decide_eq_true_iff];exact hcf
       clear hl hcf
       go_wp2_with fail
       go_quiet ((refine Calls.quiet_of (HCALL.out _)))
       go_wp2
       go_roundw
       case rel=>exact ⟨i,h,rfl,rfl,hai,hhi,by omega,Lib.hid (HSk.out.drewN _),HLo,Lib.hid (fun q h3 h4=>high_all' hL H1.out (by omega) (by rw [←HX.out,←HY.out];exact HL.out) q h3 h4)⟩
       case measure=>simp [intOf];omega
     · have hl : lt X Y = false := by rw [← HAG.out]; simpa [ltOf] using hcf
       have HL:=Lib.hid hl
       have hcf2:0≤cf X Y:=by omega
       have hcfB:decide (cf X Y<0)=false:=by rw [decide_eq_false_iff_not];omega
       clear hl hcf
       go_wp2_with fail
       go_quiet ((refine Calls.quiet_of (HCALL.out _)))
       go_wp2
       go_roundw
       case rel=>exact ⟨h+1,j,by go_num,rfl,by omega,by omega,hjb,Lib.hid (HSk.out.drewN _),Lib.hid (fun q h3 h4=>low_all' hL H1.out (by omega:h<m) (by rw [←HX.out,←HY.out];exact HL.out) q h3 (by omega)),HHi⟩
       case measure=>simp [intOf];omega
   · obtain rfl : i = j := by omega
     go_wp2
     go_loopw [17] (fun vk wr2=>∃(k:Nat) (dk:Array α),vk=.int .i64 k∧i≤k∧k≤m∧dk.size=d.size∧Hid (SB enc w0 g 46 rest dk wr2)∧Hid (∀q,dk[q]! = shrF d m k q)∧Hid (PermIn a b d dk)) (fun vk _=>(intOf vk).toNat)
     case atStart=>exact ⟨m,d,rfl,hjb,Nat.le_refl _,rfl,HSk,Lib.hid (fun q=>(shrF_zero d m q).symm),Lib.hid (permIn_refl _ _ _)⟩
     case round =>
       obtain ⟨k,dk,rfl,hik,hkm,hsk,HSk2,HR,HP⟩:=hrel
       clear HSk
       by_cases hk:i<k
       · obtain ⟨u, rfl⟩ : ∃ u, k = u + 1 := ⟨k - 1, by omega⟩
         have hc1:=HSk2.out.cell (u+1) (by omega)
         have hc2:=HSk2.out.cell u (by omega)
         have hf1:=HSk2.out.free (u+1)
         have hf2:=HSk2.out.free u
         obtain ⟨X,hX⟩:∃X,X=dk[u+1]! := ⟨_,rfl⟩
         obtain ⟨Y,hY⟩:∃Y,Y=dk[u]! := ⟨_,rfl⟩
         rw [←hX] at hc1
         rw [←hY] at hc2
         have HX:=Lib.hid hX
         have HY:=Lib.hid hY
         obtain ⟨x,xn,xc,hx⟩:=hE X
         obtain ⟨y,yn,yc,hy⟩:=hE Y
         rw [hx] at hc1
         rw [hy] at hc2
         have HEx:=Lib.hid hx
         have HEy:=Lib.hid hy
         clear hx hy hX hY
         have hj1:((u:Int)+1).toNat=u+1:=by omega
         have hj2:((u:Int)+1-1)=u:=by omega
         have hb1:(u:Int)<(d.size:Int):=by omega
         have hb2:(u:Int)+1<(d.size:Int):=by omega
         go_wp2
         go_region
         all_goals go_wp2
         go_roundw
         case rel =>
           refine ⟨u,swp dk (u+1) u,by go_num,by omega,by omega,by rw [size_swp];exact hsk,?_,Lib.hid (shrF_step d dk m u (by omega) (by omega) HR.out),Lib.hid (permIn_trans _ _ _ _ _ HP.out (swp_permIn dk a b (u+1) u (by omega) (by omega) (by omega) (by omega) (by omega)))⟩
           have hw:=HSk2.out.swp (u+1) u (by omega) (by omega) 1
           rw [←HX.out,←HY.out,HEx.out,HEy.out] at hw
           exact Lib.hid hw
         case measure=>simp [intOf]
       · obtain rfl : i = k := by omega
         go_wp2
         go_end0
         refine ⟨rfl,dk,hsk,HSk2.out,HP.out,?_⟩
         rw [hbm]
         exact zg1 hL d dk a m i hai hjb H1.out HLo.out HHi.out HR.out
def zhd {α:Type} [Inhabited α] (enc:α→Value) (cf:α→α→Int) (lt:α→α→Bool) (D:α→Prop) (f:FuncId) (cb:Array Value) (g cap:Nat) (rest:List Value) (n:Nat) (w0:World) (N:Nat):Prop :=
 ∀(a m b:Nat) (d:Array α) (w:World),b-a≤N→d.size=n→SB enc w0 g 46 rest d w→(∀i,i<d.size→D d[i]!)→a<m→m<b→b≤n→SortedIn lt a m d→SortedIn lt m b d→zcO (ltOf cf) lt d a m b →
   Calls Tryz.prog 239 #[.slice (some ⟨g,0,none⟩) n cap,.int .i64 a,.int .i64 m,.int .i64 b,.func (.func f) #[] cb] w fun e w'=>zdY enc lt g a b rest d w0 e w'
def zhm {α:Type} [Inhabited α] (enc:α→Value) (lt:α→α→Bool) (f:FuncId) (cb:Array Value) (g cap:Nat) (rest:List Value) (n:Nat) (w0:World) (a m b mid s0 r0:Nat) (d:Array α):Prop :=
 ∀(s:Nat) (wr:World),s0≤s→s≤r0→SB enc w0 g 46 rest d wr→(s0<s→lt d[mid+m-s]! d[s-1]! = false)→(s<r0→lt d[mid+m-s-1]! d[s]! = true) →
     ∃e,e=mid+m-s∧m≤e∧e≤b∧mid≤e∧s+(e-m)=mid ∧
     (s<m→m<e→Calls Tryz.prog 247 #[.slice (some ⟨g,0,none⟩) n cap,.int .i64 s,.int .i64 m,.int .i64 e,.func (.func f) #[] cb] wr fun e1 w'=>e1=.returned (.tuple #[])∧∃R:Array α,R.size=n∧SB enc w0 g 46 rest R w'∧(∀k,R[k]! = rotF d s m e k)∧PermIn a b d R) ∧
     (∀(R:Array α) (W:World),R.size=n→SB enc w0 g 46 rest R W→(∀k,R[k]! = rotF d s m e k)→PermIn a b d R→a<s→s<mid→Calls Tryz.prog 239 #[.slice (some ⟨g,0,none⟩) n cap,.int .i64 a,.int .i64 s,.int .i64 mid,.func (.func f) #[] cb] W fun e1 w'=>zdY enc lt g a mid rest R w0 e1 w') ∧
     (∀(R R1:Array α) (W:World),R.size=n→R1.size=n→SB enc w0 g 46 rest R1 W→(∀k,R[k]! = rotF d s m e k)→PermIn a b d R→PermIn a mid R R1→mid<e→e<b→Calls Tryz.prog 239 #[.slice (some ⟨g,0,none⟩) n cap,.int .i64 mid,.int .i64 e,.int .i64 b,.func (.func f) #[] cb] W fun e1 w'=>zdY enc lt g mid b rest R1 w0 e1 w') ∧
     (∀R:Array α,(∀k,R[k]! = rotF d s m e k)→(s=a∨s=mid)→SortedIn lt a mid R) ∧
     (∀R R1:Array α,(∀k,R[k]! = rotF d s m e k)→PermIn a mid R R1→(e=mid∨e=b)→SortedIn lt mid b R1) ∧
     (∀R R1 R2:Array α,R.size=n→(∀k,R[k]! = rotF d s m e k)→PermIn a b d R→PermIn a mid R R1→SortedIn lt a mid R1→PermIn mid b R1 R2→SortedIn lt mid b R2→PermIn a b d R2∧SortedIn lt a b R2)
theorem sym_finQ {α:Type} [Inhabited α] (enc:α→Value) (hE:∀x,∃a n c,enc x=.slice a n c) (cf:α→α→Int) (lt:α→α→Bool) (hL:SWO lt) (D:α→Prop) (f:FuncId) (cb:Array Value) (g cap:Nat) (rest:List Value) (n:Nat) (w0:World) (N:Nat)
   (hsz:n<4611686018427387904) (ih:zhd enc cf lt D f cb g cap rest n w0 N)
   (a m b mid s0 r0:Nat) (d:Array α) (hN:b-a≤N+1) (hdn:d.size=n) (hD:∀i,i<d.size→D d[i]!) (hb:b≤n) (h1:SortedIn lt a m d) (h2:SortedIn lt m b d) (hA:zcO (ltOf cf) lt d a m b)
   (hma:a<mid) (hmB:mid<b) (hs0a:a≤s0) (hr0m:r0≤m) (hr0d:r0≤mid) (hs0b:mid+m-s0≤b) (hend0:s0=a∨mid+m-s0=b) (hend1:r0=m∨r0=mid):zhm enc lt f cb g cap rest n w0 a m b mid s0 r0 d:=by
 have HD:=Lib.hid hD
 have H1:=Lib.hid h1
 have H2:=Lib.hid h2
 have HA:=Lib.hid hA
 have HI:=Lib.hid ih
 clear hD h1 h2 hA ih
 intro s wr h3 h4 hSB h5 h6
 refine ⟨mid+m-s,rfl,by omega,by omega,by omega,by omega,?_,?_,?_,?_,?_,?_⟩
 · intro h7 h8
   have h9:=rot_anyQ enc hE (.func (.func f) #[] cb) g cap s m (mid+m-s) rest d w0 wr hSB h7 h8 (by omega) (by omega)
   rw [hdn] at h9
   exact h9.mono fun e1 w' ⟨q1,R,q2,q3,q4,q5⟩=>⟨q1,R,q2,q3,q4,permIn_mono d R s (mid+m-s) a b (by omega) (by omega) (by omega) q5⟩
 · intro R W hR1 hR2 hR3 hR4 h7 h8
   refine HI.out a s mid R W (by omega) hR1 hR2 (zbO D (by omega) hR4 HD.out) h7 h8 (by omega) (sp1 hR3 (by omega) (by omega) H1.out) ?_ ?_
   · have := sp2 hR3 (by omega) (by omega) (by omega) H2.out
     rwa [show s+(mid+m-s-m)=mid from by omega] at this
   · have := agree_lo hR3 (a := a) (by omega) (by omega) (by omega : mid + m - s ≤ b) HA.out
     rwa [show s+(mid+m-s-m)=mid from by omega] at this
 · intro R R1 W hR1 hR2 hR3 hR4 hR5 hR6 h7 h8
   have hc:∀k,mid≤k→R1[k]! = R[k]! := fun k hk=>hR6.2.1 k (by omega)
   refine HI.out mid (mid+m-s) b R1 W (by omega) hR2 hR3 (zbO D (by omega) hR6 (zbO D (by omega) hR5 HD.out)) h7 h8 hb ?_ ?_ ?_
   · have := sp3 hR4 (a := a) (by omega) (by omega) (by omega) H1.out
     rw [show s+(mid+m-s-m)=mid from by omega] at this
     exact zbf this (fun k h9 _=>hc k h9)
   · exact zbf (sp4 hR4 (by omega) (by omega) (by omega) H2.out) (fun k h9 _=>hc k (by omega))
   · have := agree_hi hR4 (b := b) (by omega : a ≤ s) (by omega) (by omega) HA.out
     rw [show s+(mid+m-s-m)=mid from by omega] at this
     exact zgs this (fun k h9 _=>hc k h9)
 · intro R hR h7
   have:=skip_lo hR (by omega:a≤s) (by omega) (by omega) (by omega:mid+m-s≤b) H1.out H2.out (by omega)
   rwa [show s+(mid+m-s-m)=mid from by omega] at this
 · intro R R1 hR hP h7
   have:=skip_hi hR (by omega:a≤s) (by omega) (by omega) (by omega:mid+m-s≤b) H1.out H2.out (by omega)
   rw [show s+(mid+m-s-m)=mid from by omega] at this
   exact zbf this (fun k h9 _=>hP.2.1 k (by omega))
 · intro R R1 R2 hR1 hR hP p1 s1 p2 s2
   have hm2:s+(mid+m-s-m)=mid:=by omega
   refine ⟨permIn_trans _ _ _ _ _ (permIn_trans _ _ _ _ _ hP (permIn_mono R R1 a mid a b (by omega) (by omega) (by omega) p1)) (permIn_mono R1 R2 mid b a b (by omega) (by omega) (by have:=p1.1;omega) p2),?_⟩
   refine zgH hL d R R1 R2 a m b s (mid+m-s) (by omega) (by omega) (by omega) (by omega) (by omega) (by omega) H1.out H2.out hR (fun q1 q2=>h5 (by omega)) (fun q1 q2=>?_) (by rw [hm2];exact p1) (by rw [hm2];exact s1) (by rw [hm2];exact p2) (by rw [hm2];exact s2)
   have h8:=h6 (by omega)
   cases h9:lt d[s]! d[mid+m-s-1]! with
   | false=>rfl
   | true=>have:=hL.trans _ _ _ h8 h9;rw [hL.irrefl] at this;cases this
theorem sym_hiQ {α:Type} [Inhabited α] (enc:α→Value) (hE:∀x,∃a n c,enc x=.slice a n c) (cf:α→α→Int) (lt:α→α→Bool) (D:α→Prop) (f:FuncId) (cb:Array Value) (g cap:Nat) (rest:List Value) (n:Nat) (w0:World)
   (hC:CmpQ Tryz.prog f cb enc cf D w0 g) (hsz:n<4611686018427387904) (a m b mid s0 r0:Nat) (d:Array α) (w:World) (hdn:d.size=n) (hS:SB enc w0 g 46 rest d w) (hD:∀i,i<d.size→D d[i]!) (ham:a+1<m) (hmb:m+1<b) (hb:b≤n) (hA:zcO (ltOf cf) lt d a m b)
   (hmid:mid=(a+b) / 2) (hcase:mid<m) (hs0:s0=mid+m-b) (hr0:r0=mid) (hfin:zhm enc lt f cb g cap rest n w0 a m b mid s0 r0 d) :
   Calls Tryz.prog 239 #[.slice (some ⟨g,0,none⟩) n cap,.int .i64 a,.int .i64 m,.int .i64 b,.func (.func f) #[] cb] w fun e w'=>zdY enc lt g a b rest d w0 e w':=by
 have hne1:((m:Int)-(a:Int)==1)=false:=by rw [beq_eq_false_iff_ne];omega
 have hne2:((b:Int)-(m:Int)==1)=false:=by rw [beq_eq_false_iff_ne];omega
 have hmid1:((a:Int)+(b:Int)) / 2=(mid:Int):=by omega
 have hma:a<mid:=by omega
 have hmB:mid<b:=by omega
 have hsr:s0≤r0:=by omega
 have hs0a:a≤s0:=by omega
 have hr0m:r0≤m:=by omega
 have hr0d:r0≤mid:=by omega
 have hs0b:mid+m-s0≤b:=by omega
 have hend0:s0=a∨mid+m-s0=b:=by omega
 have hend1:r0=m∨r0=mid:=by omega
 have eg:=hC.enters
 have HC:=Lib.hid hC
 have HS:=Lib.hid hS
 have HD:=Lib.hid hD
 have HA:=Lib.hid hA
 have HS0:=Lib.hid hs0
 have HR0:=Lib.hid hr0
 have FIN:=Lib.hid hfin
 clear hC hS hD hA hs0 hr0 hmid hfin
 go_enter Tryz.func239,Tryz.ntmps239
 go_wp2
 go_loopw [20,21] (fun vs vr wr=>∃(s r:Nat),vs=.int .i64 s∧vr=.int .i64 r∧s0≤s∧s≤r∧r≤r0∧Hid (SB enc w0 g 46 rest d wr)∧Hid (s0<s→lt d[mid+m-s]! d[s-1]! = false)∧Hid (r<r0→lt d[mid+m-r-1]! d[r]! = true)) (fun vs vr _=>(intOf vr).toNat-(intOf vs).toNat)
 case atStart=>exact ⟨s0,r0,by have:=HS0.out;go_num,by have:=HR0.out;go_num,Nat.le_refl _,hsr,Nat.le_refl _,HS,Lib.hid (fun h=>absurd h (Nat.lt_irrefl _)),Lib.hid (fun h=>absurd h (Nat.lt_irrefl _))⟩
 case round =>
   obtain ⟨s,r,rfl,rfl,h3,h4,h5,HSk,HLo,HHi⟩:=hrel
   clear HS
   by_cases hlt:s<r
   · obtain ⟨c,hc⟩:∃c,c=(s+r) / 2:=⟨_,rfl⟩
     have hc1:=HSk.out.cell (mid+m-1-c) (by omega)
     have hc2:=HSk.out.cell c (by omega)
     have hcall:=fun q=>HC.out.calls (wr.drewN q) (HSk.out.drewN q).grown d[mid+m-1-c]! d[c]! (HD.out (mid+m-1-c) (by omega)) (HD.out c (by omega))
     have hag:=HA.out c (mid+m-1-c) (by omega) (by omega) (by omega) (by omega)
     obtain ⟨X,hX⟩:∃X,X=d[mid+m-1-c]! := ⟨_,rfl⟩
     obtain ⟨Y,hY⟩:∃Y,Y=d[c]! := ⟨_,rfl⟩
     rw [←hX] at hc1 hcall hag
     rw [←hY] at hc2 hcall hag
     have HX:=Lib.hid hX
     have HY:=Lib.hid hY
     obtain ⟨x,xn,xc,hx⟩:=hE X
     obtain ⟨y,yn,yc,hy⟩:=hE Y
     rw [hx] at hc1 hcall
     rw [hy] at hc2 hcall
     have HCALL:=Lib.hid hcall
     have HAG:=Lib.hid hag
     clear hcall hx hy hX hY hag
     have hh1:((s:Int)+(r:Int)) / 2=(c:Int):=by omega
     have hidx:((mid:Int)+(m:Int)-1-(c:Int)).toNat=mid+m-1-c:=by omega
     have hi0:0≤(mid:Int)+(m:Int)-1-(c:Int):=by omega
     have hi1:(mid:Int)+(m:Int)-1-(c:Int)<(n:Int):=by omega
     have hcn:(c:Int)<(n:Int):=by omega
     have hhi:s≤c:=by omega
     have hhj:c<r:=by omega
     clear hc
     by_cases hcf:cf X Y<0
     · have hl : lt X Y = true := by rw [← HAG.out]; simpa [ltOf] using hcf
       have HL:=Lib.hid hl
       have hcf2:cf X Y<0:=hcf
       have hcfB:decide (cf X Y<0)=true:=by rw [decide_eq_true_iff];exact hcf
       clear hl hcf
       go_wp2_with fail
       go_quiet ((refine Calls.quiet_of (HCALL.out _)))
       go_wp2
       go_roundw
       case rel=>exact ⟨s,c,rfl,rfl,h3,hhi,by omega,Lib.hid (HSk.out.drewN _),HLo,Lib.hid (fun _=>by rw [show mid+m-c-1=mid+m-1-c from by omega,←HX.out,←HY.out];exact HL.out)⟩
       case measure=>simp [intOf];omega
     · have hl : lt X Y = false := by rw [← HAG.out]; simpa [ltOf] using hcf
       have HL:=Lib.hid hl
       have hcf2:0≤cf X Y:=by omega
       have hcfB:decide (cf X Y<0)=false:=by rw [decide_eq_false_iff_not];omega
       clear hl hcf
       go_wp2_with fail
       go_quiet ((refine Calls.quiet_of (HCALL.out _)))
       go_wp2
       go_roundw
       case rel=>exact ⟨c+1,r,by go_num,rfl,by omega,by omega,h5,Lib.hid (HSk.out.drewN _),Lib.hid (fun _=>by rw [show mid+m-(c+1)=mid+m-1-c from by omega,Nat.add_sub_cancel,←HX.out,←HY.out];exact HL.out),HHi⟩
       case measure=>simp [intOf];omega
   · obtain rfl : s = r := by omega
     obtain ⟨e,he,hme,heb,hde,hsum,FROT,FS1,FS2,FK1,FK2,FD⟩:=FIN.out s wr h3 h5 HSk.out HLo.out HHi.out
     have he1:(mid:Int)+(m:Int)-(s:Int)=(e:Int):=by omega
     replace FROT:=Lib.hid FROT
     replace FS1:=Lib.hid FS1
     replace FS2:=Lib.hid FS2
     replace FK1:=Lib.hid FK1
     replace FK2:=Lib.hid FK2
     replace FD:=Lib.hid FD
     clear he
     by_cases hA1:s<m
     · by_cases hB1:m<e
       · by_cases hC1:a<s
         · by_cases hE1:e<b
           · have hq0 : (s : Int) < (mid : Int) := by omega
             have hq1:(mid:Int)<(e:Int):=by omega
             have HROT:=Lib.hid (FROT.out (by omega) (by omega))
             go_wp2_with fail
             (with_reducible refine HROT.out.mono ?_)
             rintro e1 w2 ⟨rfl,R,hRs,hRB,hRk,hRp⟩
             have HB2:=Lib.hid hRB
             have HRK:=Lib.hid hRk
             have HRP:=Lib.hid hRp
             clear hRB hRk hRp
             have hs1:=FS1.out R w2 hRs HB2.out HRK.out HRP.out (by omega) (by omega)
             have HS1C:=Lib.hid hs1
             clear hs1
             go_wp2_with fail
             (with_reducible refine HS1C.out.mono ?_)
             rintro e2 w3 ⟨rfl,R1,hR1s',hR1B,hR1p,hR1o⟩
             have hR1s:R1.size=n:=hR1s'.trans hRs
             have HB3:=Lib.hid hR1B
             have HP1:=Lib.hid hR1p
             have HO1:=Lib.hid hR1o
             clear hR1s' hR1B hR1p hR1o
             have hs2:=FS2.out R R1 w3 hRs hR1s HB3.out HRK.out HRP.out HP1.out (by omega) (by omega)
             have HS2C:=Lib.hid hs2
             clear hs2
             go_wp2_with fail
             (with_reducible refine HS2C.out.mono ?_)
             rintro e3 w4 ⟨rfl,R2,hR2s',hR2B,hR2p,hR2o⟩
             have hR2s:R2.size=n:=hR2s'.trans hR1s
             have HB4:=Lib.hid hR2B
             have HP2:=Lib.hid hR2p
             have HO2:=Lib.hid hR2o
             clear hR2s' hR2B hR2p hR2o
             go_wp2
             all_goals go_end0
             all_goals exact ⟨rfl,R2,hR2s.trans hdn.symm,HB4.out,FD.out R R1 R2 hRs HRK.out HRP.out HP1.out HO1.out HP2.out HO2.out⟩
           · have hq0 : (s : Int) < (mid : Int) := by omega
             have hq1:(mid:Int)<(e:Int):=by omega
             have hq2:(b:Int)≤(e:Int):=by omega
             have HROT:=Lib.hid (FROT.out (by omega) (by omega))
             go_wp2_with fail
             (with_reducible refine HROT.out.mono ?_)
             rintro e1 w2 ⟨rfl,R,hRs,hRB,hRk,hRp⟩
             have HB2:=Lib.hid hRB
             have HRK:=Lib.hid hRk
             have HRP:=Lib.hid hRp
             clear hRB hRk hRp
             have hs1:=FS1.out R w2 hRs HB2.out HRK.out HRP.out (by omega) (by omega)
             have HS1C:=Lib.hid hs1
             clear hs1
             go_wp2_with fail
             (with_reducible refine HS1C.out.mono ?_)
             rintro e2 w3 ⟨rfl,R1,hR1s',hR1B,hR1p,hR1o⟩
             have hR1s:R1.size=n:=hR1s'.trans hRs
             have HB3:=Lib.hid hR1B
             have HP1:=Lib.hid hR1p
             have HO1:=Lib.hid hR1o
             clear hR1s' hR1B hR1p hR1o
             have hR2s:R1.size=n:=hR1s
             have HB4:=Lib.hid HB3.out
             have HP2:=Lib.hid (permIn_refl R1 mid b)
             have HO2:=Lib.hid (FK2.out R R1 HRK.out HP1.out (by omega))
             go_wp2
             all_goals go_end0
             all_goals exact ⟨rfl,R1,hR2s.trans hdn.symm,HB4.out,FD.out R R1 R1 hRs HRK.out HRP.out HP1.out HO1.out HP2.out HO2.out⟩
         · by_cases hE1:e<b
           · have hq0 : (s : Int) < (mid : Int) := by omega
             have hq1:(mid:Int)<(e:Int):=by omega
             have hq2:(s:Int)≤(a:Int):=by omega
             have HROT:=Lib.hid (FROT.out (by omega) (by omega))
             go_wp2_with fail
             (with_reducible refine HROT.out.mono ?_)
             rintro e1 w2 ⟨rfl,R,hRs,hRB,hRk,hRp⟩
             have HB2:=Lib.hid hRB
             have HRK:=Lib.hid hRk
             have HRP:=Lib.hid hRp
             clear hRB hRk hRp
             have hR1s:R.size=n:=hRs
             have HB3:=Lib.hid HB2.out
             have HP1:=Lib.hid (permIn_refl R a mid)
             have HO1:=Lib.hid (FK1.out R HRK.out (by omega))
             have hs2:=FS2.out R R w2 hRs hR1s HB3.out HRK.out HRP.out HP1.out (by omega) (by omega)
             have HS2C:=Lib.hid hs2
             clear hs2
             go_wp2_with fail
             (with_reducible refine HS2C.out.mono ?_)
             rintro e3 w4 ⟨rfl,R2,hR2s',hR2B,hR2p,hR2o⟩
             have hR2s:R2.size=n:=hR2s'.trans hR1s
             have HB4:=Lib.hid hR2B
             have HP2:=Lib.hid hR2p
             have HO2:=Lib.hid hR2o
             clear hR2s' hR2B hR2p hR2o
             go_wp2
             all_goals go_end0
             all_goals exact ⟨rfl,R2,hR2s.trans hdn.symm,HB4.out,FD.out R R R2 hRs HRK.out HRP.out HP1.out HO1.out HP2.out HO2.out⟩
           · have hq0 : (s : Int) < (mid : Int) := by omega
             have hq1:(mid:Int)<(e:Int):=by omega
             have hq2:(s:Int)≤(a:Int):=by omega
             have hq3:(b:Int)≤(e:Int):=by omega
             have HROT:=Lib.hid (FROT.out (by omega) (by omega))
             go_wp2_with fail
             (with_reducible refine HROT.out.mono ?_)
             rintro e1 w2 ⟨rfl,R,hRs,hRB,hRk,hRp⟩
             have HB2:=Lib.hid hRB
             have HRK:=Lib.hid hRk
             have HRP:=Lib.hid hRp
             clear hRB hRk hRp
             have hR1s:R.size=n:=hRs
             have HB3:=Lib.hid HB2.out
             have HP1:=Lib.hid (permIn_refl R a mid)
             have HO1:=Lib.hid (FK1.out R HRK.out (by omega))
             have hR2s:R.size=n:=hR1s
             have HB4:=Lib.hid HB3.out
             have HP2:=Lib.hid (permIn_refl R mid b)
             have HO2:=Lib.hid (FK2.out R R HRK.out HP1.out (by omega))
             go_wp2
             all_goals go_end0
             all_goals exact ⟨rfl,R,hR2s.trans hdn.symm,HB4.out,FD.out R R R hRs HRK.out HRP.out HP1.out HO1.out HP2.out HO2.out⟩
       · have hq0 : (e : Int) ≤ (m : Int) := by omega
         have hq1:(mid:Int)≤(s:Int):=by omega
         have hq2:(a:Int)<(s:Int):=by omega
         have hq3:(e:Int)<(b:Int):=by omega
         have hq4:(mid:Int)<(e:Int):=by omega
         have hRs:d.size=n:=hdn
         have HB2:=Lib.hid HSk.out
         have HRK:=Lib.hid (zbx d s m e (by omega) (by omega) (by omega))
         have HRP:=Lib.hid (permIn_refl d a b)
         have hR1s:d.size=n:=hRs
         have HB3:=Lib.hid HB2.out
         have HP1:=Lib.hid (permIn_refl d a mid)
         have HO1:=Lib.hid (FK1.out d HRK.out (by omega))
         have hs2:=FS2.out d d wr hRs hR1s HB3.out HRK.out HRP.out HP1.out (by omega) (by omega)
         have HS2C:=Lib.hid hs2
         clear hs2
         go_wp2_with fail
         all_goals
           (with_reducible refine HS2C.out.mono ?_)
           rintro e3 w4 ⟨rfl,R2,hR2s',hR2B,hR2p,hR2o⟩
           have hR2s:R2.size=n:=hR2s'.trans hR1s
           have HB4:=Lib.hid hR2B
           have HP2:=Lib.hid hR2p
           have HO2:=Lib.hid hR2o
           clear hR2s' hR2B hR2p hR2o
           go_wp2
           all_goals go_end0
           all_goals exact ⟨rfl,R2,hR2s.trans hdn.symm,HB4.out,FD.out d d R2 hRs HRK.out HRP.out HP1.out HO1.out HP2.out HO2.out⟩
     · by_cases hB1:m<e
       · have hq0 : (m : Int) ≤ (s : Int) := by omega
         have hq1:(s:Int)<(mid:Int):=by omega
         have hq2:(a:Int)<(s:Int):=by omega
         have hq3:(e:Int)<(b:Int):=by omega
         have hq4:(e:Int)≤(mid:Int):=by omega
         have hRs:d.size=n:=hdn
         have HB2:=Lib.hid HSk.out
         have HRK:=Lib.hid (zbx d s m e (by omega) (by omega) (by omega))
         have HRP:=Lib.hid (permIn_refl d a b)
         have hs1:=FS1.out d wr hRs HB2.out HRK.out HRP.out (by omega) (by omega)
         have HS1C:=Lib.hid hs1
         clear hs1
         go_wp2_with fail
         all_goals
           (with_reducible refine HS1C.out.mono ?_)
           rintro e2 w3 ⟨rfl,R1,hR1s',hR1B,hR1p,hR1o⟩
           have hR1s:R1.size=n:=hR1s'.trans hRs
           have HB3:=Lib.hid hR1B
           have HP1:=Lib.hid hR1p
           have HO1:=Lib.hid hR1o
           clear hR1s' hR1B hR1p hR1o
           have hR2s:R1.size=n:=hR1s
           have HB4:=Lib.hid HB3.out
           have HP2:=Lib.hid (permIn_refl R1 mid b)
           have HO2:=Lib.hid (FK2.out d R1 HRK.out HP1.out (by omega))
           go_wp2
           all_goals go_end0
           all_goals exact ⟨rfl,R1,hR2s.trans hdn.symm,HB4.out,FD.out d R1 R1 hRs HRK.out HRP.out HP1.out HO1.out HP2.out HO2.out⟩
       · have hq0 : (m : Int) ≤ (s : Int) := by omega
         have hq1:(e:Int)≤(m:Int):=by omega
         have hq2:(mid:Int)≤(s:Int):=by omega
         have hq3:(a:Int)<(s:Int):=by omega
         have hq4:(e:Int)<(b:Int):=by omega
         have hq5:(e:Int)≤(mid:Int):=by omega
         have hRs:d.size=n:=hdn
         have HB2:=Lib.hid HSk.out
         have HRK:=Lib.hid (zbx d s m e (by omega) (by omega) (by omega))
         have HRP:=Lib.hid (permIn_refl d a b)
         have hR1s:d.size=n:=hRs
         have HB3:=Lib.hid HB2.out
         have HP1:=Lib.hid (permIn_refl d a mid)
         have HO1:=Lib.hid (FK1.out d HRK.out (by omega))
         have hR2s:d.size=n:=hR1s
         have HB4:=Lib.hid HB3.out
         have HP2:=Lib.hid (permIn_refl d mid b)
         have HO2:=Lib.hid (FK2.out d d HRK.out HP1.out (by omega))
         go_wp2
         all_goals
           all_goals go_end0
           all_goals exact ⟨rfl,d,hR2s.trans hdn.symm,HB4.out,FD.out d d d hRs HRK.out HRP.out HP1.out HO1.out HP2.out HO2.out⟩
theorem sym_loQ {α:Type} [Inhabited α] (enc:α→Value) (hE:∀x,∃a n c,enc x=.slice a n c) (cf:α→α→Int) (lt:α→α→Bool) (D:α→Prop) (f:FuncId) (cb:Array Value) (g cap:Nat) (rest:List Value) (n:Nat) (w0:World)
   (hC:CmpQ Tryz.prog f cb enc cf D w0 g) (hsz:n<4611686018427387904) (a m b mid s0 r0:Nat) (d:Array α) (w:World) (hdn:d.size=n) (hS:SB enc w0 g 46 rest d w) (hD:∀i,i<d.size→D d[i]!) (ham:a+1<m) (hmb:m+1<b) (hb:b≤n) (hA:zcO (ltOf cf) lt d a m b)
   (hmid:mid=(a+b) / 2) (hcase:m≤mid) (hs0:s0=a) (hr0:r0=m) (hfin:zhm enc lt f cb g cap rest n w0 a m b mid s0 r0 d) :
   Calls Tryz.prog 239 #[.slice (some ⟨g,0,none⟩) n cap,.int .i64 a,.int .i64 m,.int .i64 b,.func (.func f) #[] cb] w fun e w'=>zdY enc lt g a b rest d w0 e w':=by
 have hne1:((m:Int)-(a:Int)==1)=false:=by rw [beq_eq_false_iff_ne];omega
 have hne2:((b:Int)-(m:Int)==1)=false:=by rw [beq_eq_false_iff_ne];omega
 have hmid1:((a:Int)+(b:Int)) / 2=(mid:Int):=by omega
 have hma:a<mid:=by omega
 have hmB:mid<b:=by omega
 have hsr:s0≤r0:=by omega
 have hs0a:a≤s0:=by omega
 have hr0m:r0≤m:=by omega
 have hr0d:r0≤mid:=by omega
 have hs0b:mid+m-s0≤b:=by omega
 have hend0:s0=a∨mid+m-s0=b:=by omega
 have hend1:r0=m∨r0=mid:=by omega
 have eg:=hC.enters
 have HC:=Lib.hid hC
 have HS:=Lib.hid hS
 have HD:=Lib.hid hD
 have HA:=Lib.hid hA
 have HS0:=Lib.hid hs0
 have HR0:=Lib.hid hr0
 have FIN:=Lib.hid hfin
 clear hC hS hD hA hs0 hr0 hmid hfin
 go_enter Tryz.func239,Tryz.ntmps239
 go_wp2
 go_loopw [20,21] (fun vs vr wr=>∃(s r:Nat),vs=.int .i64 s∧vr=.int .i64 r∧s0≤s∧s≤r∧r≤r0∧Hid (SB enc w0 g 46 rest d wr)∧Hid (s0<s→lt d[mid+m-s]! d[s-1]! = false)∧Hid (r<r0→lt d[mid+m-r-1]! d[r]! = true)) (fun vs vr _=>(intOf vr).toNat-(intOf vs).toNat)
 case atStart=>exact ⟨s0,r0,by have:=HS0.out;go_num,by have:=HR0.out;go_num,Nat.le_refl _,hsr,Nat.le_refl _,HS,Lib.hid (fun h=>absurd h (Nat.lt_irrefl _)),Lib.hid (fun h=>absurd h (Nat.lt_irrefl _))⟩
 case round =>
   obtain ⟨s,r,rfl,rfl,h3,h4,h5,HSk,HLo,HHi⟩:=hrel
   clear HS
   by_cases hlt:s<r
   · obtain ⟨c,hc⟩:∃c,c=(s+r) / 2:=⟨_,rfl⟩
     have hc1:=HSk.out.cell (mid+m-1-c) (by omega)
     have hc2:=HSk.out.cell c (by omega)
     have hcall:=fun q=>HC.out.calls (wr.drewN q) (HSk.out.drewN q).grown d[mid+m-1-c]! d[c]! (HD.out (mid+m-1-c) (by omega)) (HD.out c (by omega))
     have hag:=HA.out c (mid+m-1-c) (by omega) (by omega) (by omega) (by omega)
     obtain ⟨X,hX⟩:∃X,X=d[mid+m-1-c]! := ⟨_,rfl⟩
     obtain ⟨Y,hY⟩:∃Y,Y=d[c]! := ⟨_,rfl⟩
     rw [←hX] at hc1 hcall hag
     rw [←hY] at hc2 hcall hag
     have HX:=Lib.hid hX
     have HY:=Lib.hid hY
     obtain ⟨x,xn,xc,hx⟩:=hE X
     obtain ⟨y,yn,yc,hy⟩:=hE Y
     rw [hx] at hc1 hcall
     rw [hy] at hc2 hcall
     have HCALL:=Lib.hid hcall
     have HAG:=Lib.hid hag
     clear hcall hx hy hX hY hag
     have hh1:((s:Int)+(r:Int)) / 2=(c:Int):=by omega
     have hidx:((mid:Int)+(m:Int)-1-(c:Int)).toNat=mid+m-1-c:=by omega
     have hi0:0≤(mid:Int)+(m:Int)-1-(c:Int):=by omega
     have hi1:(mid:Int)+(m:Int)-1-(c:Int)<(n:Int):=by omega
     have hcn:(c:Int)<(n:Int):=by omega
     have hhi:s≤c:=by omega
     have hhj:c<r:=by omega
     clear hc
     by_cases hcf:cf X Y<0
     · have hl : lt X Y = true := by rw [← HAG.out]; simpa [ltOf] using hcf
       have HL:=Lib.hid hl
       have hcf2:cf X Y<0:=hcf
       have hcfB:decide (cf X Y<0)=true:=by rw [decide_eq_true_iff];exact hcf
       clear hl hcf
       go_wp2_with fail
       go_quiet ((refine Calls.quiet_of (HCALL.out _)))
       go_wp2
       go_roundw
       case rel=>exact ⟨s,c,rfl,rfl,h3,hhi,by omega,Lib.hid (HSk.out.drewN _),HLo,Lib.hid (fun _=>by rw [show mid+m-c-1=mid+m-1-c from by omega,←HX.out,←HY.out];exact HL.out)⟩
       case measure=>simp [intOf];omega
     · have hl : lt X Y = false := by rw [← HAG.out]; simpa [ltOf] using hcf
       have HL:=Lib.hid hl
       have hcf2:0≤cf X Y:=by omega
       have hcfB:decide (cf X Y<0)=false:=by rw [decide_eq_false_iff_not];omega
       clear hl hcf
       go_wp2_with fail
       go_quiet ((refine Calls.quiet_of (HCALL.out _)))
       go_wp2
       go_roundw
       case rel=>exact ⟨c+1,r,by go_num,rfl,by omega,by omega,h5,Lib.hid (HSk.out.drewN _),Lib.hid (fun _=>by rw [show mid+m-(c+1)=mid+m-1-c from by omega,Nat.add_sub_cancel,←HX.out,←HY.out];exact HL.out),HHi⟩
       case measure=>simp [intOf];omega
   · obtain rfl : s = r := by omega
     obtain ⟨e,he,hme,heb,hde,hsum,FROT,FS1,FS2,FK1,FK2,FD⟩:=FIN.out s wr h3 h5 HSk.out HLo.out HHi.out
     have he1:(mid:Int)+(m:Int)-(s:Int)=(e:Int):=by omega
     replace FROT:=Lib.hid FROT
     replace FS1:=Lib.hid FS1
     replace FS2:=Lib.hid FS2
     replace FK1:=Lib.hid FK1
     replace FK2:=Lib.hid FK2
     replace FD:=Lib.hid FD
     clear he
     by_cases hA1:s<m
     · by_cases hB1:m<e
       · by_cases hC1:a<s
         · by_cases hE1:e<b
           · have hq0 : (s : Int) < (mid : Int) := by omega
             have hq1:(mid:Int)<(e:Int):=by omega
             have HROT:=Lib.hid (FROT.out (by omega) (by omega))
             go_wp2_with fail
             (with_reducible refine HROT.out.mono ?_)
             rintro e1 w2 ⟨rfl,R,hRs,hRB,hRk,hRp⟩
             have HB2:=Lib.hid hRB
             have HRK:=Lib.hid hRk
             have HRP:=Lib.hid hRp
             clear hRB hRk hRp
             have hs1:=FS1.out R w2 hRs HB2.out HRK.out HRP.out (by omega) (by omega)
             have HS1C:=Lib.hid hs1
             clear hs1
             go_wp2_with fail
             (with_reducible refine HS1C.out.mono ?_)
             rintro e2 w3 ⟨rfl,R1,hR1s',hR1B,hR1p,hR1o⟩
             have hR1s:R1.size=n:=hR1s'.trans hRs
             have HB3:=Lib.hid hR1B
             have HP1:=Lib.hid hR1p
             have HO1:=Lib.hid hR1o
             clear hR1s' hR1B hR1p hR1o
             have hs2:=FS2.out R R1 w3 hRs hR1s HB3.out HRK.out HRP.out HP1.out (by omega) (by omega)
             have HS2C:=Lib.hid hs2
             clear hs2
             go_wp2_with fail
             (with_reducible refine HS2C.out.mono ?_)
             rintro e3 w4 ⟨rfl,R2,hR2s',hR2B,hR2p,hR2o⟩
             have hR2s:R2.size=n:=hR2s'.trans hR1s
             have HB4:=Lib.hid hR2B
             have HP2:=Lib.hid hR2p
             have HO2:=Lib.hid hR2o
             clear hR2s' hR2B hR2p hR2o
             go_wp2
             all_goals go_end0
             all_goals exact ⟨rfl,R2,hR2s.trans hdn.symm,HB4.out,FD.out R R1 R2 hRs HRK.out HRP.out HP1.out HO1.out HP2.out HO2.out⟩
           · have hq0 : (s : Int) < (mid : Int) := by omega
             have hq1:(mid:Int)<(e:Int):=by omega
             have hq2:(b:Int)≤(e:Int):=by omega
             have HROT:=Lib.hid (FROT.out (by omega) (by omega))
             go_wp2_with fail
             (with_reducible refine HROT.out.mono ?_)
             rintro e1 w2 ⟨rfl,R,hRs,hRB,hRk,hRp⟩
             have HB2:=Lib.hid hRB
             have HRK:=Lib.hid hRk
             have HRP:=Lib.hid hRp
             clear hRB hRk hRp
             have hs1:=FS1.out R w2 hRs HB2.out HRK.out HRP.out (by omega) (by omega)
             have HS1C:=Lib.hid hs1
             clear hs1
             go_wp2_with fail
             (with_reducible refine HS1C.out.mono ?_)
             rintro e2 w3 ⟨rfl,R1,hR1s',hR1B,hR1p,hR1o⟩
             have hR1s:R1.size=n:=hR1s'.trans hRs
             have HB3:=Lib.hid hR1B
             have HP1:=Lib.hid hR1p
             have HO1:=Lib.hid hR1o
             clear hR1s' hR1B hR1p hR1o
             have hR2s:R1.size=n:=hR1s
             have HB4:=Lib.hid HB3.out
             have HP2:=Lib.hid (permIn_refl R1 mid b)
             have HO2:=Lib.hid (FK2.out R R1 HRK.out HP1.out (by omega))
             go_wp2
             all_goals go_end0
             all_goals exact ⟨rfl,R1,hR2s.trans hdn.symm,HB4.out,FD.out R R1 R1 hRs HRK.out HRP.out HP1.out HO1.out HP2.out HO2.out⟩
         · by_cases hE1:e<b
           · have hq0 : (s : Int) < (mid : Int) := by omega
             have hq1:(mid:Int)<(e:Int):=by omega
             have hq2:(s:Int)≤(a:Int):=by omega
             have HROT:=Lib.hid (FROT.out (by omega) (by omega))
             go_wp2_with fail
             (with_reducible refine HROT.out.mono ?_)
             rintro e1 w2 ⟨rfl,R,hRs,hRB,hRk,hRp⟩
             have HB2:=Lib.hid hRB
             have HRK:=Lib.hid hRk
             have HRP:=Lib.hid hRp
             clear hRB hRk hRp
             have hR1s:R.size=n:=hRs
             have HB3:=Lib.hid HB2.out
             have HP1:=Lib.hid (permIn_refl R a mid)
             have HO1:=Lib.hid (FK1.out R HRK.out (by omega))
             have hs2:=FS2.out R R w2 hRs hR1s HB3.out HRK.out HRP.out HP1.out (by omega) (by omega)
             have HS2C:=Lib.hid hs2
             clear hs2
             go_wp2_with fail
             (with_reducible refine HS2C.out.mono ?_)
             rintro e3 w4 ⟨rfl,R2,hR2s',hR2B,hR2p,hR2o⟩
             have hR2s:R2.size=n:=hR2s'.trans hR1s
             have HB4:=Lib.hid hR2B
             have HP2:=Lib.hid hR2p
             have HO2:=Lib.hid hR2o
             clear hR2s' hR2B hR2p hR2o
             go_wp2
             all_goals go_end0
             all_goals exact ⟨rfl,R2,hR2s.trans hdn.symm,HB4.out,FD.out R R R2 hRs HRK.out HRP.out HP1.out HO1.out HP2.out HO2.out⟩
           · have hq0 : (s : Int) < (mid : Int) := by omega
             have hq1:(mid:Int)<(e:Int):=by omega
             have hq2:(s:Int)≤(a:Int):=by omega
             have hq3:(b:Int)≤(e:Int):=by omega
             have HROT:=Lib.hid (FROT.out (by omega) (by omega))
             go_wp2_with fail
             (with_reducible refine HROT.out.mono ?_)
             rintro e1 w2 ⟨rfl,R,hRs,hRB,hRk,hRp⟩
             have HB2:=Lib.hid hRB
             have HRK:=Lib.hid hRk
             have HRP:=Lib.hid hRp
             clear hRB hRk hRp
             have hR1s:R.size=n:=hRs
             have HB3:=Lib.hid HB2.out
             have HP1:=Lib.hid (permIn_refl R a mid)
             have HO1:=Lib.hid (FK1.out R HRK.out (by omega))
             have hR2s:R.size=n:=hR1s
             have HB4:=Lib.hid HB3.out
             have HP2:=Lib.hid (permIn_refl R mid b)
             have HO2:=Lib.hid (FK2.out R R HRK.out HP1.out (by omega))
             go_wp2
             all_goals go_end0
             all_goals exact ⟨rfl,R,hR2s.trans hdn.symm,HB4.out,FD.out R R R hRs HRK.out HRP.out HP1.out HO1.out HP2.out HO2.out⟩
       · have hq0 : (e : Int) ≤ (m : Int) := by omega
         have hq1:(mid:Int)≤(s:Int):=by omega
         have hq2:(a:Int)<(s:Int):=by omega
         have hq3:(e:Int)<(b:Int):=by omega
         have hq4:(mid:Int)<(e:Int):=by omega
         have hRs:d.size=n:=hdn
         have HB2:=Lib.hid HSk.out
         have HRK:=Lib.hid (zbx d s m e (by omega) (by omega) (by omega))
         have HRP:=Lib.hid (permIn_refl d a b)
         have hR1s:d.size=n:=hRs
         have HB3:=Lib.hid HB2.out
         have HP1:=Lib.hid (permIn_refl d a mid)
         have HO1:=Lib.hid (FK1.out d HRK.out (by omega))
         have hs2:=FS2.out d d wr hRs hR1s HB3.out HRK.out HRP.out HP1.out (by omega) (by omega)
         have HS2C:=Lib.hid hs2
         clear hs2
         go_wp2_with fail
         all_goals
           (with_reducible refine HS2C.out.mono ?_)
           rintro e3 w4 ⟨rfl,R2,hR2s',hR2B,hR2p,hR2o⟩
           have hR2s:R2.size=n:=hR2s'.trans hR1s
           have HB4:=Lib.hid hR2B
           have HP2:=Lib.hid hR2p
           have HO2:=Lib.hid hR2o
           clear hR2s' hR2B hR2p hR2o
           go_wp2
           all_goals go_end0
           all_goals exact ⟨rfl,R2,hR2s.trans hdn.symm,HB4.out,FD.out d d R2 hRs HRK.out HRP.out HP1.out HO1.out HP2.out HO2.out⟩
     · by_cases hB1:m<e
       · have hq0 : (m : Int) ≤ (s : Int) := by omega
         have hq1:(s:Int)<(mid:Int):=by omega
         have hq2:(a:Int)<(s:Int):=by omega
         have hq3:(e:Int)<(b:Int):=by omega
         have hq4:(e:Int)≤(mid:Int):=by omega
         have hRs:d.size=n:=hdn
         have HB2:=Lib.hid HSk.out
         have HRK:=Lib.hid (zbx d s m e (by omega) (by omega) (by omega))
         have HRP:=Lib.hid (permIn_refl d a b)
         have hs1:=FS1.out d wr hRs HB2.out HRK.out HRP.out (by omega) (by omega)
         have HS1C:=Lib.hid hs1
         clear hs1
         go_wp2_with fail
         all_goals
           (with_reducible refine HS1C.out.mono ?_)
           rintro e2 w3 ⟨rfl,R1,hR1s',hR1B,hR1p,hR1o⟩
           have hR1s:R1.size=n:=hR1s'.trans hRs
           have HB3:=Lib.hid hR1B
           have HP1:=Lib.hid hR1p
           have HO1:=Lib.hid hR1o
           clear hR1s' hR1B hR1p hR1o
           have hR2s:R1.size=n:=hR1s
           have HB4:=Lib.hid HB3.out
           have HP2:=Lib.hid (permIn_refl R1 mid b)
           have HO2:=Lib.hid (FK2.out d R1 HRK.out HP1.out (by omega))
           go_wp2
           all_goals go_end0
           all_goals exact ⟨rfl,R1,hR2s.trans hdn.symm,HB4.out,FD.out d R1 R1 hRs HRK.out HRP.out HP1.out HO1.out HP2.out HO2.out⟩
       · have hq0 : (m : Int) ≤ (s : Int) := by omega
         have hq1:(e:Int)≤(m:Int):=by omega
         have hq2:(mid:Int)≤(s:Int):=by omega
         have hq3:(a:Int)<(s:Int):=by omega
         have hq4:(e:Int)<(b:Int):=by omega
         have hq5:(e:Int)≤(mid:Int):=by omega
         have hRs:d.size=n:=hdn
         have HB2:=Lib.hid HSk.out
         have HRK:=Lib.hid (zbx d s m e (by omega) (by omega) (by omega))
         have HRP:=Lib.hid (permIn_refl d a b)
         have hR1s:d.size=n:=hRs
         have HB3:=Lib.hid HB2.out
         have HP1:=Lib.hid (permIn_refl d a mid)
         have HO1:=Lib.hid (FK1.out d HRK.out (by omega))
         have hR2s:d.size=n:=hR1s
         have HB4:=Lib.hid HB3.out
         have HP2:=Lib.hid (permIn_refl d mid b)
         have HO2:=Lib.hid (FK2.out d d HRK.out HP1.out (by omega))
         go_wp2
         all_goals
           all_goals go_end0
           all_goals exact ⟨rfl,d,hR2s.trans hdn.symm,HB4.out,FD.out d d d hRs HRK.out HRP.out HP1.out HO1.out HP2.out HO2.out⟩
theorem zgX {α:Type} [Inhabited α] (enc:α→Value) (hE:∀x,∃a n c,enc x=.slice a n c) (cf:α→α→Int) (lt:α→α→Bool) (hL:SWO lt) (D:α→Prop) (f:FuncId) (cb:Array Value) (g cap:Nat) (rest:List Value) (n:Nat) (w0:World)
   (hC:CmpQ Tryz.prog f cb enc cf D w0 g) (hsz:n<4611686018427387904):∀N,zhd enc cf lt D f cb g cap rest n w0 N
 | 0=>fun a m b d w h1 h2 h3 h4 h5 h6=>by omega
 | N + 1 => by
   have ih:=zgX enc hE cf lt hL D f cb g cap rest n w0 hC hsz N
   intro a m b d w hN hdn hS hD ham hmb hb h1 h2 hA
   by_cases c1:m=a+1
   · subst hdn
     exact sym_leftQ enc hE cf lt hL D f cb g cap a m b rest d w0 w hC hS hD c1 hmb hb hsz h2 hA
   by_cases c2:b=m+1
   · subst hdn
     exact sym_rightQ enc hE cf lt hL D f cb g cap a m b rest d w0 w hC hS hD (by omega) c2 hb hsz h1 hA
   obtain ⟨mid,hmid⟩:∃mid,mid=(a+b) / 2:=⟨_,rfl⟩
   by_cases c3:mid<m
   · exact sym_hiQ enc hE cf lt D f cb g cap rest n w0 hC hsz a m b mid (mid + m - b) mid d w hdn hS hD (by omega) (by omega) hb hA hmid c3 rfl rfl
       (sym_finQ enc hE cf lt hL D f cb g cap rest n w0 N hsz ih a m b mid (mid+m-b) mid d hN hdn hD hb h1 h2 hA (by omega) (by omega) (by omega) (by omega) (by omega) (by omega) (by omega) (by omega))
   · exact sym_loQ enc hE cf lt D f cb g cap rest n w0 hC hsz a m b mid a m d w hdn hS hD (by omega) (by omega) hb hA hmid (by omega) rfl rfl
       (sym_finQ enc hE cf lt hL D f cb g cap rest n w0 N hsz ih a m b mid a m d hN hdn hD hb h1 h2 hA (by omega) (by omega) (by omega) (by omega) (by omega) (by omega) (by omega) (by omega))
end Go.Proofs.YtkhcjoomijkfbaaGreatDoor
namespace Go.Proofs.YtkhcjoomijkfbaaGreatDoor
open Go.RowKit Go.Sort
variable {α : Type} [Inhabited α] {lt lt1 : α → α → Bool} {d R R' : Array α} {lo m hi s i : Nat}
structure Good (lt:α→α→Bool) (d:Array α) (lo hi:Nat) (R:Array α):Prop where
 srt:SortedIn lt lo (min hi d.size) R
 loc:∀k,lo≤k→k<hi→k<d.size→∃j,lo≤j∧j<hi∧j<d.size∧R[k]! = d[j]!
theorem Good.same (h:Good lt d lo hi R) (hR:∀k,lo≤k→k<hi→k<d.size→R'[k]! = R[k]!):Good lt d lo hi R' :=
 ⟨zbf h.srt (fun k h1 h2=>hR k h1 (by omega) (by omega)),fun k h1 h2 h3=>by rw [hR k h1 h2 h3];exact h.loc k h1 h2 h3⟩
theorem Good.agree (hag : ∀ p q, p < q → q < d.size → lt1 d[q]! d[p]! = lt d[q]! d[p]!) (h1 : Good lt d lo m R) (h2 : Good lt d m hi R) : zcO lt1 lt R lo m (min hi d.size) := fun p q a b c e => by
 obtain ⟨p',_,p2,p3,hp⟩:=h1.loc p a b (by omega)
 obtain ⟨q',q1,q2,q3,hq⟩:=h2.loc q c (by omega) (by omega)
 rw [hp,hq];exact hag _ _ (by omega) q3
theorem Good.join (h1:Good lt d lo m R) (h2:Good lt d m hi R) (hlm:lo≤m) (hmh:m≤hi) (hsz:R.size=d.size) (hP:PermIn lo (min hi d.size) R R') (hS:SortedIn lt lo (min hi d.size) R'):Good lt d lo hi R' :=
 ⟨hS, fun k a b c => permIn_all R R' lo (min hi d.size) (fun x => ∃ j, lo ≤ j ∧ j < hi ∧ j < d.size ∧ x = d[j]!) (by omega) hP (fun i i1 i2 => by
   by_cases h:i<m
   · obtain ⟨j,a1,a2,a3,a4⟩:=h1.loc i i1 h (by omega);exact ⟨j,a1,by omega,a3,a4⟩
   · obtain ⟨j,a1,a2,a3,a4⟩:=h2.loc i (by omega) (by omega) (by omega);exact ⟨j,by omega,a2,a3,a4⟩) k a (by omega)⟩
theorem Good.wide (h:Good lt d lo m R) (hm:d.size≤m) (hmh:m≤hi):Good lt d lo hi R :=
 ⟨by have:=h.srt;rwa [show min m d.size=min hi d.size from by omega] at this,fun k a b c=>by obtain ⟨j,a1,a2,a3,a4⟩:=h.loc k a (by omega) c;exact ⟨j,a1,by omega,a3,a4⟩⟩
theorem Good.void (h:d.size≤lo):Good lt d lo hi R:=⟨fun p q h1 h2 h3=>by omega,fun k h1 h2 h3=>by omega⟩
structure zco (lt:α→α→Bool) (d:Array α) (s i:Nat) (R:Array α):Prop where
 sz:R.size=d.size
 perm:PermIn 0 d.size d R
 old:∀k,s * i≤k→R[k]! = d[k]!
 good:∀j,j<i→Good lt d (s * j) (s * (j+1)) R
theorem zco.start:zco lt d s 0 d:=⟨rfl,permIn_refl _ _ _,fun _ _=>rfl,fun _ h=>by omega⟩
theorem zco.step (h:zco lt d s i R) (hle:s * i≤d.size) (hP:PermIn (s * i) (min (s * i+s) d.size) R R') (hS:SortedIn lt (s * i) (min (s * i+s) d.size) R'):zco lt d s (i+1) R':=by
 have hm:s * (i+1)=s * i+s:=Nat.mul_succ s i
 refine ⟨hP.1.trans h.sz,permIn_trans _ _ _ _ _ h.perm (permIn_mono R R' _ _ 0 d.size (by omega) (by omega) (by rw [h.sz];omega) hP),fun k hk=>?_,fun j hj=>?_⟩
 · rw [hP.2.1 k (by omega)];exact h.old k (by omega)
 · by_cases hji:j<i
   · have h2 := Nat.mul_le_mul_left s (show j + 1 ≤ i by omega)
     exact (h.good j hji).same fun k h3 h4 h5=>hP.2.1 k (by omega)
   · obtain rfl : j = i := by omega
     rw [hm]
     exact ⟨hS,fun k a b c=>permIn_all R R' _ _ (fun x=>∃q,s * j≤q∧q<s * j+s∧q<d.size∧x=d[q]!) (by rw [h.sz];omega) hP (fun q h1 h2=>⟨q,h1,by omega,by omega,h.old q h1⟩) k a (by omega)⟩
theorem zco.all (h:zco lt d s i R) (hn:d.size≤s * i) (j:Nat):Good lt d (s * j) (s * (j+1)) R:=by
 by_cases hj:j<i
 · exact h.good j hj
 · have h2 := Nat.mul_le_mul_left s (show i ≤ j by omega)
   exact Good.void (by omega)
structure zbm (lt:α→α→Bool) (d:Array α) (s i:Nat) (R:Array α):Prop where
 sz:R.size=d.size
 perm:PermIn 0 d.size d R
 lo:∀j,j<i→Good lt d (2 * s * j) (2 * s * (j+1)) R
 hi:∀j,2 * i≤j→Good lt d (s * j) (s * (j+1)) R
theorem dbl0 (s i:Nat):s * (2 * i)=2 * s * i:=by rw [←Nat.mul_assoc,Nat.mul_comm s 2]
theorem dbl1 (s i:Nat):s * (2 * i+1)=2 * s * i+s:=by rw [Nat.mul_succ,dbl0]
theorem dbl2 (s i:Nat):s * (2 * i+1+1)=2 * s * i+2 * s:=by rw [Nat.mul_succ,dbl1];omega
theorem zbm.start (h1:R.size=d.size) (h2:PermIn 0 d.size d R) (h3:∀j,Good lt d (s * j) (s * (j+1)) R):zbm lt d s 0 R:=⟨h1,h2,fun _ h=>by omega,fun j _=>h3 j⟩
theorem zbm.left (h:zbm lt d s i R):Good lt d (2 * s * i) (2 * s * i+s) R:=by
 have:=h.hi (2 * i) (Nat.le_refl _);rwa [dbl0,dbl1] at this
theorem zbm.right (h:zbm lt d s i R):Good lt d (2 * s * i+s) (2 * s * i+2 * s) R:=by
 have:=h.hi (2 * i+1) (by omega);rwa [dbl1,dbl2] at this
theorem zbm.step (h:zbm lt d s i R) (hle:2 * s * i+s≤d.size) (hP:PermIn (2 * s * i) (min (2 * s * i+2 * s) d.size) R R') (hS:SortedIn lt (2 * s * i) (min (2 * s * i+2 * s) d.size) R'):zbm lt d s (i+1) R':=by
 have hm:2 * s * (i+1)=2 * s * i+2 * s:=Nat.mul_succ (2 * s) i
 refine ⟨hP.1.trans h.sz,permIn_trans _ _ _ _ _ h.perm (permIn_mono R R' _ _ 0 d.size (by omega) (by omega) (by rw [h.sz];omega) hP),fun j hj=>?_,fun j hj=>?_⟩
 · by_cases hji:j<i
   · have h2 := Nat.mul_le_mul_left (2 * s) (show j + 1 ≤ i by omega)
     exact (h.lo j hji).same fun k h3 h4 h5=>hP.2.1 k (by omega)
   · obtain rfl : j = i := by omega
     rw [hm]
     exact h.left.join h.right (by omega) (by omega) h.sz hP hS
 · have h2 := Nat.mul_le_mul_left s (show 2 * i + 1 + 1 ≤ j by omega)
   rw [dbl2] at h2
   exact (h.hi j (by omega)).same fun k h3 h4 h5=>hP.2.1 k (by omega)
theorem zbm.done (h:zbm lt d s i R) (hn:d.size≤2 * s * i+s) (j:Nat):Good lt d (2 * s * j) (2 * s * (j+1)) R:=by
 by_cases hj:j<i
 · exact h.lo j hj
 · by_cases hji:j=i
   · subst hji
     rw [Nat.mul_succ (2 * s) j]
     exact h.left.wide hn (by omega)
   · have h2 := Nat.mul_le_mul_left (2 * s) (show i + 1 ≤ j by omega)
     rw [Nat.mul_succ] at h2
     exact Good.void (by omega)
theorem good_end (h:∀j,Good lt d (s * j) (s * (j+1)) R) (hs:d.size≤s):SortedIn lt 0 d.size R:=by
 have:=(h 0).srt
 rwa [Nat.mul_zero,Nat.zero_add,Nat.mul_one,show min s d.size=d.size from by omega] at this
theorem mrg_facts {A b:Nat} (h:zbm lt d s i R) (hA:A=2 * s * i) (hag:∀p q,p<q→q<d.size→lt1 d[q]! d[p]! = lt d[q]! d[p]!) (hb:b=min (A+2 * s) d.size) (hm:A+s<b) :
   SortedIn lt A (A+s) R∧SortedIn lt (A+s) b R∧zcO lt1 lt R A (A+s) b:=by
 have hl:=h.left
 have hr:=h.right
 rw [←hA] at hl hr
 have h1:=hl.srt
 have h2:=hr.srt
 have h3:=hl.agree hag hr
 rw [show min (A+s) d.size=A+s from by omega] at h1
 rw [←hb] at h2 h3
 exact ⟨h1,h2,h3⟩
theorem mrg_step {A b:Nat} (h:zbm lt d s i R) (hA:A=2 * s * i) (hb:b=min (A+2 * s) d.size) (hm:A+s<b) (hP:PermIn A b R R') (hS:SortedIn lt A b R'):zbm lt d s (i+1) R':=by
 subst hA hb
 exact h.step (by omega) hP hS
theorem zfD {A b:Nat} (h:zco lt d s i R) (hA:A=s * i) (hb:b=min (A+s) d.size) (hm:A≤b) (hP:PermIn A b R R') (hS:SortedIn lt A b R'):zco lt d s (i+1) R':=by
 subst hA hb
 exact h.step (by omega) hP hS
theorem zd3 {A b:Nat} (h:zco lt d s i R) (hA:A=s * i) (hag:∀p q,p<q→q<d.size→lt1 d[q]! d[p]! = lt d[q]! d[p]!) (hb:b≤d.size) (p q:Nat) (h1:A≤p) (h2:p<q) (h3:q<b):lt1 R[q]! R[p]! = lt R[q]! R[p]! := by
 rw [h.old p (by omega),h.old q (by omega)]
 exact hag p q h2 (by omega)
end Go.Proofs.YtkhcjoomijkfbaaGreatDoor
namespace Go.Proofs.YtkhcjoomijkfbaaGreatDoor
open Go.RowKit Go.Sort
theorem ins_anyQ {α:Type} [Inhabited α] (enc:α→Value) (hE:∀x,∃a n c,enc x=.slice a n c) (cf:α→α→Int) (D:α→Prop) (f:FuncId) (cb:Array Value) (g cap a b:Nat) (rest:List Value) (d:Array α) (w0 w:World)
   (hC:CmpQ Tryz.prog f cb enc cf D w0 g) (hS:SB enc w0 g 46 rest d w) (hD:∀i,i<d.size→D d[i]!) (hab:a≤b) (hb:b≤d.size) (hsz:d.size<4611686018427387904) :
   Calls Tryz.prog 238 #[.slice (some ⟨g,0,none⟩) d.size cap,.int .i64 a,.int .i64 b,.func (.func f) #[] cb] w fun e w'=>e=.returned (.tuple #[])∧SB enc w0 g 46 rest (Sort.insertionSort (ltOf cf) d a b) w':=by
 have eg:=hC.enters
 have HC:=Lib.hid hC
 have HS:=Lib.hid hS
 have HD:=Lib.hid hD
 clear hC hS hD
 go_enter Tryz.func238,Tryz.ntmps238
 go_wp2
 go_loopw [8] (fun vi wr => ∃ (i : Nat) (dk : Array α), vi = .int .i64 i ∧ a < i ∧ i ≤ b + 1 ∧ dk.size = d.size ∧ Hid (SB enc w0 g 46 rest dk wr) ∧ Hid (∀ i, i < dk.size → D dk[i]!) ∧
     Hid (insOuter (ltOf cf) a b i dk=insOuter (ltOf cf) a b (a+1) d)) (fun vi _=>b+1-(intOf vi).toNat)
 case atStart=>exact ⟨a+1,d,by go_num,by omega,by omega,rfl,HS,HD,rfl⟩
 case round =>
   obtain ⟨i,dk,rfl,hai,hib,hsk,HSk,HDk,HO⟩:=hrel
   clear HS
   by_cases hlt:i<b
   · go_wp2
     go_loopw [9] (fun vj wr2 => ∃ (j : Nat) (dj : Array α), vj = .int .i64 j ∧ a ≤ j ∧ j ≤ i ∧ dj.size = d.size ∧ Hid (SB enc w0 g 46 rest dj wr2) ∧ Hid (∀ i, i < dj.size → D dj[i]!) ∧
         Hid (insInner (ltOf cf) a j dj=insInner (ltOf cf) a i dk)) (fun vj _=>(intOf vj).toNat)
     case atStart=>exact ⟨i,dk,rfl,by omega,Nat.le_refl _,hsk,HSk,HDk,rfl⟩
     case round =>
       obtain ⟨j,dj,rfl,haj,hji,hsj,HSj,HDj,HI⟩:=hrel
       clear HSk HDk
       by_cases hja:a<j
       · have hc1 := HSj.out.cell j (by omega)
         have hc2:=HSj.out.cell (j-1) (by omega)
         have hf1:=HSj.out.free j
         have hf2:=HSj.out.free (j-1)
         have hcall:=fun q=>HC.out.calls (wr.drewN q) (HSj.out.drewN q).grown dj[j]! dj[j-1]! (HDj.out j (by omega)) (HDj.out (j-1) (by omega))
         obtain ⟨X,hX⟩:∃X,X=dj[j]! := ⟨_,rfl⟩
         obtain ⟨Y,hY⟩:∃Y,Y=dj[j-1]! := ⟨_,rfl⟩
         rw [←hX] at hc1 hcall
         rw [←hY] at hc2 hcall
         have HX:=Lib.hid hX
         have HY:=Lib.hid hY
         obtain ⟨x,xn,xc,hx⟩:=hE X
         obtain ⟨y,yn,yc,hy⟩:=hE Y
         rw [hx] at hc1 hcall
         rw [hy] at hc2 hcall
         have HCALL:=Lib.hid hcall
         have HEx:=Lib.hid hx
         have HEy:=Lib.hid hy
         clear hcall hx hy hX hY
         have hj1:(0:Int)≤(j:Int)-1:=by omega
         have hj2:((j:Int)-1).toNat=j-1:=by omega
         have hjd:j<d.size:=by omega
         have hjd1:(j:Int)<(d.size:Int):=by omega
         have out:ltOf cf X Y=false→∀q,∃i' dk',Value.int .i64 ((i:Int)+1)=.int .i64 (i':Nat)∧a<i'∧i'≤b+1∧dk'.size=d.size∧Hid (SB enc w0 g 46 rest dk' (wr.drewN q))∧Hid (∀i,i<dk'.size→D dk'[i]!)∧Hid (insOuter (ltOf cf) a b i' dk'=insOuter (ltOf cf) a b (a+1) d) :=
           fun hl q=>⟨i+1,dj,by go_num,by omega,by omega,hsj,HSj.out.drewN q,HDj,by rw [←HO.out,zdB _ _ _ _ _ hlt,←HI.out,zdt _ _ _ _ (.inr (by rw [←HX.out,←HY.out];exact hl))];exact Lib.hid rfl⟩
         have OUT:=Lib.hid out
         clear out
         by_cases hcf:cf X Y<0
         · have hl : ltOf cf X Y = true := by simpa [ltOf] using hcf
           have HL:=Lib.hid hl
           clear hl
           go_wp2_with fail
           go_quiet ((refine Calls.quiet_of (HCALL.out _)))
           go_wp2
           go_region
           all_goals go_wp2
           go_roundw
           case rel =>
             refine ⟨j-1,swp dj j (j-1),by congr 1;omega,by omega,by omega,by rw [size_swp];exact hsj,?_,?_,?_⟩
             · have hw := HSj.out.swp j (j - 1) (by omega) (by omega) (nq + 1)
               rw [←HX.out,←HY.out,HEx.out,HEy.out] at hw
               exact Lib.hid hw
             · exact Lib.hid (fun q hq => by
                 rw [size_swp] at hq
                 by_cases h1:q=j
                 · subst h1;rw [swp_left _ _ _ hq (by omega)];exact HDj.out _ (by omega)
                 · by_cases h2:q=j-1
                   · subst h2;rw [swp_right _ _ _ hq];exact HDj.out _ (by omega)
                   · rw [swp_other _ _ _ _ h1 h2];exact HDj.out _ hq)
             · exact Lib.hid (by rw [←HI.out,inner_go (ltOf cf) a j dj hja (by rw [←HX.out,←HY.out];exact HL.out)])
           case measure=>simp [intOf];omega
         · have hl : ltOf cf X Y = false := by simpa [ltOf] using hcf
           have HL:=Lib.hid hl
           clear hl
           go_wp2_with fail
           go_quiet ((refine Calls.quiet_of (HCALL.out _)))
           go_wp2
           go_roundw
           case rel=>exact OUT.out HL.out nq
           case measure=>simp [intOf];omega
       · have out:∀q,∃i' dk',Value.int .i64 ((i:Int)+1)=.int .i64 (i':Nat)∧a<i'∧i'≤b+1∧dk'.size=d.size∧Hid (SB enc w0 g 46 rest dk' (wr.drewN q))∧Hid (∀i,i<dk'.size→D dk'[i]!)∧Hid (insOuter (ltOf cf) a b i' dk'=insOuter (ltOf cf) a b (a+1) d) :=
           fun q=>⟨i+1,dj,by go_num,by omega,by omega,hsj,HSj.out.drewN q,HDj,by rw [←HO.out,zdB _ _ _ _ _ hlt,←HI.out,zdt _ _ _ _ (.inl (by omega))];exact Lib.hid rfl⟩
         have OUT:=Lib.hid out
         clear out
         have hja2:decide ((a:Int)<(j:Int))=false:=by simp;omega
         go_wp2
         go_quiet (fail)
         go_wp2
         go_roundw
         case rel=>exact OUT.out nq
         case measure=>simp [intOf];omega
   · go_wp2
     go_end0
     refine ⟨rfl,?_⟩
     have e:Sort.insertionSort (ltOf cf) d a b=dk:=by
       unfold Sort.insertionSort;rw [←HO.out,zb7 _ _ _ _ _ hlt]
     rw [e]
     exact HSk.out
theorem stable_coreQ {α:Type} [Inhabited α] (enc:α→Value) (hE:∀x,∃a n c,enc x=.slice a n c) (cf:α→α→Int) (lt2:α→α→Bool) (hO:SWO lt2) (D:α→Prop) (f:FuncId) (cb:Array Value) (g cap n:Nat) (rest:List Value) (d:Array α) (w0 w:World)
   (hC:CmpQ Tryz.prog f cb enc cf D w0 g) (hS:SB enc w0 g 46 rest d w) (hD:∀i,i<d.size→D d[i]!) (hag:∀p q,p<q→q<d.size→ltOf cf d[q]! d[p]! = lt2 d[q]! d[p]!) (hdn:d.size=n) (hsz:n<1152921504606846976) :
   Calls Tryz.prog 222 #[.slice (some ⟨g,0,none⟩) n cap,.int .i64 n,.func (.func f) #[] cb] w fun e w'=>e=.returned (.tuple #[])∧∃R,SB enc w0 g 46 rest R w'∧PermIn 0 d.size d R∧SortedIn lt2 0 d.size R:=by
 have eg:=hC.enters
 have insert:∀(A B:Nat) (R:Array α) (wr:World),R.size=n→SB enc w0 g 46 rest R wr→PermIn 0 d.size d R→A≤B→B≤n →
     Calls Tryz.prog 238 #[.slice (some ⟨g,0,none⟩) n cap,.int .i64 A,.int .i64 B,.func (.func f) #[] cb] wr fun e w'=>e=.returned (.tuple #[])∧SB enc w0 g 46 rest (Sort.insertionSort (ltOf cf) R A B) w':=by
   intro A B R wr h1 h2 h3 h4 h5
   have:=ins_anyQ enc hE cf D f cb g cap A B rest R w0 wr hC h2 (zbO D (Nat.le_refl _) h3 hD) h4 (by omega) (by omega)
   rwa [h1] at this
 have merge:∀(A s m b i:Nat) (R:Array α) (wr:World),SB enc w0 g 46 rest R wr→zbm lt2 d s i R→A=2 * s * i→m=A+s→0<s→b=min (A+2 * s) n→m<b →
     Calls Tryz.prog 239 #[.slice (some ⟨g,0,none⟩) n cap,.int .i64 A,.int .i64 ((A:Int)+(s:Int)),.int .i64 b,.func (.func f) #[] cb] wr fun e w'=>e=.returned (.tuple #[])∧∃R',SB enc w0 g 46 rest R' w'∧zbm lt2 d s (i+1) R':=by
   intro A s m b i R wr h1 h2 h3 h4 h5 h6 h7
   obtain ⟨q1,q2,q3⟩:=mrg_facts (b:=b) h2 h3 hag (by rw [hdn];exact h6) (by omega)
   rw [←h4] at q1 q2 q3
   have hc:=zgX enc hE cf lt2 hO D f cb g cap rest n w0 hC (by omega) (b-A) A m b R wr (Nat.le_refl _) (h2.sz.trans hdn) h1 (zbO D (Nat.le_refl _) h2.perm hD) (by omega) h7 (by omega) q1 q2 q3
   rw [show (m:Int)=(A:Int)+(s:Int) from by omega] at hc
   exact hc.mono fun e w' ⟨e1,R',_,e3,e4,e5⟩=>⟨e1,R',e3,mrg_step h2 h3 (by rw [hdn];exact h6) (by omega) e4 e5⟩
 have HINS:=Lib.hid insert
 have HMRG:=Lib.hid merge
 have HAG:=Lib.hid hag
 have HO:=Lib.hid hO
 have HS:=Lib.hid hS
 have HDN:=Lib.hid hdn
 clear insert merge hag hO hS hC hD hdn
 go_enter Tryz.func222,Tryz.ntmps222
 go_wp2
 go_loopw [7,8] (fun va vb wr=>∃(i A B:Nat) (R:Array α),va=.int .i64 A∧vb=.int .i64 B∧A≤n∧A+20≤B∧B≤A+20∧Hid (A=20 * i)∧Hid (SB enc w0 g 46 rest R wr)∧Hid (zco lt2 d 20 i R)) (fun va _ _=>n-(intOf va).toNat)
 case atStart=>exact ⟨0,0,20,d,rfl,rfl,Nat.zero_le _,by omega,by omega,Lib.hid rfl,HS,Lib.hid zco.start⟩
 case round =>
   obtain ⟨i,A,B,R,rfl,rfl,hAn,hB1,hB2,HA,HR,HI⟩:=hrel
   clear HS
   have hRn:R.size=n:=HI.out.sz.trans HDN.out
   have HRN:=Lib.hid hRn
   clear hRn
   by_cases hlt:B≤n
   · have hins := HINS.out A B R wr HRN.out HR.out HI.out.perm (by omega) hlt
     have hst:=zdA (ltOf cf) lt2 HO.out A B R (by omega) (by rw [HRN.out];exact hlt) (zd3 HI.out HA.out HAG.out (by rw [HDN.out];exact hlt))
     have HC1:=Lib.hid hins
     have HST:=Lib.hid hst
     clear hins hst
     go_wp2_with (go_at_call 238;refine HC1.out.mono ?_;rintro e w2 ⟨rfl,hS2⟩;have HS2:=Lib.hid hS2;clear hS2)
     go_roundw
     case rel=>exact ⟨i+1,B,B+20,_,rfl,by go_num,hlt,by omega,by omega,Lib.hid (by have:=HA.out;omega),HS2,Lib.hid (zfD HI.out HA.out (by rw [HDN.out];omega) (by omega) HST.out.1 HST.out.2)⟩
     case measure=>simp [intOf];omega
   · have hins:=HINS.out A n R wr HRN.out HR.out HI.out.perm hAn (Nat.le_refl _)
     have hst:=zdA (ltOf cf) lt2 HO.out A n R hAn (by rw [HRN.out];exact Nat.le_refl _) (zd3 HI.out HA.out HAG.out (by rw [HDN.out];exact Nat.le_refl _))
     have hall:=fun (R':Array α) (h1:PermIn A n R R') (h2:SortedIn lt2 A n R')=>zfD HI.out HA.out (by rw [HDN.out];omega) hAn h1 h2
     have hnn:d.size≤20 * (i+1):=by have:=HA.out;have:=HDN.out;omega
     have HALL:=Lib.hid (hall _ hst.1 hst.2)
     have HC1:=Lib.hid hins
     have HNN:=Lib.hid hnn
     clear hins hst hall hnn
     go_wp2_with (go_at_call 238;refine HC1.out.mono ?_;rintro e w2 ⟨rfl,hS2⟩;have HS2:=Lib.hid hS2;clear hS2)
     go_loopw [6] (fun vs wr=>∃(s:Nat) (R:Array α),vs=.int .i64 s∧20≤s∧s≤2305843009213693952∧Hid (SB enc w0 g 46 rest R wr)∧Hid (R.size=d.size)∧Hid (PermIn 0 d.size d R)∧Hid (∀j,Good lt2 d (s * j) (s * (j+1)) R)) (fun vs _=>n-(intOf vs).toNat)
     case atStart=>exact ⟨20,_,rfl,by omega,by omega,HS2,Lib.hid HALL.out.sz,Lib.hid HALL.out.perm,Lib.hid (HALL.out.all HNN.out)⟩
     case round =>
       obtain ⟨s,R2,rfl,hs20,hsb,HR2,HZ2,HP2,HG2⟩:=hrel
       clear HS2 HALL HC1 HNN HR HI HA hAn hB1 hB2 hlt HRN
       by_cases hsn:s<n
       · go_wp2
         go_loopw [7,8] (fun va vb wr=>∃(i A B:Nat) (R:Array α),va=.int .i64 A∧vb=.int .i64 B∧A≤n∧A+2 * s≤B∧B≤A+2 * s∧Hid (A=2 * s * i)∧Hid (SB enc w0 g 46 rest R wr)∧Hid (zbm lt2 d s i R)) (fun va _ _=>n-(intOf va).toNat)
         case atStart=>exact ⟨0,0,2 * s,R2,rfl,by go_num,Nat.zero_le _,by omega,by omega,Lib.hid (by simp),HR2,Lib.hid (zbm.start HZ2.out HP2.out HG2.out)⟩
         case round =>
           obtain ⟨j,A2,B2,R3,rfl,rfl,hAn2,hB3,hB4,HA2,HR3,HM⟩:=hrel
           clear HR2 HZ2 HP2 HG2
           by_cases hlt2:B2≤n
           · have HC2 := Lib.hid (HMRG.out A2 s (A2 + s) B2 j R3 _ HR3.out HM.out HA2.out rfl (by omega) (by omega) (by omega))
             go_wp2_with (go_at_call 239;refine HC2.out.mono ?_;rintro e w3 ⟨rfl,R4,hS3,hM3⟩;have HS3:=Lib.hid hS3;have HM3:=Lib.hid hM3;clear hS3 hM3)
             go_roundw
             case rel=>exact ⟨j+1,B2,B2+2 * s,R4,rfl,by go_num,hlt2,by omega,by omega,Lib.hid (by rw [Nat.mul_succ,←HA2.out];omega),HS3,HM3⟩
             case measure=>simp [intOf];omega
           · by_cases hm:A2+s<n
             · have hmI : (A2 : Int) + (s : Int) < (n : Int) := by omega
               have HC2:=Lib.hid (HMRG.out A2 s (A2+s) n j R3 _ HR3.out HM.out HA2.out rfl (by omega) (by omega) hm)
               go_wp2_with (go_at_call 239;refine HC2.out.mono ?_;rintro e w3 ⟨rfl,R4,hS3,hM3⟩;have HS3:=Lib.hid hS3;have HM3:=Lib.hid hM3;clear hS3 hM3)
               go_roundw
               case rel=>exact ⟨2 * s,R4,by go_num,by omega,by omega,HS3,Lib.hid HM3.out.sz,Lib.hid HM3.out.perm,Lib.hid (HM3.out.done (by rw [Nat.mul_succ,←HA2.out,HDN.out];omega))⟩
               case measure=>simp [intOf];omega
             · have hmI : (n : Int) ≤ (A2 : Int) + (s : Int) := by omega
               go_wp2
               go_roundw
               case rel=>exact ⟨2 * s,R3,by go_num,by omega,by omega,HR3,Lib.hid HM.out.sz,Lib.hid HM.out.perm,Lib.hid (HM.out.done (by rw [←HA2.out,HDN.out];omega))⟩
               case measure=>simp [intOf];omega
       · go_wp2
         go_end0
         exact ⟨rfl,R2,HR2.out,HP2.out,good_end HG2.out (by rw [HDN.out];omega)⟩
theorem stable_anyQ {α:Type} [Inhabited α] (enc:α→Value) (hE:∀x,∃a n c,enc x=.slice a n c) (cf:α→α→Int) (lt2:α→α→Bool) (hO:SWO lt2) (D:α→Prop) (f:FuncId) (cb:Array Value) (g cap:Nat) (rest:List Value) (d:Array α) (w0 w:World)
   (hC:CmpQ Tryz.prog f cb enc cf D w0 g) (hS:SB enc w0 g 46 rest d w) (hD:∀i,i<d.size→D d[i]!) (hag:∀p q,p<q→q<d.size→ltOf cf d[q]! d[p]! = lt2 d[q]! d[p]!) (hsz:d.size<1152921504606846976) :
   Calls Tryz.prog 196 #[.slice (some ⟨g,0,none⟩) d.size cap,.func (.func f) #[] cb] w fun e w'=>e=.returned (.tuple #[])∧∃R,SB enc w0 g 46 rest R w'∧PermIn 0 d.size d R∧SortedIn lt2 0 d.size R:=by
 obtain ⟨n,hn⟩:∃n,n=d.size:=⟨_,rfl⟩
 have hcore:=stable_coreQ enc hE cf lt2 hO D f cb g cap n rest d w0 w hC hS hD hag hn.symm (by omega)
 rw [←hn] at hsz ⊢
 rw [←hn] at hcore
 have HC:=Lib.hid hcore
 clear hcore hC hS hD hag hn
 go_enter Tryz.func196,Tryz.ntmps196
 go_wp2_with (go_at_call 222;refine HC.out.mono ?_;rintro e w2 ⟨rfl,R,h1,h2,h3⟩)
 go_end0
 exact ⟨rfl,R,h1,h2,h3⟩
theorem stable_nilQ (fv : Value) (w : World) : Calls Tryz.prog 196 #[.slice none 0 0, fv] w fun e w' => e = .returned (.tuple #[]) ∧ w = w' := by
 go_enter Tryz.func196,Tryz.ntmps196
 go_wp2
 refine wp_loop_once ?_
 go_wp2
 refine wp_loop_once ?_
 go_wp2
 go_end0
 go_wp2
 refine wp_loop_once ?_
 go_wp2
 go_end0
 go_wp2
 go_end0
 exact ⟨rfl,rfl⟩
theorem cmpS_lt {p : List (PV × PV)} {i j : Nat} (h : i < j) : ltOf (fun i j => cmpS p[i]!.1.s p[j]!.1.s) j i = ltI p j i := by
 have hc : ∀ x y : List UInt8, decide (cmpS x y < 0) = sLt x y := fun x y => by
   unfold cmpS
   cases h1:sLt x y
   · cases h2:sLt y x<;>simp
   · simp
 show decide (cmpS p[j]!.1.s p[i]!.1.s<0)=ltI p j i
 rw [hc]
 unfold ltI
 have:decide (j<i)=false:=decide_eq_false (by omega)
 rw [this,Bool.and_false,Bool.or_false]
def Names (w:World) (b off m:Nat) (p:List (PV×PV)):Prop:=∀k,k<m→w.cell? ⟨b,off+2 * k * 4+2,none⟩=some (.string (mkB p[k]!.1.s))
theorem Names.of {w:World} {F:Nat→Prop} {b off cap m:Nat} {l:List PV} {cs:List Value} (hr:Row w 4 (some ⟨b,off,none⟩) (2 * m) cap cs) (h:IsVs w F l cs) (hm:l.length=2 * m):Names w b off m (twoV l):=by
 intro k hk
 obtain ⟨x,y,h1,h2,h3⟩:=twoV_at m l hm k hk
 obtain ⟨sl,-,-,-,h4,-⟩:=h.get (2 * k) x h1
 obtain ⟨b',off',e,hb,hc⟩:=hr.2.2.2.2 (by omega)
 cases e
 rw [h3,Nat.add_assoc]
 exact hc _ _ h4
theorem sort_parts {W:World} {B b off m:Nat} {v:Value} {p:List (PV×PV)} (hp:p.length=m) (hO:W.ownsRow B 46 1 v m ((List.range m).map (zcn b off))) (hn:Names W b off m p) (hb:b<B) (hm:m≤200000) :
   Calls Tryz.prog 196 #[v, .func (.func 197) #[] #[]] W fun e w' => e = .returned (.tuple #[]) ∧
     ∃R:Array Nat,R.size=m∧(∀i,i<m→R[i]!<m)∧R.toList.map (fun i=>p[i]!)=zd1 p∧w'.ownsRow B 46 1 v m (R.toList.map (zcn b off))∧W.grownBy w' v.ownBlock:=by
 rcases hO.2 with ⟨rfl,h0⟩|⟨g,cap,cur,rfl,hBg,hg,hnc,hcm,hcs,htk⟩
 · subst h0
   have:p=[]:=List.eq_nil_of_length_eq_zero hp
   subst this
   exact (stable_nilQ _ W).mono fun e w' ⟨h1,h2⟩=>⟨h1,#[],rfl,fun i hi=>by omega,rfl,by rw [←h2];exact hO,by rw [←h2];exact zfo W _⟩
 · have hS:SB (zcn b off) W g 46 (cur.toList.drop m) (Array.range m) W:=by
     refine SB.start hg ?_
     rw [←Nat.mul_one m,htk]
     simp
   have hC : CmpQ Tryz.prog 197 #[] (zcn b off) (fun i j => cmpS p[i]!.1.s p[j]!.1.s) (fun i => i < m) W g := by
     refine ⟨enters_of Tryz.func197 (by kernel_rfl) rfl,fun W' hgr x y hx hy=>?_⟩
     have hk : ∀ k, k < m → W'.cell? ⟨b, off + 2 * k * 4 + 2, none⟩ = some (.string (mkB p[k]!.1.s)) := fun k hk => by
       have hc:=hn k hk
       rw [World.cell?_of_block (w:=W) (a:=⟨b,off+2 * k * 4+2,none⟩) (hgr.block b (World.block_lt_of_cell? W _ hc) (fun e=>by cases e;omega))]
       exact hc
     exact cmpPair_any (hk x hx) (hk y hy) (by omega) (by omega)
   have hc := stable_anyQ (zcn b off) (fun x => ⟨_, _, _, rfl⟩) (fun i j => cmpS p[i]!.1.s p[j]!.1.s) (ltI p) (zh1 p) (fun i => i < m) 197 #[] g cap (cur.toList.drop m) (Array.range m) W W hC hS
     (fun i hi=>by simp at hi;rw [getElem!_pos _ i (by simpa using hi)];simpa using hi)
     (fun i j hij hj => by
       simp at hj
       rw [getElem!_pos _ j (by simpa using hj),getElem!_pos _ i (by simp;omega)]
       simp only [Array.getElem_range]
       exact cmpS_lt hij) (by simp;omega)
   rw [show (Array.range m).size=m by simp] at hc
   refine hc.mono fun e w' ⟨he,R,h1,h2,h3⟩=>⟨he,R,(zdQ h2).1,(zdQ h2).2,?_,?_,h1.grown⟩
   · subst hp
     exact sorted_is p R h2 h3
   · have hz:=(zdQ h2).1
     refine ⟨by simp [hz],.inr ⟨g,cap,_,rfl,hBg,h1.blk,hnc,hcm,?_,?_⟩⟩
     · have : cur.toList.length = cap * 1 := by rw [← hcs]; simp
       simp at this ⊢;omega
     · show List.take (m * 1) _=_
       have:(R.toList.map (zcn b off)).length=m:=by simp [hz]
       simp only [List.take_append,this]
       simp only [Nat.mul_one,Nat.sub_self,List.take_zero,List.append_nil]
       exact List.take_of_length_le (by omega)
end Go.Proofs.YtkhcjoomijkfbaaGreatDoor
