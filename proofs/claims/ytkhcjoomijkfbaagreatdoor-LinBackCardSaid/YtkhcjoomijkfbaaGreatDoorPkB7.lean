/-
  Our texts NumS2 to LexV2, in one.
-/
import Derived.Test.YtkhcjoomijkfbaaGreatDoorPkB6
import Derived.PlainAid
set_option maxRecDepth 8000
set_option maxHeartbeats 8000000
namespace Go.Proofs.YtkhcjoomijkfbaaGreatDoor
open Go.RowKit
set_option maxHeartbeats 16000000 in
theorem rparse_minus (s:ByteArray) (w:World) (hs:s.size≤400000) (h0:0<s.size) (hc:PlainAid.bt s 0=45) :
   Calls Tryz.prog 74 #[.string s] w (zbq (zaH (bl s)) w):=by
 have hbx:(w.alloc (.cells #[.int .i64 0,.int .i64 0,.string ⟨#[]⟩,.slice none 0 0] 48)).heap[w.heap.size]?=some (.cells #[.int .i64 0,.int .i64 0,.string ⟨#[]⟩,.slice none 0 0] 48 (0,0)):=zac _ rfl
 have hB0:=zam w (.cells #[.int .i64 0,.int .i64 0,.string ⟨#[]⟩,.slice none 0 0] 48)
 have HBX:=Lib.hid hbx
 have HB0:=Lib.hid hB0
 obtain ⟨V,hV⟩:∃V,V=zaH (bl s):=⟨_,rfl⟩
 rw [←hV]
 have HV:=Lib.hid hV
 clear hV hbx hB0
 · have hgb:=PlainAid.get_bt s
   have hx:(s[0].toNat:Int)=PlainAid.bt s 0:=hgb 0 h0
   have HS:=Lib.hid (show V=za8 (-1) ((bl s).drop 1) by
     have hb:=zed s 0 h0
     have a1:s[0]=45:=UInt8.toNat_inj.1 (Int.ofNat_inj.1 (hx.trans hc))
     rw [List.drop_zero] at hb
     rw [HV.out,zaH]
     unfold zcz zcF
     rw [hb,a1];rfl)
   clear hx
   go_enter Tryz.func74,Tryz.ntmps74
   go_wp2
   generalize w.alloc (.cells #[.int .i64 0,.int .i64 0,.string ⟨#[]⟩,.slice none 0 0] 48)=W at *
   go_loop [5, 6, 7, 8, 9, 10] (fun n p d t o i => ∃ (K : Nat) (N P D T : Int) (ov : Bool), 1 ≤ K ∧ K ≤ s.size ∧ n = .int .i64 N ∧ p = .int .i64 P ∧ d = .int .i64 D ∧ t = .int .i64 T ∧ o = .bool ov ∧ i = .int .i64 K ∧ 0 ≤ N ∧ N ≤ 21474836479 ∧ (ov = false → N ≤ 2147483647) ∧ 0 ≤ P ∧ P ≤ 999999 ∧ 0 ≤ D ∧ D ≤ K ∧ Hid (St ((bl s).drop 1) 1 K N P D T ov))
     (fun _ _ _ _ _ i=>s.size-(intOf i).toNat)
   case atStart=>exact ⟨1,0,0,0,-1,false,Nat.le_refl _,by omega,rfl,rfl,rfl,rfl,rfl,rfl,by omega,by omega,fun _=>by omega,by omega,by omega,by omega,by omega,Lib.hid (.inl ⟨rfl,rfl,by omega,PA.nil⟩)⟩
   case round =>
     obtain ⟨K,N,P,D,T,ov,hK0,hK1,rfl,rfl,rfl,rfl,rfl,rfl,hN0,hN1,hNo,hP0,hP1,hD0,hD1,HST⟩:=hrel
     by_cases hlt:K<s.size
     · have hgb:=PlainAid.get_bt s
       have hx:(s[K].toNat:Int)=PlainAid.bt s K:=hgb K hlt
       have HTK:=Lib.hid (at_take s 1 K hlt hK0)
       have HSP:=Lib.hid (zgo s 1 K hlt hK0)
       have hx0:=PlainAid.bt_nonneg s K
       have hx1:=PlainAid.bt_le s K
       have HX:=Lib.hid hx
       clear hx
       rcases HST.out with ⟨rfl,rfl,hD,hA⟩|⟨i,rfl,hi,hD,hB⟩
       · have HA:=Lib.hid hA
         have HD:=Lib.hid hD
         clear hA hD HST
         by_cases h46:PlainAid.bt s K=46
         · have HB:=Lib.hid (show PB (((bl s).drop 1).take (K+1-1)) (K-1) N 0 ov by
             rw [HTK.out,show s[K]=46 from UInt8.toNat_inj.1 (by have:=HX.out;rw [h46] at this;exact Int.ofNat_inj.1 this)]
             have:=HA.out.point
             rwa [show (((bl s).drop 1).take (K-1)).length=K-1 from by rw [List.length_take,List.length_drop,zaz];omega] at this)
           have h46d:(PlainAid.bt s K==46)=true:=by rw [beq_iff_eq];exact h46
           clear h46
           go_wp2
           go_round
           case rel=>exact ⟨K+1,N,0,D,K,ov,by omega,by omega,rfl,rfl,rfl,rfl,rfl,by go_num,hN0,hN1,hNo,by omega,by omega,hD0,by omega,Lib.hid (.inr ⟨K-1,by omega,by omega,by have:=HD.out;omega,HB.out⟩)⟩
           case measure=>simp [intOf];omega
         · have h46d : (PlainAid.bt s K == 46) = false := by rw [beq_eq_false_iff_ne]; exact h46
           have HNE:=Lib.hid (show s[K]≠46 from fun e=>h46 (by rw [←HX.out,e];rfl))
           clear h46
           by_cases h48:48≤PlainAid.bt s K
           · by_cases h57:PlainAid.bt s K≤57
             · have HDG := Lib.hid (show isDg s[K] = true by rw [zbc]; have := HX.out; omega)
               have HDV:=Lib.hid (show ((dgV s[K]:Nat):Int)=PlainAid.bt s K-48 by rw [zdh HDG.out,HX.out])
               have h48d:decide (48≤PlainAid.bt s K)=true:=by simpa using h48
               have h57d:decide (PlainAid.bt s K≤57)=true:=by simpa using h57
               cases ov
               · have hN2:=hNo rfl
                 by_cases hM:2147483647<10 * N+PlainAid.bt s K-48
                 · have HA2:=Lib.hid (show PA (((bl s).drop 1).take (K+1-1)) (10 * N+PlainAid.bt s K-48) true by
                     rw [HTK.out];exact HA.out.more HDG.out _ (by have:=HDV.out;omega) _ (by rw [eq_comm,decide_eq_true_iff];exact hM))
                   go_wp2
                   go_round
                   case rel=>exact ⟨K+1,10 * N+PlainAid.bt s K-48,0,D+1,-1,true,by omega,by omega,rfl,rfl,rfl,rfl,rfl,by go_num,by omega,by omega,(fun h=>by cases h),by omega,by omega,by omega,by omega,Lib.hid (.inl ⟨rfl,rfl,by have:=HD.out;omega,HA2.out⟩)⟩
                   case measure=>simp [intOf];omega
                 · have HA2:=Lib.hid (show PA (((bl s).drop 1).take (K+1-1)) (10 * N+PlainAid.bt s K-48) false by
                     rw [HTK.out];exact HA.out.more HDG.out _ (by have:=HDV.out;omega) _ (by rw [eq_comm,decide_eq_false_iff_not];exact hM))
                   have hMd:decide (2147483647<10 * N+PlainAid.bt s K-48)=false:=by simpa using hM
                   have hM2:10 * N+PlainAid.bt s K-48≤2147483647:=by omega
                   clear hM
                   go_wp2
                   go_round
                   case rel=>exact ⟨K+1,10 * N+PlainAid.bt s K-48,0,D+1,-1,false,by omega,by omega,rfl,rfl,rfl,rfl,rfl,by go_num,by omega,by omega,(fun _=>hM2),by omega,by omega,by omega,by omega,Lib.hid (.inl ⟨rfl,rfl,by have:=HD.out;omega,HA2.out⟩)⟩
                   case measure=>simp [intOf];omega
               · have HA2 := Lib.hid (show PA (((bl s).drop 1).take (K + 1 - 1)) N true by rw [HTK.out]; exact HA.out.over HDG.out)
                 go_wp2
                 go_round
                 case rel=>exact ⟨K+1,N,0,D+1,-1,true,by omega,by omega,rfl,rfl,rfl,rfl,rfl,by go_num,hN0,hN1,hNo,by omega,by omega,by omega,by omega,Lib.hid (.inl ⟨rfl,rfl,by have:=HD.out;omega,HA2.out⟩)⟩
                 case measure=>simp [intOf];omega
             · have HL:=Lib.hid (show V=(0,0,11) by
                 rw [HS.out,HSP.out];exact zbL _ _ _ _ HA.out.dg HNE.out (by rw [zbO];have:=HX.out;omega))
               have h48d:decide (48≤PlainAid.bt s K)=true:=by simpa using h48
               have h57d:decide (PlainAid.bt s K≤57)=false:=by simpa using h57
               obtain ⟨⟨k0,k1,k2,k3⟩,f0,f1,f2,f3⟩:=zae HBX.out
               go_wp2
               refine bodyPost_ret (zaa rfl _ _ w.heap.size 48 _ (0,0) _ rfl (set4 HBX.out _ _ _ _) Tryz.underlying48 rfl zal _ rfl) rfl ⟨?_,zad HB0.out (Nat.le_refl _) _ _ _ _⟩
               rw [HL.out]
               rfl
           · have HL:=Lib.hid (show V=(0,0,11) by
               rw [HS.out,HSP.out];exact zbL _ _ _ _ HA.out.dg HNE.out (by rw [zbO];have:=HX.out;omega))
             have h48d:decide (48≤PlainAid.bt s K)=false:=by simpa using h48
             obtain ⟨⟨k0,k1,k2,k3⟩,f0,f1,f2,f3⟩:=zae HBX.out
             go_wp2
             refine bodyPost_ret (zaa rfl _ _ w.heap.size 48 _ (0,0) _ rfl (set4 HBX.out _ _ _ _) Tryz.underlying48 rfl zal _ rfl) rfl ⟨?_,zad HB0.out (Nat.le_refl _) _ _ _ _⟩
             rw [HL.out]
             rfl
       · have HB:=Lib.hid hB
         have HD:=Lib.hid hD
         clear hB hD HST
         have hpt:decide ((1:Int)+(i:Int)<0)=false:=decide_eq_false (by omega)
         have hpt2:decide ((i:Int)<0)=false:=decide_eq_false (by omega)
         have hpt3:0≤(1:Int)+(i:Int):=by omega
         by_cases h48:48≤PlainAid.bt s K
         · have h48d : decide (48 ≤ PlainAid.bt s K) = true := by simpa using h48
           have h46d:(PlainAid.bt s K==46)=false:=by rw [beq_eq_false_iff_ne];omega
           by_cases h57:PlainAid.bt s K≤57
           · have h57d : decide (PlainAid.bt s K ≤ 57) = true := by simpa using h57
             have HDG:=Lib.hid (show isDg s[K]=true by rw [zbc];have:=HX.out;omega)
             go_wp2
             go_loop [11,12] (fun b j=>∃(J:Nat) (B:Int),1≤J∧J≤7∧J≤K-1-i∧b=.int .i64 B∧j=.int .i64 J∧0≤B∧B≤100000∧Hid (B=(100000 / 10 ^ (J-1):Nat))) (fun _ j=>7-(intOf j).toNat)
             case atStart=>exact ⟨1,100000,by omega,by omega,by omega,rfl,rfl,by omega,by omega,Lib.hid rfl⟩
             case round =>
               obtain ⟨J,B,hJ1,hJ7,hJL,rfl,rfl,hB0,hB1,HBJ⟩:=hrel
               by_cases hJK:(J:Int)<(K:Int)-(1+(i:Int))
               · have hJKd : decide ((J : Int) < (K : Int) - (1 + (i : Int))) = true := by simpa using hJK
                 by_cases hJ7b:J<7
                 · have hJ7d : decide ((J : Int) < 7) = true := by simp; omega
                   have HBN:=Lib.hid (show B / 10=((100000 / 10 ^ (J+1-1):Nat):Int) by
                     rw [HBJ.out,show J+1-1=(J-1)+1 from by omega,Nat.pow_succ,←Nat.div_div_eq_div_mul];omega)
                   go_wp2
                   go_round
                   case rel=>exact ⟨J+1,B / 10,by omega,by omega,by omega,rfl,by go_num,by omega,by omega,HBN⟩
                   case measure=>simp [intOf];omega
                 · have hJ7d : decide ((J : Int) < 7) = false := decide_eq_false (by omega)
                   have hz0:0≤B * (PlainAid.bt s K-48):=Int.mul_nonneg hB0 (by omega)
                   have hz1:B * (PlainAid.bt s K-48)≤100000 * 9:=Int.mul_le_mul hB1 (by omega) (by omega) (by omega)
                   have HQ:=Lib.hid (show PB (((bl s).drop 1).take (K+1-1)) i N (P+B * (PlainAid.bt s K-48)) ov by
                     rw [HTK.out]
                     refine HB.out.more HDG.out (100000 / 10 ^ (J-1)) ?_ _ (by rw [HBJ.out,HX.out])
                     rw [List.length_take,List.length_drop,zaz]
                     congr 3
                     omega)
                   have hq:=HQ.out.bd
                   have hq0:=hq.1
                   have hq1:=hq.2
                   clear hq
                   have hwr:IntKind.i64.wrap (B * (PlainAid.bt s K-48))=B * (PlainAid.bt s K-48):=IntWalk.i64_in _ (by omega)
                   clear hz1
                   go_wp2
                   go_round
                   case rel=>exact ⟨K+1,N,P+B * (PlainAid.bt s K-48),D+1,_,ov,by omega,by omega,rfl,rfl,rfl,rfl,rfl,by go_num,hN0,hN1,hNo,hq0,hq1,by omega,by omega,Lib.hid (.inr ⟨i,rfl,by omega,by have:=HD.out;omega,HQ.out⟩)⟩
                   case measure=>simp [intOf];omega
               · have hJKd : decide ((J : Int) < (K : Int) - (1 + (i : Int))) = false := by simpa using hJK
                 have hz0:0≤B * (PlainAid.bt s K-48):=Int.mul_nonneg hB0 (by omega)
                 have hz1:B * (PlainAid.bt s K-48)≤100000 * 9:=Int.mul_le_mul hB1 (by omega) (by omega) (by omega)
                 have HQ:=Lib.hid (show PB (((bl s).drop 1).take (K+1-1)) i N (P+B * (PlainAid.bt s K-48)) ov by
                   rw [HTK.out]
                   refine HB.out.more HDG.out (100000 / 10 ^ (J-1)) ?_ _ (by rw [HBJ.out,HX.out])
                   rw [List.length_take,List.length_drop,zaz]
                   congr 3
                   omega)
                 have hq:=HQ.out.bd
                 have hq0:=hq.1
                 have hq1:=hq.2
                 clear hq
                 have hwr:IntKind.i64.wrap (B * (PlainAid.bt s K-48))=B * (PlainAid.bt s K-48):=IntWalk.i64_in _ (by omega)
                 clear hz1
                 go_wp2
                 go_round
                 case rel=>exact ⟨K+1,N,P+B * (PlainAid.bt s K-48),D+1,_,ov,by omega,by omega,rfl,rfl,rfl,rfl,rfl,by go_num,hN0,hN1,hNo,hq0,hq1,by omega,by omega,Lib.hid (.inr ⟨i,rfl,by omega,by have:=HD.out;omega,HQ.out⟩)⟩
                 case measure=>simp [intOf];omega
           · have HL:=Lib.hid (show V=(0,0,11) by
               rw [HS.out,HSP.out];exact HB.out.bad _ _ _ (by rw [zbO];have:=HX.out;omega))
             have h57d:decide (PlainAid.bt s K≤57)=false:=by simpa using h57
             obtain ⟨⟨k0,k1,k2,k3⟩,f0,f1,f2,f3⟩:=zae HBX.out
             go_wp2
             refine bodyPost_ret (zaa rfl _ _ w.heap.size 48 _ (0,0) _ rfl (set4 HBX.out _ _ _ _) Tryz.underlying48 rfl zal _ rfl) rfl ⟨?_,zad HB0.out (Nat.le_refl _) _ _ _ _⟩
             rw [HL.out]
             rfl
         · have HL:=Lib.hid (show V=(0,0,11) by
             rw [HS.out,HSP.out];exact HB.out.bad _ _ _ (by rw [zbO];have:=HX.out;omega))
           have h48d:decide (48≤PlainAid.bt s K)=false:=by simpa using h48
           obtain ⟨⟨k0,k1,k2,k3⟩,f0,f1,f2,f3⟩:=zae HBX.out
           by_cases h46:PlainAid.bt s K=46
           · have h46d : (PlainAid.bt s K == 46) = true := by rw [beq_iff_eq]; exact h46
             clear h46
             go_wp2
             refine bodyPost_ret (zaa rfl _ _ w.heap.size 48 _ (0,0) _ rfl (set4 HBX.out _ _ _ _) Tryz.underlying48 rfl zal _ rfl) rfl ⟨?_,zad HB0.out (Nat.le_refl _) _ _ _ _⟩
             rw [HL.out]
             rfl
           · have h46d : (PlainAid.bt s K == 46) = false := by rw [beq_eq_false_iff_ne]; exact h46
             clear h46
             go_wp2
             refine bodyPost_ret (zaa rfl _ _ w.heap.size 48 _ (0,0) _ rfl (set4 HBX.out _ _ _ _) Tryz.underlying48 rfl zal _ rfl) rfl ⟨?_,zad HB0.out (Nat.le_refl _) _ _ _ _⟩
             rw [HL.out]
             rfl
     · obtain rfl : K = s.size := by omega
       have HTK:=Lib.hid (show ((bl s).drop 1).take (s.size-1)=(bl s).drop 1 by rw [List.take_of_length_le (by rw [List.length_drop,zaz];omega)])
       have HLEN:=Lib.hid (show ((bl s).drop 1).length=s.size-1 by rw [List.length_drop,zaz])
       have hwlt:=(Array.getElem?_eq_some_iff.1 HBX.out).1
       obtain ⟨⟨k0,k1,k2,k3⟩,f0,f1,f2,f3⟩:=zae HBX.out
       rcases HST.out with ⟨rfl,rfl,hD,hA⟩|⟨i,rfl,hi,hD,hB⟩
       · rw [HTK.out] at hA
         have HL:=Lib.hid (show V=if s.size-1=0 then (0,0,11) else if ov=true then (0,0,5) else (2,(-1) * N,0) by rw [HS.out,hA.fin,HLEN.out])
         clear hA HST
         by_cases hz:s.size-1=0
         · rw [if_pos hz] at HL
           have hDz:(D==0)=true:=by rw [beq_iff_eq];omega
           clear hD hz
           go_wp2
           refine bodyPost_ret (zaa rfl _ _ w.heap.size 48 _ (0,0) _ rfl (set4 HBX.out _ _ _ _) Tryz.underlying48 rfl zal _ rfl) rfl ⟨?_,zad HB0.out (Nat.le_refl _) _ _ _ _⟩
           rw [HL.out]
           rfl
         · rw [if_neg hz] at HL
           have hDz:(D==0)=false:=by rw [beq_eq_false_iff_ne];omega
           clear hD hz
           cases ov
           · rw [if_neg (by decide)] at HL
             have hNo2:=hNo rfl
             go_wp2
             refine bodyPost_ret (zaa rfl _ _ w.heap.size 48 _ (0,0) _ rfl (zao _ (set4 HBX.out _ _ _ _)) Tryz.underlying48 rfl zal _ rfl) rfl ⟨?_,(zad HB0.out (Nat.le_refl _) _ _ _ _).alloc (by simpa using Nat.le_of_lt hwlt) _⟩
             rw [HL.out]
             simp [valC,zba]
           · rw [if_pos rfl] at HL
             go_wp2
             refine bodyPost_ret (zaa rfl _ _ w.heap.size 48 _ (0,0) _ rfl (set4 HBX.out _ _ _ _) Tryz.underlying48 rfl zal _ rfl) rfl ⟨?_,zad HB0.out (Nat.le_refl _) _ _ _ _⟩
             rw [HL.out]
             rfl
       · rw [HTK.out] at hB
         have HL:=Lib.hid (show V=if s.size-1=1 then (0,0,11) else if ov=true∨(N=2147483647∧0<P) then (0,0,5) else (3,(-1) * (1000000 * N+P),0) by rw [HS.out,hB.fin,HLEN.out])
         clear hB HST
         have hpt:decide (0≤(1:Int)+(i:Int))=true:=decide_eq_true (by omega)
         have hpt2:decide (0≤(i:Int))=true:=decide_eq_true (by omega)
         have hpt3:0≤(1:Int)+(i:Int):=by omega
         by_cases hz:s.size-1=1
         · rw [if_pos hz] at HL
           have hDz:(D==0)=true:=by rw [beq_iff_eq];omega
           clear hD hz hi
           go_wp2
           refine bodyPost_ret (zaa rfl _ _ w.heap.size 48 _ (0,0) _ rfl (set4 HBX.out _ _ _ _) Tryz.underlying48 rfl zal _ rfl) rfl ⟨?_,zad HB0.out (Nat.le_refl _) _ _ _ _⟩
           rw [HL.out]
           rfl
         · rw [if_neg hz] at HL
           have hDz:(D==0)=false:=by rw [beq_eq_false_iff_ne];omega
           clear hD hz hi
           cases ov
           · have hNo2:=hNo rfl
             by_cases hNm:N=2147483647
             · have hNmd : (N == 2147483647) = true := by rw [beq_iff_eq]; exact hNm
               by_cases hPp:0<P
               · have hPd : decide (0 < P) = true := by simpa using hPp
                 rw [if_pos (.inr ⟨hNm,hPp⟩)] at HL
                 clear hNm
                 go_wp2
                 refine bodyPost_ret (zaa rfl _ _ w.heap.size 48 _ (0,0) _ rfl (set4 HBX.out _ _ _ _) Tryz.underlying48 rfl zal _ rfl) rfl ⟨?_,zad HB0.out (Nat.le_refl _) _ _ _ _⟩
                 rw [HL.out]
                 rfl
               · have hPd : decide (0 < P) = false := by simpa using hPp
                 rw [if_neg (by rintro (h|h);cases h;exact hPp h.2)] at HL
                 clear hNm
                 go_wp2
                 refine bodyPost_ret (zaa rfl _ _ w.heap.size 48 _ (0,0) _ rfl (zao _ (set4 HBX.out _ _ _ _)) Tryz.underlying48 rfl zal _ rfl) rfl ⟨?_,(zad HB0.out (Nat.le_refl _) _ _ _ _).alloc (by simpa using Nat.le_of_lt hwlt) _⟩
                 rw [HL.out]
                 simp [valC,zba]
             · have hNmd : (N == 2147483647) = false := by rw [beq_eq_false_iff_ne]; exact hNm
               rw [if_neg (by rintro (h|h);cases h;exact hNm h.1)] at HL
               clear hNm
               go_wp2
               refine bodyPost_ret (zaa rfl _ _ w.heap.size 48 _ (0,0) _ rfl (zao _ (set4 HBX.out _ _ _ _)) Tryz.underlying48 rfl zal _ rfl) rfl ⟨?_,(zad HB0.out (Nat.le_refl _) _ _ _ _).alloc (by simpa using Nat.le_of_lt hwlt) _⟩
               rw [HL.out]
               simp [valC,zba]
           · rw [if_pos (.inl rfl)] at HL
             go_wp2
             refine bodyPost_ret (zaa rfl _ _ w.heap.size 48 _ (0,0) _ rfl (set4 HBX.out _ _ _ _) Tryz.underlying48 rfl zal _ rfl) rfl ⟨?_,zad HB0.out (Nat.le_refl _) _ _ _ _⟩
             rw [HL.out]
             rfl
theorem rparse_empty (s:ByteArray) (w:World) (h0:s.size=0) :
   Calls Tryz.prog 74 #[.string s] w (zbq (zaH (bl s)) w):=by
 have hbx:(w.alloc (.cells #[.int .i64 0,.int .i64 0,.string ⟨#[]⟩,.slice none 0 0] 48)).heap[w.heap.size]?=some (.cells #[.int .i64 0,.int .i64 0,.string ⟨#[]⟩,.slice none 0 0] 48 (0,0)):=zac _ rfl
 have hB0:=zam w (.cells #[.int .i64 0,.int .i64 0,.string ⟨#[]⟩,.slice none 0 0] 48)
 have HBX:=Lib.hid hbx
 have HB0:=Lib.hid hB0
 obtain ⟨V,hV⟩:∃V,V=zaH (bl s):=⟨_,rfl⟩
 rw [←hV]
 have HV:=Lib.hid hV
 clear hV hbx hB0
 have HL:=Lib.hid (show V=(0,0,11) by rw [HV.out,show bl s=[] from List.eq_nil_of_length_eq_zero (by rw [zaz];exact h0)];rfl)
 have hz:¬0<s.size:=by omega
 have hzd:decide (0<s.size)=false:=decide_eq_false hz
 have hzi:decide ((0:Int)<s.size)=false:=decide_eq_false (by omega)
 clear h0
 go_enter Tryz.func74,Tryz.ntmps74
 go_wp2
 generalize w.alloc (.cells #[.int .i64 0,.int .i64 0,.string ⟨#[]⟩,.slice none 0 0] 48)=W at *
 go_loop [7,10] (fun d i=>d=.int .i64 0∧i=.int .i64 0) (fun _ _=>0)
 case atStart=>exact ⟨rfl,rfl⟩
 case round =>
   obtain ⟨rfl,rfl⟩:=hrel
   obtain ⟨⟨k0,k1,k2,k3⟩,f0,f1,f2,f3⟩:=zae HBX.out
   go_wp2
   refine bodyPost_ret (zaa rfl _ _ w.heap.size 48 _ (0,0) _ rfl (set4 HBX.out _ _ _ _) Tryz.underlying48 rfl zal _ rfl) rfl ⟨?_,zad HB0.out (Nat.le_refl _) _ _ _ _⟩
   rw [HL.out]
   rfl
theorem zbD (s:ByteArray) (w:World) (hs:s.size≤400000) :
   Calls Tryz.prog 74 #[.string s] w (zbq (zaH (bl s)) w):=by
 by_cases h0:0<s.size
 · by_cases h1:PlainAid.bt s 0=43
   · exact rparse_plus s w hs h0 h1
   · by_cases h2:PlainAid.bt s 0=45
     · exact rparse_minus s w hs h0 h2
     · exact rparse_none s w hs h0 h1 h2
 · exact rparse_empty s w (by omega)
structure Rx (w:World) (r n:Nat) (f:Nat) (W:World):Prop where
 blk:W.heap[r]?=some (.cells #[.int .i64 0,.int .i64 0,.int .i64 0,.int .i64 0,.int .i64 0,.string ⟨#[]⟩,.slice none 0 0,.string ⟨#[]⟩] 91 (0,0))
 no:W.heap[n]?=some (.cells #[.int .i64 0,.int .i64 f,.int .i64 f,.int .i64 0,.int .i64 0,.string ⟨#[]⟩,.slice none 0 0,.string ⟨#[]⟩] 91 (0,0))
 bel:Below w.heap.size w W
 wr:w.heap.size≤r
theorem Rx.on {w W W':World} {r n f:Nat} (h:Rx w r n f W) (hb:Below W.heap.size W W'):Rx w r n f W':=⟨zab hb h.blk,zab hb h.no,h.bel.trans (hb.mono h.bel.size),h.wr⟩
theorem Rx.alloc {w W:World} {r n f:Nat} (h:Rx w r n f W) (o:Obj):Rx w r n f (W.alloc o):=h.on (zam W o)
theorem zar {w W:World} {r:Nat} {V:Tk×Int×Int×Int} {x:Tk} {f t er:Int} (hb:Below w.heap.size w W) (hr:w.heap.size≤r) (hV:V=(x,f,t,er)) (y0 y1 y2 y3 y4 y5 y6 y7:Value) :
   zax w V (.returned (.tuple #[.agg (tokN x f t),.int .i64 er]))
     ((((((((W.setCell ⟨r,0,none⟩ y0).setCell ⟨r,1,none⟩ y1).setCell ⟨r,2,none⟩ y2).setCell ⟨r,3,none⟩ y3).setCell ⟨r,4,none⟩ y4).setCell ⟨r,5,none⟩ y5).setCell ⟨r,6,none⟩ y6).setCell ⟨r,7,none⟩ y7):=by
 subst hV;exact ⟨rfl,zbk hb hr _ _ _ _ _ _ _ _⟩
theorem zge {bs:List UInt8} {f:Nat} (last:Bool) (h:f<bs.length):zbf bs f last=if (tokV last (bs.getD f 0) (bs.drop (f+1))).1=0 then ((tokV last (bs.getD f 0) (bs.drop (f+1))).2.1,(f:Int),(bs.length:Int)-((tokV last (bs.getD f 0) (bs.drop (f+1))).2.2.length:Int),0) else ({ kind:=0 },(f:Int),(f:Int),(tokV last (bs.getD f 0) (bs.drop (f+1))).1):=zcy last (zaw h)
theorem za2 {bs:List UInt8} {f j:Nat} {last:Bool} (h:f<bs.length) {c:UInt8} (hc:bs.getD f 0=c) {x:Tk} (ht:tokV last c (bs.drop (f+1))=(0,x,bs.drop j)) (hj:j≤bs.length):zbf bs f last=(x,(f:Int),(j:Int),0):=by
 rw [zge last h,hc,ht,if_pos rfl]
 simp only [List.length_drop]
 congr 3;omega
theorem zfk {bs:List UInt8} {f:Nat} {last:Bool} (h:f<bs.length) {c:UInt8} (hc:bs.getD f 0=c) {x:Tk} {r:List UInt8} (ht:tokV last c (bs.drop (f+1))=(0,x,r)) (hj:r.length≤bs.length):zbf bs f last=(x,(f:Int),((bs.length-r.length:Nat):Int),0):=by
 rw [zge last h,hc,ht,if_pos rfl]
 simp only
 congr 3;omega
theorem zaV {bs:List UInt8} {f:Nat} {last:Bool} (h:f<bs.length) {c:UInt8} (hc:bs.getD f 0=c) {e:Int} (ht:(tokV last c (bs.drop (f+1))).1=e) (he:e≠0):zbf bs f last=({ kind:=0 },(f:Int),(f:Int),e):=by
 rw [zge last h,hc,if_neg (by rw [ht];exact he),ht]
theorem tokV_62 (last:Bool) (t:List UInt8):tokV last 62 t=match t with
     | []=>(if last then 11 else 6,{ kind:=0 },[])
     | d::u=>if d=62 then (0,{ kind:=5 },u) else (11,{ kind:=0 },[]):=by
 unfold tokV
 rw [if_neg (by decide),if_neg (by decide),if_neg (by decide),if_neg (by decide),if_pos rfl]
 cases t<;>rfl
theorem tokV_60 (last:Bool) (t:List UInt8) (h:∀u,t≠60::u):tokV last 60 t=hexK last (hexV [] (-1) t):=by
 have:=tokV_open ⟨none,0,t,last⟩ 0
 rw [List.drop_zero] at this
 rw [this]
 cases t with
 | nil=>rfl
 | cons d u =>
   rw [opV_in (X:=⟨none,0,d::u,last⟩) (k:=0) (by simp),if_neg (by simp;intro e;subst e;exact h u rfl)]
   rfl
theorem skip_here {bs:List UInt8} {k:Int} {f:Nat} (h0:0≤k) (h1:k≤bs.length) (hf:zaF bs k=f) (hl:f<bs.length):bs.getD f 0≠37∧isSp (bs.getD f 0)=false:=by
 have hi:=zfP h0 h1
 rw [hf] at hi
 have h2:f+za0 false (bs.drop f)=f:=by
   have:zaF bs (f:Int)=f+za0 false (bs.drop f):=by
     unfold zaF;rw [if_neg (by omega),if_neg (by omega),Int.toNat_natCast]
   rw [←this];exact hi
 rw [zaw hl] at h2
 refine ⟨fun e=>?_,?_⟩
 · rw [za0,if_pos e] at h2;omega
 · by_cases e:bs.getD f 0=37
   · rw [za0,if_pos e] at h2;omega
   · cases hs:isSp (bs.getD f 0) with
     | false=>rfl
     | true=>rw [za0,if_neg e,if_pos hs] at h2;omega
theorem zcT.some_end {bs:List UInt8} {last:Bool} {V:Int×List UInt8×List UInt8} {w w':World} {e:Ending} (h:zcT bs last V w e w'):∃v n er,e=.returned (.tuple #[v,.int .i64 n,.int .i64 er])∧Below w.heap.size w w':=by
 obtain ⟨hb,⟨-,h⟩|⟨-,h⟩|⟨-,v,h,-,-⟩⟩:=h
 · exact ⟨_,_,_,h,hb⟩
 · exact ⟨_,_,_,h,hb⟩
 · exact ⟨_,_,_,h,hb⟩
theorem zaA {w:World} {a:Option Addr} {cap:Nat} {bs:List UInt8} (hr:Row w 1 a bs.length cap (bs.map u8C)) (hn:bs.length≤400000) {k:Int} (hk0:0≤k) (hk1:k≤bs.length) {f:Nat} (hf:zaF bs k=f) (hfl:f<bs.length) :
   ∃(b off R r:Nat) (x:Nat),a=some ⟨b,off,none⟩∧b<w.heap.size∧(bs.getD f 0).toNat=x∧R=f+runN (bs.drop f)∧R≤bs.length∧r=w.heap.size∧bs.length≤cap∧(cap:Int)≤9223372036854775807∧decide (k<0)=false ∧
     decide ((bs.length:Int)<k)=false∧((f:Int)==(bs.length:Int))=false∧decide (f=bs.length)=false∧(f:Int)<bs.length∧f≤399999∧runN (bs.drop f)≤bs.length-f ∧
     (∀W:World,Below w.heap.size w W→Calls Tryz.prog 68 #[.slice a bs.length cap,.int .i64 k] W fun e w'=>e=.returned (.int .i64 (f:Nat))∧W=w') ∧
     (∀W:World,Below w.heap.size w W→Calls Tryz.prog 69 #[.slice a bs.length cap,.int .i64 f] W fun e w'=>e=.returned (.int .i64 (R:Nat))∧W=w') ∧
     (∀j,j<bs.length→w.cell? ⟨b,off+j,none⟩=some (.int .u8 (bs.getD j 0).toNat))∧w.cell? ⟨b,off+f,none⟩=some (.int .u8 x) ∧
     (w.alloc (.cells #[.int .i64 0,.int .i64 0,.int .i64 0,.int .i64 0,.int .i64 0,.string ⟨#[]⟩,.slice none 0 0,.string ⟨#[]⟩] 91)).heap[r]?=some (.cells #[.int .i64 0,.int .i64 0,.int .i64 0,.int .i64 0,.int .i64 0,.string ⟨#[]⟩,.slice none 0 0,.string ⟨#[]⟩] 91 (0,0))∧Below w.heap.size w (w.alloc (.cells #[.int .i64 0,.int .i64 0,.int .i64 0,.int .i64 0,.int .i64 0,.string ⟨#[]⟩,.slice none 0 0,.string ⟨#[]⟩] 91)):=by
 obtain ⟨b,off,ha,hbW,hc⟩:=hr.at 0 f hfl
 have hrl:=zbh (bs.drop f)
 rw [List.length_drop] at hrl
 refine ⟨b, off, _, _, _, ha, hbW, rfl, rfl, by omega, rfl, hr.2.1, hr.i64c, decide_eq_false (by omega), decide_eq_false (by omega), by rw [beq_eq_false_iff_ne]; omega, decide_eq_false (by omega), by omega, by omega, hrl, fun W h => ?_,
   fun W h=>zdC (hr.mono h) hn f (by omega),hc,hc f hfl,zac _ rfl,zam w _⟩
 have:=rskip_any (hr.mono h) hn k
 rw [hf] at this
 exact this
theorem zau {w:World} {b off f r x:Nat} (hbW:b<w.heap.size) (hrr:r=w.heap.size) {W1:World} (hB:Below w.heap.size w W1) (hc:w.cell? ⟨b,off+f,none⟩=some (.int .u8 x)) (hZ:W1.heap[r]?=some (.cells #[.int .i64 0,.int .i64 0,.int .i64 0,.int .i64 0,.int .i64 0,.string ⟨#[]⟩,.slice none 0 0,.string ⟨#[]⟩] 91 (0,0))) :
   W1.cell? ⟨b,off+f,none⟩=some (.int .u8 x)∧(W1.alloc (.cells #[.int .i64 0,.int .i64 f,.int .i64 f,.int .i64 0,.int .i64 0,.string ⟨#[]⟩,.slice none 0 0,.string ⟨#[]⟩] 91)).cell? ⟨b,off+f,none⟩=some (.int .u8 x)∧¬b=W1.heap.size∧b<W1.heap.size∧Rx w r W1.heap.size f (W1.alloc (.cells #[.int .i64 0,.int .i64 f,.int .i64 f,.int .i64 0,.int .i64 0,.string ⟨#[]⟩,.slice none 0 0,.string ⟨#[]⟩] 91)) :=
 ⟨cell?_keep hB hc,cell?_keep (hB.alloc hB.size _) hc,by have:=hB.size;omega,by have:=hB.size;omega,zao _ hZ,zac _ rfl,hB.alloc hB.size _,by rw [hrr];exact Nat.le_refl _⟩
theorem rnext_91 {w:World} {a:Option Addr} {cap:Nat} {bs:List UInt8} (hr:Row w 1 a bs.length cap (bs.map u8C)) (hn:bs.length≤400000) {k:Int} (last:Bool) (hk0:0≤k) (hk1:k≤bs.length) {f:Nat} (hf:zaF bs k=f) (hfl:f<bs.length) {V:Tk×Int×Int×Int} (hV:V=zbf bs f last) (hc0:bs.getD f 0=91) :
   Calls Tryz.prog 44 #[.slice a bs.length cap,.int .i64 k,.bool last] w (zax w V):=by
 have HV:=Lib.hid (hV.trans (za2 (j:=f+1) hfl hc0 (tokV_91 last _) (by omega)))
 obtain ⟨b,off,R,r,x,rfl,hbW,hx,hR,hRL,hrr,hcap,hcm,hkd,hkd2,hff,hffn,hfi,hf9,hrl,hS,hRN,hc,hcf,hZ,hB0⟩:=zaA hr hn hk0 hk1 hf hfl
 have HRW:=Lib.hid hr
 have HC:=Lib.hid hc
 have HS:=Lib.hid hS
 have HRN:=Lib.hid hRN
 have HRR:=Lib.hid hR
 have HRL:=Lib.hid hRL
 have HRE:=Lib.hid hrr
 have HZ:=Lib.hid hZ
 have HB0:=Lib.hid hB0
 clear hS hRN hRL hZ hB0
 obtain rfl:x=91:=by rw [←hx,hc0];rfl
 clear hr hf hR hrr hrl hk0 hk1 hc hV hx
 go_enter Tryz.func44,Tryz.ntmps44
 go_wp2_with fail
 refine (HS.out _ HB0.out).mono ?_
 rintro e w' ⟨rfl,rfl⟩
 rw [←HRE.out]
 generalize w.alloc _=W1 at *
 obtain ⟨hcj1,hcj,hbn,hbl,hX⟩:=zau hbW HRE.out HB0.out hcf HZ.out
 have HX:=Lib.hid hX
 clear hcf hX
 go_wp2_with fail
 refine (HRN.out _ HX.out.bel).mono ?_
 rintro e w' ⟨rfl,rfl⟩
 clear hcj1 hcj hbn hbl
 generalize W1.alloc _=W2 at *
 generalize W1.heap.size=p at *
 clear HZ HB0
 obtain ⟨⟨k0,k1,k2,k3,k4,k5,k6,k7⟩,m0,m1,m2,m3,m4,m5,m6,m7⟩:=zaf HX.out.blk
 go_wp2
 refine bodyPost_ret (zaa rfl _ _ r 91 _ (0,0) _ rfl (set8 HX.out.blk _ _ _ _ _ _ _ _) Tryz.underlying91 rfl zaq _ rfl) rfl ?_
 exact zar (x:={ kind:=2 }) HX.out.bel HX.out.wr HV.out _ _ _ _ _ _ _ _
theorem rnext_93 {w:World} {a:Option Addr} {cap:Nat} {bs:List UInt8} (hr:Row w 1 a bs.length cap (bs.map u8C)) (hn:bs.length≤400000) {k:Int} (last:Bool) (hk0:0≤k) (hk1:k≤bs.length) {f:Nat} (hf:zaF bs k=f) (hfl:f<bs.length) {V:Tk×Int×Int×Int} (hV:V=zbf bs f last) (hc0:bs.getD f 0=93) :
   Calls Tryz.prog 44 #[.slice a bs.length cap,.int .i64 k,.bool last] w (zax w V):=by
 have HV:=Lib.hid (hV.trans (za2 (j:=f+1) hfl hc0 (tokV_93 last _) (by omega)))
 obtain ⟨b,off,R,r,x,rfl,hbW,hx,hR,hRL,hrr,hcap,hcm,hkd,hkd2,hff,hffn,hfi,hf9,hrl,hS,hRN,hc,hcf,hZ,hB0⟩:=zaA hr hn hk0 hk1 hf hfl
 have HRW:=Lib.hid hr
 have HC:=Lib.hid hc
 have HS:=Lib.hid hS
 have HRN:=Lib.hid hRN
 have HRR:=Lib.hid hR
 have HRL:=Lib.hid hRL
 have HRE:=Lib.hid hrr
 have HZ:=Lib.hid hZ
 have HB0:=Lib.hid hB0
 clear hS hRN hRL hZ hB0
 obtain rfl:x=93:=by rw [←hx,hc0];rfl
 clear hr hf hR hrr hrl hk0 hk1 hc hV hx
 go_enter Tryz.func44,Tryz.ntmps44
 go_wp2_with fail
 refine (HS.out _ HB0.out).mono ?_
 rintro e w' ⟨rfl,rfl⟩
 rw [←HRE.out]
 generalize w.alloc _=W1 at *
 obtain ⟨hcj1,hcj,hbn,hbl,hX⟩:=zau hbW HRE.out HB0.out hcf HZ.out
 have HX:=Lib.hid hX
 clear hcf hX
 go_wp2_with fail
 refine (HRN.out _ HX.out.bel).mono ?_
 rintro e w' ⟨rfl,rfl⟩
 clear hcj1 hcj hbn hbl
 generalize W1.alloc _=W2 at *
 generalize W1.heap.size=p at *
 clear HZ HB0
 obtain ⟨⟨k0,k1,k2,k3,k4,k5,k6,k7⟩,m0,m1,m2,m3,m4,m5,m6,m7⟩:=zaf HX.out.blk
 go_wp2
 refine bodyPost_ret (zaa rfl _ _ r 91 _ (0,0) _ rfl (set8 HX.out.blk _ _ _ _ _ _ _ _) Tryz.underlying91 rfl zaq _ rfl) rfl ?_
 exact zar (x:={ kind:=3 }) HX.out.bel HX.out.wr HV.out _ _ _ _ _ _ _ _
theorem rnext_6060 {w:World} {a:Option Addr} {cap:Nat} {bs:List UInt8} (hr:Row w 1 a bs.length cap (bs.map u8C)) (hn:bs.length≤400000) {k:Int} (last:Bool) (hk0:0≤k) (hk1:k≤bs.length) {f:Nat} (hf:zaF bs k=f) (hfl:f<bs.length) {V:Tk×Int×Int×Int} (hV:V=zbf bs f last) (hc0:bs.getD f 0=60) (h1:f+1<bs.length) (h2:bs.getD (f+1) 0=60) :
   Calls Tryz.prog 44 #[.slice a bs.length cap,.int .i64 k,.bool last] w (zax w V):=by
 have HV:=Lib.hid (hV.trans (za2 (j:=f+2) (x:={ kind:=4 }) hfl hc0 (by rw [zaw h1,h2];rfl) (by omega)))
 obtain ⟨b,off,R,r,x,rfl,hbW,hx,hR,hRL,hrr,hcap,hcm,hkd,hkd2,hff,hffn,hfi,hf9,hrl,hS,hRN,hc,hcf,hZ,hB0⟩:=zaA hr hn hk0 hk1 hf hfl
 have HRW:=Lib.hid hr
 have HC:=Lib.hid hc
 have HS:=Lib.hid hS
 have HRN:=Lib.hid hRN
 have HRR:=Lib.hid hR
 have HRL:=Lib.hid hRL
 have HRE:=Lib.hid hrr
 have HZ:=Lib.hid hZ
 have HB0:=Lib.hid hB0
 clear hS hRN hRL hZ hB0
 obtain rfl:x=60:=by rw [←hx,hc0];rfl
 have hc1:=hc (f+1) h1
 rw [h2,show ((60:UInt8).toNat:Int)=60 from rfl] at hc1
 have HC1:=Lib.hid hc1
 have hn1:decide ((f:Int)+1<bs.length)=true:=decide_eq_true (by omega)
 have hn1i:(f:Int)+1<bs.length:=by omega
 clear hc1 h1 h2
 clear hr hf hR hrr hrl hk0 hk1 hc hV hx
 go_enter Tryz.func44,Tryz.ntmps44
 go_wp2_with fail
 refine (HS.out _ HB0.out).mono ?_
 rintro e w' ⟨rfl,rfl⟩
 rw [←HRE.out]
 generalize w.alloc _=W1 at *
 obtain ⟨hcj1,hcj,hbn,hbl,hX⟩:=zau hbW HRE.out HB0.out hcf HZ.out
 have HX:=Lib.hid hX
 clear hcf hX
 go_wp2_with fail
 refine (HRN.out _ HX.out.bel).mono ?_
 rintro e w' ⟨rfl,rfl⟩
 clear hcj1 hcj hbn hbl
 generalize W1.alloc _=W2 at *
 generalize W1.heap.size=p at *
 clear HZ HB0
 have hc1:=cell?_keep HX.out.bel HC1.out
 obtain ⟨⟨k0,k1,k2,k3,k4,k5,k6,k7⟩,m0,m1,m2,m3,m4,m5,m6,m7⟩:=zaf HX.out.blk
 go_wp2
 refine bodyPost_ret (zaa rfl _ _ r 91 _ (0,0) _ rfl (set8 HX.out.blk _ _ _ _ _ _ _ _) Tryz.underlying91 rfl zaq _ rfl) rfl ?_
 exact zar (x:={ kind:=4 }) HX.out.bel HX.out.wr HV.out _ _ _ _ _ _ _ _
theorem rnext_6262 {w:World} {a:Option Addr} {cap:Nat} {bs:List UInt8} (hr:Row w 1 a bs.length cap (bs.map u8C)) (hn:bs.length≤400000) {k:Int} (last:Bool) (hk0:0≤k) (hk1:k≤bs.length) {f:Nat} (hf:zaF bs k=f) (hfl:f<bs.length) {V:Tk×Int×Int×Int} (hV:V=zbf bs f last) (hc0:bs.getD f 0=62) (h1:f+1<bs.length) (h2:bs.getD (f+1) 0=62) :
   Calls Tryz.prog 44 #[.slice a bs.length cap,.int .i64 k,.bool last] w (zax w V):=by
 have HV:=Lib.hid (hV.trans (za2 (j:=f+2) (x:={ kind:=5 }) hfl hc0 (by rw [zaw h1,h2];rfl) (by omega)))
 obtain ⟨b,off,R,r,x,rfl,hbW,hx,hR,hRL,hrr,hcap,hcm,hkd,hkd2,hff,hffn,hfi,hf9,hrl,hS,hRN,hc,hcf,hZ,hB0⟩:=zaA hr hn hk0 hk1 hf hfl
 have HRW:=Lib.hid hr
 have HC:=Lib.hid hc
 have HS:=Lib.hid hS
 have HRN:=Lib.hid hRN
 have HRR:=Lib.hid hR
 have HRL:=Lib.hid hRL
 have HRE:=Lib.hid hrr
 have HZ:=Lib.hid hZ
 have HB0:=Lib.hid hB0
 clear hS hRN hRL hZ hB0
 obtain rfl:x=62:=by rw [←hx,hc0];rfl
 have hc1:=hc (f+1) h1
 rw [h2,show ((62:UInt8).toNat:Int)=62 from rfl] at hc1
 have HC1:=Lib.hid hc1
 have hn1:decide ((f:Int)+1<bs.length)=true:=decide_eq_true (by omega)
 have hn1i:(f:Int)+1<bs.length:=by omega
 clear hc1 h1 h2
 clear hr hf hR hrr hrl hk0 hk1 hc hV hx
 go_enter Tryz.func44,Tryz.ntmps44
 go_wp2_with fail
 refine (HS.out _ HB0.out).mono ?_
 rintro e w' ⟨rfl,rfl⟩
 rw [←HRE.out]
 generalize w.alloc _=W1 at *
 obtain ⟨hcj1,hcj,hbn,hbl,hX⟩:=zau hbW HRE.out HB0.out hcf HZ.out
 have HX:=Lib.hid hX
 clear hcf hX
 go_wp2_with fail
 refine (HRN.out _ HX.out.bel).mono ?_
 rintro e w' ⟨rfl,rfl⟩
 clear hcj1 hcj hbn hbl
 generalize W1.alloc _=W2 at *
 generalize W1.heap.size=p at *
 clear HZ HB0
 have hc1:=cell?_keep HX.out.bel HC1.out
 obtain ⟨⟨k0,k1,k2,k3,k4,k5,k6,k7⟩,m0,m1,m2,m3,m4,m5,m6,m7⟩:=zaf HX.out.blk
 go_wp2
 refine bodyPost_ret (zaa rfl _ _ r 91 _ (0,0) _ rfl (set8 HX.out.blk _ _ _ _ _ _ _ _) Tryz.underlying91 rfl zaq _ rfl) rfl ?_
 exact zar (x:={ kind:=5 }) HX.out.bel HX.out.wr HV.out _ _ _ _ _ _ _ _
theorem rnext_62more {w:World} {a:Option Addr} {cap:Nat} {bs:List UInt8} (hr:Row w 1 a bs.length cap (bs.map u8C)) (hn:bs.length≤400000) {k:Int} (last:Bool) (hk0:0≤k) (hk1:k≤bs.length) {f:Nat} (hf:zaF bs k=f) (hfl:f<bs.length) {V:Tk×Int×Int×Int} (hV:V=zbf bs f last) (hc0:bs.getD f 0=62) (h1:f+1=bs.length) (hla:last=false) :
   Calls Tryz.prog 44 #[.slice a bs.length cap,.int .i64 k,.bool last] w (zax w V):=by
 have HV:=Lib.hid (hV.trans (zaV (e:=6) hfl hc0 (by rw [tokV_62,za9 (by omega),hla];rfl) (by decide)))
 subst hla
 obtain ⟨b,off,R,r,x,rfl,hbW,hx,hR,hRL,hrr,hcap,hcm,hkd,hkd2,hff,hffn,hfi,hf9,hrl,hS,hRN,hc,hcf,hZ,hB0⟩:=zaA hr hn hk0 hk1 hf hfl
 have HRW:=Lib.hid hr
 have HC:=Lib.hid hc
 have HS:=Lib.hid hS
 have HRN:=Lib.hid hRN
 have HRR:=Lib.hid hR
 have HRL:=Lib.hid hRL
 have HRE:=Lib.hid hrr
 have HZ:=Lib.hid hZ
 have HB0:=Lib.hid hB0
 clear hS hRN hRL hZ hB0
 obtain rfl:x=62:=by rw [←hx,hc0];rfl
 have hn1:decide ((f:Int)+1<bs.length)=false:=decide_eq_false (by omega)
 have hn2:((f:Int)+1==(bs.length:Int))=true:=by rw [beq_iff_eq];omega
 have hn3:decide ((f:Int)+1=(bs.length:Int))=true:=decide_eq_true (by omega)
 clear h1
 clear hr hf hR hrr hrl hk0 hk1 hc hV hx
 go_enter Tryz.func44,Tryz.ntmps44
 go_wp2_with fail
 refine (HS.out _ HB0.out).mono ?_
 rintro e w' ⟨rfl,rfl⟩
 rw [←HRE.out]
 generalize w.alloc _=W1 at *
 obtain ⟨hcj1,hcj,hbn,hbl,hX⟩:=zau hbW HRE.out HB0.out hcf HZ.out
 have HX:=Lib.hid hX
 clear hcf hX
 go_wp2_with fail
 refine (HRN.out _ HX.out.bel).mono ?_
 rintro e w' ⟨rfl,rfl⟩
 clear hcj1 hcj hbn hbl
 generalize W1.alloc _=W2 at *
 generalize W1.heap.size=p at *
 clear HZ HB0
 obtain ⟨⟨k0,k1,k2,k3,k4,k5,k6,k7⟩,m0,m1,m2,m3,m4,m5,m6,m7⟩:=zaf HX.out.blk
 obtain ⟨⟨n0,n1,n2,n3,n4,n5,n6,n7⟩,-⟩:=zaf HX.out.no
 go_wp2
 refine bodyPost_ret (zaa rfl _ _ r 91 _ (0,0) _ rfl (set8 HX.out.blk _ _ _ _ _ _ _ _) Tryz.underlying91 rfl zaq _ rfl) rfl ?_
 exact zar (x:={ kind:=0 }) HX.out.bel HX.out.wr HV.out _ _ _ _ _ _ _ _
theorem rnext_62last {w:World} {a:Option Addr} {cap:Nat} {bs:List UInt8} (hr:Row w 1 a bs.length cap (bs.map u8C)) (hn:bs.length≤400000) {k:Int} (last:Bool) (hk0:0≤k) (hk1:k≤bs.length) {f:Nat} (hf:zaF bs k=f) (hfl:f<bs.length) {V:Tk×Int×Int×Int} (hV:V=zbf bs f last) (hc0:bs.getD f 0=62) (h1:f+1=bs.length) (hla:last=true) :
   Calls Tryz.prog 44 #[.slice a bs.length cap,.int .i64 k,.bool last] w (zax w V):=by
 have HV:=Lib.hid (hV.trans (zaV (e:=11) hfl hc0 (by rw [tokV_62,za9 (by omega),hla];rfl) (by decide)))
 subst hla
 obtain ⟨b,off,R,r,x,rfl,hbW,hx,hR,hRL,hrr,hcap,hcm,hkd,hkd2,hff,hffn,hfi,hf9,hrl,hS,hRN,hc,hcf,hZ,hB0⟩:=zaA hr hn hk0 hk1 hf hfl
 have HRW:=Lib.hid hr
 have HC:=Lib.hid hc
 have HS:=Lib.hid hS
 have HRN:=Lib.hid hRN
 have HRR:=Lib.hid hR
 have HRL:=Lib.hid hRL
 have HRE:=Lib.hid hrr
 have HZ:=Lib.hid hZ
 have HB0:=Lib.hid hB0
 clear hS hRN hRL hZ hB0
 obtain rfl:x=62:=by rw [←hx,hc0];rfl
 have hn1:decide ((f:Int)+1<bs.length)=false:=decide_eq_false (by omega)
 have hn2:((f:Int)+1==(bs.length:Int))=true:=by rw [beq_iff_eq];omega
 have hn3:decide ((f:Int)+1=(bs.length:Int))=true:=decide_eq_true (by omega)
 have HDL:=Lib.hid (fun W=>zaL 62 W)
 rw [show dlI 62=true from rfl] at HDL
 clear h1
 clear hr hf hR hrr hrl hk0 hk1 hc hV hx
 go_enter Tryz.func44,Tryz.ntmps44
 go_wp2_with fail
 refine (HS.out _ HB0.out).mono ?_
 rintro e w' ⟨rfl,rfl⟩
 rw [←HRE.out]
 generalize w.alloc _=W1 at *
 obtain ⟨hcj1,hcj,hbn,hbl,hX⟩:=zau hbW HRE.out HB0.out hcf HZ.out
 have HX:=Lib.hid hX
 clear hcf hX
 go_wp2_with fail
 refine (HRN.out _ HX.out.bel).mono ?_
 rintro e w' ⟨rfl,rfl⟩
 clear hcj1 hcj hbn hbl
 generalize W1.alloc _=W2 at *
 generalize W1.heap.size=p at *
 clear HZ HB0
 obtain ⟨⟨k0,k1,k2,k3,k4,k5,k6,k7⟩,m0,m1,m2,m3,m4,m5,m6,m7⟩:=zaf HX.out.blk
 obtain ⟨⟨n0,n1,n2,n3,n4,n5,n6,n7⟩,-⟩:=zaf HX.out.no
 go_wp2_with (go_at_call 73;refine (HDL.out _).mono ?_;rintro e w' ⟨rfl,rfl⟩)
 refine bodyPost_ret (zaa rfl _ _ r 91 _ (0,0) _ rfl (set8 HX.out.blk _ _ _ _ _ _ _ _) Tryz.underlying91 rfl zaq _ rfl) rfl ?_
 exact zar (x:={ kind:=0 }) HX.out.bel HX.out.wr HV.out _ _ _ _ _ _ _ _
theorem rnext_62form {w:World} {a:Option Addr} {cap:Nat} {bs:List UInt8} (hr:Row w 1 a bs.length cap (bs.map u8C)) (hn:bs.length≤400000) {k:Int} (last:Bool) (hk0:0≤k) (hk1:k≤bs.length) {f:Nat} (hf:zaF bs k=f) (hfl:f<bs.length) {V:Tk×Int×Int×Int} (hV:V=zbf bs f last) (hc0:bs.getD f 0=62) (h1:f+1<bs.length) (h2:bs.getD (f+1) 0≠62) :
   Calls Tryz.prog 44 #[.slice a bs.length cap,.int .i64 k,.bool last] w (zax w V):=by
 have HV:=Lib.hid (hV.trans (zaV (e:=11) hfl hc0 (by rw [tokV_62,zaw h1];simp only;rw [if_neg h2]) (by decide)))
 obtain ⟨b,off,R,r,x,rfl,hbW,hx,hR,hRL,hrr,hcap,hcm,hkd,hkd2,hff,hffn,hfi,hf9,hrl,hS,hRN,hc,hcf,hZ,hB0⟩:=zaA hr hn hk0 hk1 hf hfl
 have HRW:=Lib.hid hr
 have HC:=Lib.hid hc
 have HS:=Lib.hid hS
 have HRN:=Lib.hid hRN
 have HRR:=Lib.hid hR
 have HRL:=Lib.hid hRL
 have HRE:=Lib.hid hrr
 have HZ:=Lib.hid hZ
 have HB0:=Lib.hid hB0
 clear hS hRN hRL hZ hB0
 obtain rfl:x=62:=by rw [←hx,hc0];rfl
 have HC1:=Lib.hid (hc (f+1) h1)
 have e2:=zat h2 62 rfl
 generalize (bs.getD (f+1) 0).toNat=y at *
 have hn1:decide ((f:Int)+1<bs.length)=true:=decide_eq_true (by omega)
 have hn1i:(f:Int)+1<bs.length:=by omega
 have hn2:((f:Int)+1==(bs.length:Int))=false:=by rw [beq_eq_false_iff_ne];omega
 have hn3:decide ((f:Int)+1=(bs.length:Int))=false:=decide_eq_false (by omega)
 have HDL:=Lib.hid (fun W=>zaL 62 W)
 rw [show dlI 62=true from rfl] at HDL
 clear h1 h2
 clear hr hf hR hrr hrl hk0 hk1 hc hV hx
 go_enter Tryz.func44,Tryz.ntmps44
 go_wp2_with fail
 refine (HS.out _ HB0.out).mono ?_
 rintro e w' ⟨rfl,rfl⟩
 rw [←HRE.out]
 generalize w.alloc _=W1 at *
 obtain ⟨hcj1,hcj,hbn,hbl,hX⟩:=zau hbW HRE.out HB0.out hcf HZ.out
 have HX:=Lib.hid hX
 clear hcf hX
 go_wp2_with fail
 refine (HRN.out _ HX.out.bel).mono ?_
 rintro e w' ⟨rfl,rfl⟩
 clear hcj1 hcj hbn hbl
 generalize W1.alloc _=W2 at *
 generalize W1.heap.size=p at *
 clear HZ HB0
 have hc1:=cell?_keep HX.out.bel HC1.out
 obtain ⟨⟨k0,k1,k2,k3,k4,k5,k6,k7⟩,m0,m1,m2,m3,m4,m5,m6,m7⟩:=zaf HX.out.blk
 obtain ⟨⟨n0,n1,n2,n3,n4,n5,n6,n7⟩,-⟩:=zaf HX.out.no
 go_wp2_with (go_at_call 73;refine (HDL.out _).mono ?_;rintro e w' ⟨rfl,rfl⟩)
 refine bodyPost_ret (zaa rfl _ _ r 91 _ (0,0) _ rfl (set8 HX.out.blk _ _ _ _ _ _ _ _) Tryz.underlying91 rfl zaq _ rfl) rfl ?_
 exact zar (x:={ kind:=0 }) HX.out.bel HX.out.wr HV.out _ _ _ _ _ _ _ _
theorem rnext_dl {w:World} {a:Option Addr} {cap:Nat} {bs:List UInt8} (hr:Row w 1 a bs.length cap (bs.map u8C)) (hn:bs.length≤400000) {k:Int} (last:Bool) (hk0:0≤k) (hk1:k≤bs.length) {f:Nat} (hf:zaF bs k=f) (hfl:f<bs.length) {V:Tk×Int×Int×Int} (hV:V=zbf bs f last) (hd:isDl (bs.getD f 0)=true) (n1:bs.getD f 0≠91) (n2:bs.getD f 0≠93) (n3:bs.getD f 0≠60) (n4:bs.getD f 0≠62) (n5:bs.getD f 0≠40) (n6:bs.getD f 0≠47) :
   Calls Tryz.prog 44 #[.slice a bs.length cap,.int .i64 k,.bool last] w (zax w V):=by
 have HV:=Lib.hid (hV.trans (zaV (e:=11) hfl rfl (by rw [tokV_no _ _ _ (by unfold isRg;rw [hd];simp) n1 n2 n3 n4 n5 n6]) (by decide)))
 obtain ⟨b,off,R,r,x,rfl,hbW,hx,hR,hRL,hrr,hcap,hcm,hkd,hkd2,hff,hffn,hfi,hf9,hrl,hS,hRN,hc,hcf,hZ,hB0⟩:=zaA hr hn hk0 hk1 hf hfl
 have HRW:=Lib.hid hr
 have HC:=Lib.hid hc
 have HS:=Lib.hid hS
 have HRN:=Lib.hid hRN
 have HRR:=Lib.hid hR
 have HRL:=Lib.hid hRL
 have HRE:=Lib.hid hrr
 have HZ:=Lib.hid hZ
 have HB0:=Lib.hid hB0
 clear hS hRN hRL hZ hB0
 have e1:=zat n1 91 rfl
 have e2:=zat n2 93 rfl
 have e3:=zat n3 60 rfl
 have e4:=zat n4 62 rfl
 have e5:=zat n5 40 rfl
 have e6:=zat n6 47 rfl
 have HDL:=Lib.hid (fun W=>zaL (bs.getD f 0).toNat W)
 rw [←zbW,hd] at HDL
 rw [hx] at HDL e1 e2 e3 e4 e5 e6
 clear hd n1 n2 n3 n4 n5 n6
 clear hr hf hR hrr hrl hk0 hk1 hc hV hx
 go_enter Tryz.func44,Tryz.ntmps44
 go_wp2_with fail
 refine (HS.out _ HB0.out).mono ?_
 rintro e w' ⟨rfl,rfl⟩
 rw [←HRE.out]
 generalize w.alloc _=W1 at *
 obtain ⟨hcj1,hcj,hbn,hbl,hX⟩:=zau hbW HRE.out HB0.out hcf HZ.out
 have HX:=Lib.hid hX
 clear hcf hX
 go_wp2_with fail
 refine (HRN.out _ HX.out.bel).mono ?_
 rintro e w' ⟨rfl,rfl⟩
 clear hcj1 hcj hbn hbl
 generalize W1.alloc _=W2 at *
 generalize W1.heap.size=p at *
 clear HZ HB0
 obtain ⟨⟨k0,k1,k2,k3,k4,k5,k6,k7⟩,m0,m1,m2,m3,m4,m5,m6,m7⟩:=zaf HX.out.blk
 obtain ⟨⟨n0,n1,n2,n3,n4,n5,n6,n7⟩,-⟩:=zaf HX.out.no
 go_wp2_with (go_at_call 73;refine (HDL.out _).mono ?_;rintro e w' ⟨rfl,rfl⟩)
 refine bodyPost_ret (zaa rfl _ _ r 91 _ (0,0) _ rfl (set8 HX.out.blk _ _ _ _ _ _ _ _) Tryz.underlying91 rfl zaq _ rfl) rfl ?_
 exact zar (x:={ kind:=0 }) HX.out.bel HX.out.wr HV.out _ _ _ _ _ _ _ _
theorem rnext_hexend {w:World} {a:Option Addr} {cap:Nat} {bs:List UInt8} (hr:Row w 1 a bs.length cap (bs.map u8C)) (hn:bs.length≤400000) {k:Int} (last:Bool) (hk0:0≤k) (hk1:k≤bs.length) {f:Nat} (hf:zaF bs k=f) (hfl:f<bs.length) {V:Tk×Int×Int×Int} (hV:V=zbf bs f last) (hc0:bs.getD f 0=60) (h1:¬f+1<bs.length) :
   Calls Tryz.prog 44 #[.slice a bs.length cap,.int .i64 k,.bool last] w (zax w V):=by
 obtain ⟨H,hH⟩:∃H,hexV [] (-1) (bs.drop (f+1))=H:=⟨_,rfl⟩
 have HH:=Lib.hid hH
 have ht:tokV last 60 (bs.drop (f+1))=hexK last H:=by rw [←hH];exact tokV_60 last _ (fun u e=>by rw [za9 h1] at e;cases e)
 have HT:=Lib.hid ht
 have HC0:=Lib.hid hc0
 have HVV:=Lib.hid hV
 have HFL:=Lib.hid hfl
 clear ht hH
 obtain ⟨b,off,R,r,x,rfl,hbW,hx,hR,hRL,hrr,hcap,hcm,hkd,hkd2,hff,hffn,hfi,hf9,hrl,hS,hRN,hc,hcf,hZ,hB0⟩:=zaA hr hn hk0 hk1 hf hfl
 have HRW:=Lib.hid hr
 have HC:=Lib.hid hc
 have HS:=Lib.hid hS
 have HRN:=Lib.hid hRN
 have HRR:=Lib.hid hR
 have HRL:=Lib.hid hRL
 have HRE:=Lib.hid hrr
 have HZ:=Lib.hid hZ
 have HB0:=Lib.hid hB0
 clear hS hRN hRL hZ hB0
 obtain rfl:x=60:=by rw [←hx,hc0];rfl
 have HF1:=Lib.hid (show f+1≤bs.length by omega)
 have hn1:decide ((f:Int)+1<bs.length)=false:=decide_eq_false (by omega)
 clear h1
 clear hr hf hR hrr hrl hk0 hk1 hc hV hx
 go_enter Tryz.func44,Tryz.ntmps44
 go_wp2_with fail
 refine (HS.out _ HB0.out).mono ?_
 rintro e w' ⟨rfl,rfl⟩
 rw [←HRE.out]
 generalize w.alloc _=W1 at *
 obtain ⟨hcj1,hcj,hbn,hbl,hX⟩:=zau hbW HRE.out HB0.out hcf HZ.out
 have HX:=Lib.hid hX
 clear hcf hX
 go_wp2_with fail
 refine (HRN.out _ HX.out.bel).mono ?_
 rintro e w' ⟨rfl,rfl⟩
 clear hcj1 hcj hbn hbl
 generalize W1.alloc _=W2 at *
 generalize W1.heap.size=p at *
 clear HZ HB0
 go_wp2_with fail
 have HHX:=Lib.hid (zdV (HRW.out.mono HX.out.bel) hn (f+1) HF1.out last)
 rw [HH.out] at HHX
 unfold zcT at HHX
 refine HHX.out.mono ?_
 rintro e w3 ⟨hb3,h3⟩
 have HX3:=Lib.hid (HX.out.on hb3)
 clear hb3 HHX
 rcases h3 with ⟨h1,rfl⟩|⟨h1,rfl⟩|⟨h1,v,rfl,hO,hl⟩
 · have HV := Lib.hid (HVV.out.trans (zaV (e := za1 last) HFL.out HC0.out (by rw [HT.out]; unfold hexK; rw [if_neg (by rw [h1]; decide), if_pos h1]) (zc7 last)))
   have ho1:(za1 last != 0)=true:=by cases last<;>rfl
   generalize za1 last=oe at *
   clear h1
   obtain ⟨⟨k0,k1,k2,k3,k4,k5,k6,k7⟩,m0,m1,m2,m3,m4,m5,m6,m7⟩:=zaf HX3.out.blk
   obtain ⟨⟨n0,n1,n2,n3,n4,n5,n6,n7⟩,-⟩:=zaf HX3.out.no
   go_wp2
   refine bodyPost_ret (zaa rfl _ _ r 91 _ (0,0) _ rfl (set8 HX3.out.blk _ _ _ _ _ _ _ _) Tryz.underlying91 rfl zaq _ rfl) rfl ?_
   exact zar (x:={ kind:=0 }) HX3.out.bel HX3.out.wr HV.out _ _ _ _ _ _ _ _
 · have HV := Lib.hid (HVV.out.trans (zaV (e := 11) HFL.out HC0.out (by rw [HT.out]; unfold hexK; rw [if_neg (by rw [h1]; decide), if_neg (by rw [h1]; decide)]) (by decide)))
   clear h1
   obtain ⟨⟨k0,k1,k2,k3,k4,k5,k6,k7⟩,m0,m1,m2,m3,m4,m5,m6,m7⟩:=zaf HX3.out.blk
   obtain ⟨⟨n0,n1,n2,n3,n4,n5,n6,n7⟩,-⟩:=zaf HX3.out.no
   go_wp2
   refine bodyPost_ret (zaa rfl _ _ r 91 _ (0,0) _ rfl (set8 HX3.out.blk _ _ _ _ _ _ _ _) Tryz.underlying91 rfl zaq _ rfl) rfl ?_
   exact zar (x:={ kind:=0 }) HX3.out.bel HX3.out.wr HV.out _ _ _ _ _ _ _ _
 · have HV := Lib.hid (HVV.out.trans (zfk HFL.out HC0.out (x := { kind := 1, vk := 4, vs := H.2.1 }) (r := H.2.2) (by rw [HT.out]; unfold hexK; rw [if_pos h1]) hl))
   have hcv:=zdR hO
   obtain ⟨a3,c3,hv3,-⟩:=Row.of_owns hO
   subst hv3
   clear h1 hO hl
   obtain ⟨⟨k0,k1,k2,k3,k4,k5,k6,k7⟩,m0,m1,m2,m3,m4,m5,m6,m7⟩:=zaf HX3.out.blk
   obtain ⟨⟨n0,n1,n2,n3,n4,n5,n6,n7⟩,-⟩:=zaf HX3.out.no
   go_wp2
   refine bodyPost_ret (zaa rfl _ _ r 91 _ (0,0) _ rfl (set8 HX3.out.blk _ _ _ _ _ _ _ _) Tryz.underlying91 rfl zaq _ rfl) rfl ?_
   exact zar (x:={ kind:=1,vk:=4,vs:=H.2.1 }) HX3.out.bel HX3.out.wr HV.out _ _ _ _ _ _ _ _
theorem rnext_hex {w:World} {a:Option Addr} {cap:Nat} {bs:List UInt8} (hr:Row w 1 a bs.length cap (bs.map u8C)) (hn:bs.length≤400000) {k:Int} (last:Bool) (hk0:0≤k) (hk1:k≤bs.length) {f:Nat} (hf:zaF bs k=f) (hfl:f<bs.length) {V:Tk×Int×Int×Int} (hV:V=zbf bs f last) (hc0:bs.getD f 0=60) (h1:f+1<bs.length) (h2:bs.getD (f+1) 0≠60) :
   Calls Tryz.prog 44 #[.slice a bs.length cap,.int .i64 k,.bool last] w (zax w V):=by
 obtain ⟨H,hH⟩:∃H,hexV [] (-1) (bs.drop (f+1))=H:=⟨_,rfl⟩
 have HH:=Lib.hid hH
 have ht:tokV last 60 (bs.drop (f+1))=hexK last H:=by rw [←hH];exact tokV_60 last _ (fun u e=>by rw [zaw h1] at e;exact h2 (List.cons.inj e).1)
 have HT:=Lib.hid ht
 have HC0:=Lib.hid hc0
 have HVV:=Lib.hid hV
 have HFL:=Lib.hid hfl
 clear ht hH
 obtain ⟨b,off,R,r,x,rfl,hbW,hx,hR,hRL,hrr,hcap,hcm,hkd,hkd2,hff,hffn,hfi,hf9,hrl,hS,hRN,hc,hcf,hZ,hB0⟩:=zaA hr hn hk0 hk1 hf hfl
 have HRW:=Lib.hid hr
 have HC:=Lib.hid hc
 have HS:=Lib.hid hS
 have HRN:=Lib.hid hRN
 have HRR:=Lib.hid hR
 have HRL:=Lib.hid hRL
 have HRE:=Lib.hid hrr
 have HZ:=Lib.hid hZ
 have HB0:=Lib.hid hB0
 clear hS hRN hRL hZ hB0
 obtain rfl:x=60:=by rw [←hx,hc0];rfl
 have HF1:=Lib.hid (show f+1≤bs.length by omega)
 have HC1:=Lib.hid (hc (f+1) h1)
 have e2:=zat h2 60 rfl
 generalize (bs.getD (f+1) 0).toNat=y at *
 have hn1:decide ((f:Int)+1<bs.length)=true:=decide_eq_true (by omega)
 have hn1i:(f:Int)+1<bs.length:=by omega
 clear h1 h2
 clear hr hf hR hrr hrl hk0 hk1 hc hV hx
 go_enter Tryz.func44,Tryz.ntmps44
 go_wp2_with fail
 refine (HS.out _ HB0.out).mono ?_
 rintro e w' ⟨rfl,rfl⟩
 rw [←HRE.out]
 generalize w.alloc _=W1 at *
 obtain ⟨hcj1,hcj,hbn,hbl,hX⟩:=zau hbW HRE.out HB0.out hcf HZ.out
 have HX:=Lib.hid hX
 clear hcf hX
 go_wp2_with fail
 refine (HRN.out _ HX.out.bel).mono ?_
 rintro e w' ⟨rfl,rfl⟩
 clear hcj1 hcj hbn hbl
 generalize W1.alloc _=W2 at *
 generalize W1.heap.size=p at *
 clear HZ HB0
 have hc1:=cell?_keep HX.out.bel HC1.out
 go_wp2_with fail
 have HHX:=Lib.hid (zdV (HRW.out.mono HX.out.bel) hn (f+1) HF1.out last)
 rw [HH.out] at HHX
 unfold zcT at HHX
 refine HHX.out.mono ?_
 rintro e w3 ⟨hb3,h3⟩
 have HX3:=Lib.hid (HX.out.on hb3)
 clear hb3 HHX
 rcases h3 with ⟨h1,rfl⟩|⟨h1,rfl⟩|⟨h1,v,rfl,hO,hl⟩
 · have HV := Lib.hid (HVV.out.trans (zaV (e := za1 last) HFL.out HC0.out (by rw [HT.out]; unfold hexK; rw [if_neg (by rw [h1]; decide), if_pos h1]) (zc7 last)))
   have ho1:(za1 last != 0)=true:=by cases last<;>rfl
   generalize za1 last=oe at *
   clear h1
   obtain ⟨⟨k0,k1,k2,k3,k4,k5,k6,k7⟩,m0,m1,m2,m3,m4,m5,m6,m7⟩:=zaf HX3.out.blk
   obtain ⟨⟨n0,n1,n2,n3,n4,n5,n6,n7⟩,-⟩:=zaf HX3.out.no
   go_wp2
   refine bodyPost_ret (zaa rfl _ _ r 91 _ (0,0) _ rfl (set8 HX3.out.blk _ _ _ _ _ _ _ _) Tryz.underlying91 rfl zaq _ rfl) rfl ?_
   exact zar (x:={ kind:=0 }) HX3.out.bel HX3.out.wr HV.out _ _ _ _ _ _ _ _
 · have HV := Lib.hid (HVV.out.trans (zaV (e := 11) HFL.out HC0.out (by rw [HT.out]; unfold hexK; rw [if_neg (by rw [h1]; decide), if_neg (by rw [h1]; decide)]) (by decide)))
   clear h1
   obtain ⟨⟨k0,k1,k2,k3,k4,k5,k6,k7⟩,m0,m1,m2,m3,m4,m5,m6,m7⟩:=zaf HX3.out.blk
   obtain ⟨⟨n0,n1,n2,n3,n4,n5,n6,n7⟩,-⟩:=zaf HX3.out.no
   go_wp2
   refine bodyPost_ret (zaa rfl _ _ r 91 _ (0,0) _ rfl (set8 HX3.out.blk _ _ _ _ _ _ _ _) Tryz.underlying91 rfl zaq _ rfl) rfl ?_
   exact zar (x:={ kind:=0 }) HX3.out.bel HX3.out.wr HV.out _ _ _ _ _ _ _ _
 · have HV := Lib.hid (HVV.out.trans (zfk HFL.out HC0.out (x := { kind := 1, vk := 4, vs := H.2.1 }) (r := H.2.2) (by rw [HT.out]; unfold hexK; rw [if_pos h1]) hl))
   have hcv:=zdR hO
   obtain ⟨a3,c3,hv3,-⟩:=Row.of_owns hO
   subst hv3
   clear h1 hO hl
   obtain ⟨⟨k0,k1,k2,k3,k4,k5,k6,k7⟩,m0,m1,m2,m3,m4,m5,m6,m7⟩:=zaf HX3.out.blk
   obtain ⟨⟨n0,n1,n2,n3,n4,n5,n6,n7⟩,-⟩:=zaf HX3.out.no
   go_wp2
   refine bodyPost_ret (zaa rfl _ _ r 91 _ (0,0) _ rfl (set8 HX3.out.blk _ _ _ _ _ _ _ _) Tryz.underlying91 rfl zaq _ rfl) rfl ?_
   exact zar (x:={ kind:=1,vk:=4,vs:=H.2.1 }) HX3.out.bel HX3.out.wr HV.out _ _ _ _ _ _ _ _
theorem rnext_text {w:World} {a:Option Addr} {cap:Nat} {bs:List UInt8} (hr:Row w 1 a bs.length cap (bs.map u8C)) (hn:bs.length≤400000) {k:Int} (last:Bool) (hk0:0≤k) (hk1:k≤bs.length) {f:Nat} (hf:zaF bs k=f) (hfl:f<bs.length) {V:Tk×Int×Int×Int} (hV:V=zbf bs f last) (hc0:bs.getD f 0=40) :
   Calls Tryz.prog 44 #[.slice a bs.length cap,.int .i64 k,.bool last] w (zax w V):=by
 obtain ⟨H,hH⟩:∃H,zbb last 1 [] (bs.drop (f+1))=H:=⟨_,rfl⟩
 have HH:=Lib.hid hH
 have HT:=Lib.hid (show tokV last 40 (bs.drop (f+1))=txK last H by rw [tokV_text,hH])
 have HC0:=Lib.hid hc0
 have HVV:=Lib.hid hV
 have HFL:=Lib.hid hfl
 clear hH
 obtain ⟨b,off,R,r,x,rfl,hbW,hx,hR,hRL,hrr,hcap,hcm,hkd,hkd2,hff,hffn,hfi,hf9,hrl,hS,hRN,hc,hcf,hZ,hB0⟩:=zaA hr hn hk0 hk1 hf hfl
 have HRW:=Lib.hid hr
 have HC:=Lib.hid hc
 have HS:=Lib.hid hS
 have HRN:=Lib.hid hRN
 have HRR:=Lib.hid hR
 have HRL:=Lib.hid hRL
 have HRE:=Lib.hid hrr
 have HZ:=Lib.hid hZ
 have HB0:=Lib.hid hB0
 clear hS hRN hRL hZ hB0
 obtain rfl:x=40:=by rw [←hx,hc0];rfl
 have HF1:=Lib.hid (show f+1≤bs.length by omega)
 clear hr hf hR hrr hrl hk0 hk1 hc hV hx
 go_enter Tryz.func44,Tryz.ntmps44
 go_wp2_with fail
 refine (HS.out _ HB0.out).mono ?_
 rintro e w' ⟨rfl,rfl⟩
 rw [←HRE.out]
 generalize w.alloc _=W1 at *
 obtain ⟨hcj1,hcj,hbn,hbl,hX⟩:=zau hbW HRE.out HB0.out hcf HZ.out
 have HX:=Lib.hid hX
 clear hcf hX
 go_wp2_with fail
 refine (HRN.out _ HX.out.bel).mono ?_
 rintro e w' ⟨rfl,rfl⟩
 clear hcj1 hcj hbn hbl
 generalize W1.alloc _=W2 at *
 generalize W1.heap.size=p at *
 clear HZ HB0
 go_wp2_with fail
 refine (zdV (HRW.out.mono HX.out.bel) hn (f+1) HF1.out last).mono ?_
 intro e w3 h3
 obtain ⟨v3,n3,er3,rfl,hb3⟩:=h3.some_end
 have HX3:=Lib.hid (HX.out.on hb3)
 clear hb3 h3
 go_wp2_with fail
 have HTX:=Lib.hid (rtext_any (HRW.out.mono HX3.out.bel) hn (f+1) HF1.out last)
 rw [HH.out] at HTX
 unfold zgy at HTX
 refine HTX.out.mono ?_
 clear HTX HH
 cases H with
 | none =>
   rintro e w4 ⟨hb4,rfl⟩
   have HX4:=Lib.hid (HX3.out.on hb4)
   have HV:=Lib.hid (HVV.out.trans (zaV (e:=za1 last) HFL.out HC0.out (by rw [HT.out];rfl) (zc7 last)))
   have ho1:(za1 last != 0)=true:=by cases last<;>rfl
   generalize za1 last=oe at *
   clear hb4
   obtain ⟨⟨k0,k1,k2,k3,k4,k5,k6,k7⟩,m0,m1,m2,m3,m4,m5,m6,m7⟩:=zaf HX4.out.blk
   obtain ⟨⟨n0,n1,n2,n3,n4,n5,n6,n7⟩,-⟩:=zaf HX4.out.no
   go_wp2
   refine bodyPost_ret (zaa rfl _ _ r 91 _ (0,0) _ rfl (set8 HX4.out.blk _ _ _ _ _ _ _ _) Tryz.underlying91 rfl zaq _ rfl) rfl ?_
   exact zar (x:={ kind:=0 }) HX4.out.bel HX4.out.wr HV.out _ _ _ _ _ _ _ _
 | some y =>
   obtain ⟨o,rr⟩:=y
   rintro e w4 ⟨hb4,v,rfl,hO,hl⟩
   have HX4:=Lib.hid (HX3.out.on hb4)
   have HV:=Lib.hid (HVV.out.trans (zfk HFL.out HC0.out (x:={ kind:=1,vk:=4,vs:=o }) (r:=rr) (by rw [HT.out];rfl) hl))
   have hcv:=zdR hO
   obtain ⟨a3,c3,hv3,-⟩:=Row.of_owns hO
   subst hv3
   clear hb4 hO hl
   obtain ⟨⟨k0,k1,k2,k3,k4,k5,k6,k7⟩,m0,m1,m2,m3,m4,m5,m6,m7⟩:=zaf HX4.out.blk
   obtain ⟨⟨n0,n1,n2,n3,n4,n5,n6,n7⟩,-⟩:=zaf HX4.out.no
   go_wp2
   refine bodyPost_ret (zaa rfl _ _ r 91 _ (0,0) _ rfl (set8 HX4.out.blk _ _ _ _ _ _ _ _) Tryz.underlying91 rfl zaq _ rfl) rfl ?_
   exact zar (x:={ kind:=1,vk:=4,vs:=o }) HX4.out.bel HX4.out.wr HV.out _ _ _ _ _ _ _ _
theorem Row.cut {α:Type} {enc:α→Value} {w:World} {b off n cap:Nat} {l:List α} (h:Row w 1 (some ⟨b,off,none⟩) n cap (l.map enc)) (lo m:Nat) (hm:lo+m≤n):Row w 1 (some ⟨b,off+lo,none⟩) ((l.drop lo).take m).length (cap-lo) (((l.drop lo).take m).map enc):=by
 have hl:=h.len1
 obtain ⟨h1,h2,h3,h4,h5⟩:=h
 have e:((l.drop lo).take m).length=m:=by rw [List.length_take,List.length_drop];omega
 rw [e]
 refine ⟨by simp;omega,by omega,by omega,fun h=>(by cases h),fun h0=>?_⟩
 obtain ⟨b',off',ha,hb,hc⟩:=h5 (by omega)
 cases ha
 refine ⟨b,off+lo,rfl,hb,fun j u hj=>?_⟩
 rw [Nat.add_assoc]
 refine hc (lo+j) u ?_
 rw [List.getElem?_map] at hj ⊢
 obtain ⟨x,hx,hxu⟩:=Option.map_eq_some_iff.1 hj
 rw [List.getElem?_take] at hx
 split at hx
 · rw [List.getElem?_drop] at hx
   rw [hx];exact congrArg some hxu
 · cases hx
def nmK (N:Option (List UInt8)) (r:List UInt8):Int×Tk×List UInt8:=match N with
 | none=>(17,{ kind:=0 },[])
 | some o=>(0,{ kind:=1,vk:=5,vs:=o },r)
theorem tokV_name {last:Bool} {t:List UInt8} {N:Option (List UInt8)} (h:¬(runN t=t.length∧last=false)) (hN:zdc (regs t)=N):tokV last 47 t=nmK N (t.drop (runN t)):=by
 rw [zd0];unfold slV;rw [if_neg h,hN]
 cases N<;>rfl
theorem Row.none1 {α:Type} {enc:α→Value} (w:World) (a:Addr):Row w 1 (some a) ([]:List α).length 0 (([]:List α).map enc):=⟨rfl,Nat.le_refl _,by unfold maxLen;omega,fun h=>(by cases h),fun h=>absurd h (by simp)⟩
theorem zfr {w:World} {a:Option Addr} {cap:Nat} {bs:List UInt8} (hr:Row w 1 a bs.length cap (bs.map u8C)) (hn:bs.length≤400000) {k:Int} (last:Bool) (hk0:0≤k) (hk1:k≤bs.length) {f:Nat} (hf:zaF bs k=f) (hfl:f<bs.length) {V:Tk×Int×Int×Int} (hV:V=zbf bs f last) (hc0:bs.getD f 0=47) (h1:f+1+runN (bs.drop (f+1))=bs.length) (hla:last=false) :
   Calls Tryz.prog 44 #[.slice a bs.length cap,.int .i64 k,.bool last] w (zax w V):=by
 have HV:=Lib.hid (hV.trans (zaV (e:=6) hfl hc0 (by rw [zd0];unfold slV;rw [if_pos ⟨by rw [List.length_drop];omega,hla⟩]) (by decide)))
 subst hla
 obtain ⟨b,off,R,r,x,rfl,hbW,hx,hR,hRL,hrr,hcap,hcm,hkd,hkd2,hff,hffn,hfi,hf9,hrl,hS,hRN,hc,hcf,hZ,hB0⟩:=zaA hr hn hk0 hk1 hf hfl
 have HRW:=Lib.hid hr
 have HC:=Lib.hid hc
 have HS:=Lib.hid hS
 have HRN:=Lib.hid hRN
 have HRR:=Lib.hid hR
 have HRL:=Lib.hid hRL
 have HRE:=Lib.hid hrr
 have HZ:=Lib.hid hZ
 have HB0:=Lib.hid hB0
 clear hS hRN hRL hZ hB0
 obtain rfl:x=47:=by rw [←hx,hc0];rfl
 have hrl2:=zbh (bs.drop (f+1))
 rw [List.length_drop] at hrl2
 have HRN2:=Lib.hid (fun (W:World) (h:Below w.heap.size w W)=>zdC (HRW.out.mono h) hn (f+1) (by omega))
 obtain ⟨E,hE⟩:∃E,E=f+1+runN (bs.drop (f+1)):=⟨_,rfl⟩
 rw [←hE] at HRN2
 have hEl:E≤bs.length:=by omega
 have hEf:f+1≤E:=by omega
 obtain rfl:E=bs.length:=hE.trans h1
 clear h1 hE hrl2
 clear hr hf hR hrr hrl hk0 hk1 hc hV hx
 go_enter Tryz.func44,Tryz.ntmps44
 go_wp2_with fail
 refine (HS.out _ HB0.out).mono ?_
 rintro e w' ⟨rfl,rfl⟩
 rw [←HRE.out]
 generalize w.alloc _=W1 at *
 obtain ⟨hcj1,hcj,hbn,hbl,hX⟩:=zau hbW HRE.out HB0.out hcf HZ.out
 have HX:=Lib.hid hX
 clear hcf hX
 go_wp2_with fail
 refine (HRN.out _ HX.out.bel).mono ?_
 rintro e w' ⟨rfl,rfl⟩
 clear hcj1 hcj hbn hbl
 generalize W1.alloc _=W2 at *
 generalize W1.heap.size=p at *
 clear HZ HB0
 go_wp2_with fail
 refine (HRN2.out _ HX.out.bel).mono ?_
 rintro e w' ⟨rfl,rfl⟩
 obtain ⟨⟨k0,k1,k2,k3,k4,k5,k6,k7⟩,m0,m1,m2,m3,m4,m5,m6,m7⟩:=zaf HX.out.blk
 obtain ⟨⟨n0,n1,n2,n3,n4,n5,n6,n7⟩,-⟩:=zaf HX.out.no
 go_wp2
 refine bodyPost_ret (zaa rfl _ _ r 91 _ (0,0) _ rfl (set8 HX.out.blk _ _ _ _ _ _ _ _) Tryz.underlying91 rfl zaq _ rfl) rfl ?_
 exact zar (x:={ kind:=0 }) HX.out.bel HX.out.wr HV.out _ _ _ _ _ _ _ _
theorem rnext_name {w:World} {a:Option Addr} {cap:Nat} {bs:List UInt8} (hr:Row w 1 a bs.length cap (bs.map u8C)) (hn:bs.length≤400000) {k:Int} (last:Bool) (hk0:0≤k) (hk1:k≤bs.length) {f:Nat} (hf:zaF bs k=f) (hfl:f<bs.length) {V:Tk×Int×Int×Int} (hV:V=zbf bs f last) (hc0:bs.getD f 0=47) (hne:f+1+runN (bs.drop (f+1))=bs.length→last=false→False) (h1:f+1+runN (bs.drop (f+1))≠bs.length) (hcf1:¬cap=f+1) :
   Calls Tryz.prog 44 #[.slice a bs.length cap,.int .i64 k,.bool last] w (zax w V):=by
 obtain ⟨N,hN⟩:∃N,zdc (regs (bs.drop (f+1)))=N:=⟨_,rfl⟩
 have ht:tokV last 47 (bs.drop (f+1))=nmK N (bs.drop (f+1+runN (bs.drop (f+1)))):=by
   rw [tokV_name (fun h=>hne (by have h1:=h.1;rw [List.length_drop] at h1;omega) h.2) hN,List.drop_drop]
 have HT:=Lib.hid ht
 have HN:=Lib.hid hN
 have HC0:=Lib.hid hc0
 have HVV:=Lib.hid hV
 have HFL:=Lib.hid hfl
 clear ht hN hne
 obtain ⟨b,off,R,r,x,rfl,hbW,hx,hR,hRL,hrr,hcap,hcm,hkd,hkd2,hff,hffn,hfi,hf9,hrl,hS,hRN,hc,hcf,hZ,hB0⟩:=zaA hr hn hk0 hk1 hf hfl
 have HRW:=Lib.hid hr
 have HC:=Lib.hid hc
 have HS:=Lib.hid hS
 have HRN:=Lib.hid hRN
 have HRR:=Lib.hid hR
 have HRL:=Lib.hid hRL
 have HRE:=Lib.hid hrr
 have HZ:=Lib.hid hZ
 have HB0:=Lib.hid hB0
 clear hS hRN hRL hZ hB0
 obtain rfl:x=47:=by rw [←hx,hc0];rfl
 have hrl2:=zbh (bs.drop (f+1))
 rw [List.length_drop] at hrl2
 have HRN2:=Lib.hid (fun (W:World) (h:Below w.heap.size w W)=>zdC (HRW.out.mono h) hn (f+1) (by omega))
 obtain ⟨E,hE⟩:∃E,E=f+1+runN (bs.drop (f+1)):=⟨_,rfl⟩
 rw [←hE] at HRN2
 have hEl:E≤bs.length:=by omega
 have hEf:f+1≤E:=by omega
 rw [←hE] at HT
 have HEL:=Lib.hid hEl
 have q1:((E:Int)==(bs.length:Int))=false:=by rw [beq_eq_false_iff_ne];omega
 have q2:decide (E=bs.length)=false:=decide_eq_false (by omega)
 have HCU:=Lib.hid (fun (W:World) (h:Below w.heap.size w W)=>(HRW.out.mono h).cut (f+1) (E-(f+1)) (by omega))
 have hrg:(bs.drop (f+1)).take (E-(f+1))=regs (bs.drop (f+1)):=by rw [za7,hE,Nat.add_sub_cancel_left]
 rw [hrg] at HCU
 have hrgl:(regs (bs.drop (f+1))).length=E-(f+1):=by show runN _=_;omega
 have HGL:=Lib.hid hrgl
 have hce:¬cap=f+1:=hcf1
 clear hcf1 hrg hrgl
 clear h1 hE hrl2
 clear hr hf hR hrr hrl hk0 hk1 hc hV hx
 go_enter Tryz.func44,Tryz.ntmps44
 go_wp2_with fail
 refine (HS.out _ HB0.out).mono ?_
 rintro e w' ⟨rfl,rfl⟩
 rw [←HRE.out]
 generalize w.alloc _=W1 at *
 obtain ⟨hcj1,hcj,hbn,hbl,hX⟩:=zau hbW HRE.out HB0.out hcf HZ.out
 have HX:=Lib.hid hX
 clear hcf hX
 go_wp2_with fail
 refine (HRN.out _ HX.out.bel).mono ?_
 rintro e w' ⟨rfl,rfl⟩
 clear hcj1 hcj hbn hbl
 generalize W1.alloc _=W2 at *
 generalize W1.heap.size=p at *
 clear HZ HB0
 go_wp2_with fail
 refine (HRN2.out _ HX.out.bel).mono ?_
 rintro e w' ⟨rfl,rfl⟩
 have HNM:=Lib.hid (zeR (HCU.out _ HX.out.bel) (by rw [HGL.out];omega))
 rw [HGL.out] at HNM
 rw [HN.out] at HNM
 unfold zde at HNM
 go_wp2_with fail
 refine HNM.out.mono ?_
 clear HNM HN
 cases N with
 | none =>
   rintro e w3 ⟨hb3,rfl⟩
   unfold valC zba
   have HX3:=Lib.hid ((HX.out.on hb3).alloc (.cells #[.int .i64 0,.int .i64 0,.string ⟨#[]⟩,.slice none 0 0] 48))
   have HV:=Lib.hid (HVV.out.trans (zaV (e:=17) HFL.out HC0.out (by rw [HT.out];rfl) (by decide)))
   clear hb3
   obtain ⟨⟨k0,k1,k2,k3,k4,k5,k6,k7⟩,m0,m1,m2,m3,m4,m5,m6,m7⟩:=zaf HX3.out.blk
   obtain ⟨⟨n0,n1,n2,n3,n4,n5,n6,n7⟩,-⟩:=zaf HX3.out.no
   go_wp2
   refine bodyPost_ret (zaa rfl _ _ r 91 _ (0,0) _ rfl (set8 HX3.out.blk _ _ _ _ _ _ _ _) Tryz.underlying91 rfl zaq _ rfl) rfl ?_
   exact zar (x:={ kind:=0 }) HX3.out.bel HX3.out.wr HV.out _ _ _ _ _ _ _ _
 | some o =>
   rintro e w3 ⟨hb3,rfl⟩
   unfold valC
   have HX3:=Lib.hid ((HX.out.on hb3).alloc (.cells #[.int .i64 5,.int .i64 0,.string (mkB o),.slice none 0 0] 48))
   have HV:=Lib.hid (HVV.out.trans (za2 HFL.out HC0.out (x:={ kind:=1,vk:=5,vs:=o }) (j:=E) (by rw [HT.out];rfl) HEL.out))
   clear hb3
   obtain ⟨⟨k0,k1,k2,k3,k4,k5,k6,k7⟩,m0,m1,m2,m3,m4,m5,m6,m7⟩:=zaf HX3.out.blk
   obtain ⟨⟨n0,n1,n2,n3,n4,n5,n6,n7⟩,-⟩:=zaf HX3.out.no
   go_wp2
   refine bodyPost_ret (zaa rfl _ _ r 91 _ (0,0) _ rfl (set8 HX3.out.blk _ _ _ _ _ _ _ _) Tryz.underlying91 rfl zaq _ rfl) rfl ?_
   exact zar (x:={ kind:=1,vk:=5,vs:=o }) HX3.out.bel HX3.out.wr HV.out _ _ _ _ _ _ _ _
theorem zfo {w:World} {a:Option Addr} {cap:Nat} {bs:List UInt8} (hr:Row w 1 a bs.length cap (bs.map u8C)) (hn:bs.length≤400000) {k:Int} (last:Bool) (hk0:0≤k) (hk1:k≤bs.length) {f:Nat} (hf:zaF bs k=f) (hfl:f<bs.length) {V:Tk×Int×Int×Int} (hV:V=zbf bs f last) (hc0:bs.getD f 0=47) (hne:f+1+runN (bs.drop (f+1))=bs.length→last=false→False) (h1:f+1+runN (bs.drop (f+1))=bs.length) (hla:last=true) (hcf1:¬cap=f+1) :
   Calls Tryz.prog 44 #[.slice a bs.length cap,.int .i64 k,.bool last] w (zax w V):=by
 obtain ⟨N,hN⟩:∃N,zdc (regs (bs.drop (f+1)))=N:=⟨_,rfl⟩
 have ht:tokV last 47 (bs.drop (f+1))=nmK N (bs.drop (f+1+runN (bs.drop (f+1)))):=by
   rw [tokV_name (fun h=>hne (by have h1:=h.1;rw [List.length_drop] at h1;omega) h.2) hN,List.drop_drop]
 have HT:=Lib.hid ht
 have HN:=Lib.hid hN
 have HC0:=Lib.hid hc0
 have HVV:=Lib.hid hV
 have HFL:=Lib.hid hfl
 clear ht hN hne
 obtain ⟨b,off,R,r,x,rfl,hbW,hx,hR,hRL,hrr,hcap,hcm,hkd,hkd2,hff,hffn,hfi,hf9,hrl,hS,hRN,hc,hcf,hZ,hB0⟩:=zaA hr hn hk0 hk1 hf hfl
 have HRW:=Lib.hid hr
 have HC:=Lib.hid hc
 have HS:=Lib.hid hS
 have HRN:=Lib.hid hRN
 have HRR:=Lib.hid hR
 have HRL:=Lib.hid hRL
 have HRE:=Lib.hid hrr
 have HZ:=Lib.hid hZ
 have HB0:=Lib.hid hB0
 clear hS hRN hRL hZ hB0
 obtain rfl:x=47:=by rw [←hx,hc0];rfl
 have hrl2:=zbh (bs.drop (f+1))
 rw [List.length_drop] at hrl2
 have HRN2:=Lib.hid (fun (W:World) (h:Below w.heap.size w W)=>zdC (HRW.out.mono h) hn (f+1) (by omega))
 obtain ⟨E,hE⟩:∃E,E=f+1+runN (bs.drop (f+1)):=⟨_,rfl⟩
 rw [←hE] at HRN2
 have hEl:E≤bs.length:=by omega
 have hEf:f+1≤E:=by omega
 rw [←hE] at HT
 have HEL:=Lib.hid hEl
 subst hla
 have HCU:=Lib.hid (fun (W:World) (h:Below w.heap.size w W)=>(HRW.out.mono h).cut (f+1) (E-(f+1)) (by omega))
 have hrg:(bs.drop (f+1)).take (E-(f+1))=regs (bs.drop (f+1)):=by rw [za7,hE,Nat.add_sub_cancel_left]
 rw [hrg] at HCU
 have hrgl:(regs (bs.drop (f+1))).length=E-(f+1):=by show runN _=_;omega
 have HGL:=Lib.hid hrgl
 have hce:¬cap=f+1:=hcf1
 clear hcf1 hrg hrgl
 obtain rfl:E=bs.length:=hE.trans h1
 clear h1 hE hrl2
 clear hr hf hR hrr hrl hk0 hk1 hc hV hx
 go_enter Tryz.func44,Tryz.ntmps44
 go_wp2_with fail
 refine (HS.out _ HB0.out).mono ?_
 rintro e w' ⟨rfl,rfl⟩
 rw [←HRE.out]
 generalize w.alloc _=W1 at *
 obtain ⟨hcj1,hcj,hbn,hbl,hX⟩:=zau hbW HRE.out HB0.out hcf HZ.out
 have HX:=Lib.hid hX
 clear hcf hX
 go_wp2_with fail
 refine (HRN.out _ HX.out.bel).mono ?_
 rintro e w' ⟨rfl,rfl⟩
 clear hcj1 hcj hbn hbl
 generalize W1.alloc _=W2 at *
 generalize W1.heap.size=p at *
 clear HZ HB0
 go_wp2_with fail
 refine (HRN2.out _ HX.out.bel).mono ?_
 rintro e w' ⟨rfl,rfl⟩
 have HNM:=Lib.hid (zeR (HCU.out _ HX.out.bel) (by rw [HGL.out];omega))
 rw [HGL.out] at HNM
 rw [HN.out] at HNM
 unfold zde at HNM
 go_wp2_with fail
 refine HNM.out.mono ?_
 clear HNM HN
 cases N with
 | none =>
   rintro e w3 ⟨hb3,rfl⟩
   unfold valC zba
   have HX3:=Lib.hid ((HX.out.on hb3).alloc (.cells #[.int .i64 0,.int .i64 0,.string ⟨#[]⟩,.slice none 0 0] 48))
   have HV:=Lib.hid (HVV.out.trans (zaV (e:=17) HFL.out HC0.out (by rw [HT.out];rfl) (by decide)))
   clear hb3
   obtain ⟨⟨k0,k1,k2,k3,k4,k5,k6,k7⟩,m0,m1,m2,m3,m4,m5,m6,m7⟩:=zaf HX3.out.blk
   obtain ⟨⟨n0,n1,n2,n3,n4,n5,n6,n7⟩,-⟩:=zaf HX3.out.no
   go_wp2
   refine bodyPost_ret (zaa rfl _ _ r 91 _ (0,0) _ rfl (set8 HX3.out.blk _ _ _ _ _ _ _ _) Tryz.underlying91 rfl zaq _ rfl) rfl ?_
   exact zar (x:={ kind:=0 }) HX3.out.bel HX3.out.wr HV.out _ _ _ _ _ _ _ _
 | some o =>
   rintro e w3 ⟨hb3,rfl⟩
   unfold valC
   have HX3:=Lib.hid ((HX.out.on hb3).alloc (.cells #[.int .i64 5,.int .i64 0,.string (mkB o),.slice none 0 0] 48))
   have HV:=Lib.hid (HVV.out.trans (za2 HFL.out HC0.out (x:={ kind:=1,vk:=5,vs:=o }) (j:=bs.length) (by rw [HT.out];rfl) HEL.out))
   clear hb3
   obtain ⟨⟨k0,k1,k2,k3,k4,k5,k6,k7⟩,m0,m1,m2,m3,m4,m5,m6,m7⟩:=zaf HX3.out.blk
   obtain ⟨⟨n0,n1,n2,n3,n4,n5,n6,n7⟩,-⟩:=zaf HX3.out.no
   go_wp2
   refine bodyPost_ret (zaa rfl _ _ r 91 _ (0,0) _ rfl (set8 HX3.out.blk _ _ _ _ _ _ _ _) Tryz.underlying91 rfl zaq _ rfl) rfl ?_
   exact zar (x:={ kind:=1,vk:=5,vs:=o }) HX3.out.bel HX3.out.wr HV.out _ _ _ _ _ _ _ _
theorem zgb {w:World} {a:Option Addr} {cap:Nat} {bs:List UInt8} (hr:Row w 1 a bs.length cap (bs.map u8C)) (hn:bs.length≤400000) {k:Int} (last:Bool) (hk0:0≤k) (hk1:k≤bs.length) {f:Nat} (hf:zaF bs k=f) (hfl:f<bs.length) {V:Tk×Int×Int×Int} (hV:V=zbf bs f last) (hc0:bs.getD f 0=47) (hla:last=true) (hcf1:cap=f+1) :
   Calls Tryz.prog 44 #[.slice a bs.length cap,.int .i64 k,.bool last] w (zax w V):=by
 have hcap0:=hr.2.1
 have HV:=Lib.hid (hV.trans (za2 (last:=last) hfl hc0 (x:={ kind:=1,vk:=5,vs:=[] }) (j:=bs.length) (by rw [za9 (by omega),List.drop_length,hla];rfl) (by omega)))
 subst hla
 obtain ⟨b,off,R,r,x,rfl,hbW,hx,hR,hRL,hrr,hcap,hcm,hkd,hkd2,hff,hffn,hfi,hf9,hrl,hS,hRN,hc,hcf,hZ,hB0⟩:=zaA hr hn hk0 hk1 hf hfl
 have HRW:=Lib.hid hr
 have HC:=Lib.hid hc
 have HS:=Lib.hid hS
 have HRN:=Lib.hid hRN
 have HRR:=Lib.hid hR
 have HRL:=Lib.hid hRL
 have HRE:=Lib.hid hrr
 have HZ:=Lib.hid hZ
 have HB0:=Lib.hid hB0
 clear hS hRN hRL hZ hB0
 obtain rfl:x=47:=by rw [←hx,hc0];rfl
 have HRN2:=Lib.hid (fun (W:World) (h:Below w.heap.size w W)=>zdC (HRW.out.mono h) hn bs.length (Nat.le_refl _))
 rw [show bs.length+runN (bs.drop bs.length)=bs.length by rw [List.drop_length];rfl] at HRN2
 have hfe:f+1=bs.length:=by omega
 have hfei:(f:Int)+1=(bs.length:Int):=by omega
 obtain rfl:cap=bs.length:=hcf1.trans hfe
 clear hcf1 hcap0
 clear hr hf hR hrr hrl hk0 hk1 hc hV hx
 go_enter Tryz.func44,Tryz.ntmps44
 go_wp2_with fail
 refine (HS.out _ HB0.out).mono ?_
 rintro e w' ⟨rfl,rfl⟩
 rw [←HRE.out]
 generalize w.alloc _=W1 at *
 obtain ⟨hcj1,hcj,hbn,hbl,hX⟩:=zau hbW HRE.out HB0.out hcf HZ.out
 have HX:=Lib.hid hX
 clear hcf hX
 go_wp2_with fail
 refine (HRN.out _ HX.out.bel).mono ?_
 rintro e w' ⟨rfl,rfl⟩
 clear hcj1 hcj hbn hbl
 generalize W1.alloc _=W2 at *
 generalize W1.heap.size=p at *
 clear HZ HB0
 go_wp2_with fail
 refine (HRN2.out _ HX.out.bel).mono ?_
 rintro e w' ⟨rfl,rfl⟩
 have HNM:=Lib.hid (zeR (bs:=[]) (Row.none1 W2 ⟨b,off,none⟩) (by simp))
 rw [show zdc []=some [] from rfl] at HNM
 unfold zde at HNM
 go_wp2_with fail
 refine HNM.out.mono ?_
 clear HNM
 rintro e w3 ⟨hb3,rfl⟩
 unfold valC
 have HX3:=Lib.hid ((HX.out.on hb3).alloc (.cells #[.int .i64 5,.int .i64 0,.string (mkB []),.slice none 0 0] 48))
 clear hb3
 obtain ⟨⟨k0,k1,k2,k3,k4,k5,k6,k7⟩,m0,m1,m2,m3,m4,m5,m6,m7⟩:=zaf HX3.out.blk
 obtain ⟨⟨n0,n1,n2,n3,n4,n5,n6,n7⟩,-⟩:=zaf HX3.out.no
 go_wp2
 refine bodyPost_ret (zaa rfl _ _ r 91 _ (0,0) _ rfl (set8 HX3.out.blk _ _ _ _ _ _ _ _) Tryz.underlying91 rfl zaq _ rfl) rfl ?_
 exact zar (x:={ kind:=1,vk:=5,vs:=[] }) HX3.out.bel HX3.out.wr HV.out _ _ _ _ _ _ _ _
theorem zgt {w:World} {a:Option Addr} {cap:Nat} {bs:List UInt8} (hr:Row w 1 a bs.length cap (bs.map u8C)) (hn:bs.length≤400000) {k:Int} (last:Bool) (hk0:0≤k) (hk1:k≤bs.length) {f:Nat} (hf:zaF bs k=f) (hfl:f<bs.length) {V:Tk×Int×Int×Int} (hV:V=zbf bs f last) (hreg:isRg (bs.getD f 0)=true) (h1:f+runN (bs.drop f)=bs.length) (hla:last=false) :
   Calls Tryz.prog 44 #[.slice a bs.length cap,.int .i64 k,.bool last] w (zax w V):=by
 have HT:=Lib.hid (show tokV last (bs.getD f 0) (bs.drop (f+1))=_ from zbp (X:=⟨none,0,bs,last⟩) (k:=f) hfl hreg)
 have HV:=Lib.hid (hV.trans (zaV (e:=6) hfl rfl (by rw [HT.out];unfold rgV;rw [if_pos ⟨show runN (bs.drop f)=(bs.drop f).length by rw [List.length_drop];omega,hla⟩]) (by decide)))
 clear HT
 subst hla
 have hdl:isDl (bs.getD f 0)=false:=by
   have h:=hreg
   unfold isRg at h
   cases hh:isDl (bs.getD f 0) with
   | false=>rfl
   | true=>rw [hh] at h;simp at h
 have n91:bs.getD f 0≠91:=fun e=>by rw [e] at hreg;exact absurd hreg (by decide)
 have n93:bs.getD f 0≠93:=fun e=>by rw [e] at hreg;exact absurd hreg (by decide)
 have n60:bs.getD f 0≠60:=fun e=>by rw [e] at hreg;exact absurd hreg (by decide)
 have n62:bs.getD f 0≠62:=fun e=>by rw [e] at hreg;exact absurd hreg (by decide)
 have n40:bs.getD f 0≠40:=fun e=>by rw [e] at hreg;exact absurd hreg (by decide)
 have n47:bs.getD f 0≠47:=fun e=>by rw [e] at hreg;exact absurd hreg (by decide)
 have e91:=zat n91 91 rfl
 have e93:=zat n93 93 rfl
 have e60:=zat n60 60 rfl
 have e62:=zat n62 62 rfl
 have e40:=zat n40 40 rfl
 have e47:=zat n47 47 rfl
 obtain ⟨b,off,R,r,x,rfl,hbW,hx,hR,hRL,hrr,hcap,hcm,hkd,hkd2,hff,hffn,hfi,hf9,hrl,hS,hRN,hc,hcf,hZ,hB0⟩:=zaA hr hn hk0 hk1 hf hfl
 have HRW:=Lib.hid hr
 have HC:=Lib.hid hc
 have HS:=Lib.hid hS
 have HRN:=Lib.hid hRN
 have HRR:=Lib.hid hR
 have HRL:=Lib.hid hRL
 have HRE:=Lib.hid hrr
 have HZ:=Lib.hid hZ
 have HB0:=Lib.hid hB0
 clear hS hRN hRL hZ hB0
 have HDL:=Lib.hid (fun W=>zaL (bs.getD f 0).toNat W)
 rw [←zbW,hdl] at HDL
 rw [hx] at HDL e91 e93 e60 e62 e40 e47
 clear n91 n93 n60 n62 n40 n47 hdl hreg
 obtain rfl:R=bs.length:=hR.trans h1
 clear h1
 clear hr hf hR hrr hrl hk0 hk1 hc hV hx
 go_enter Tryz.func44,Tryz.ntmps44
 go_wp2_with fail
 refine (HS.out _ HB0.out).mono ?_
 rintro e w' ⟨rfl,rfl⟩
 rw [←HRE.out]
 generalize w.alloc _=W1 at *
 obtain ⟨hcj1,hcj,hbn,hbl,hX⟩:=zau hbW HRE.out HB0.out hcf HZ.out
 have HX:=Lib.hid hX
 clear hcf hX
 go_wp2_with fail
 refine (HRN.out _ HX.out.bel).mono ?_
 rintro e w' ⟨rfl,rfl⟩
 clear hcj1 hcj hbn hbl
 generalize W1.alloc _=W2 at *
 generalize W1.heap.size=p at *
 clear HZ HB0
 obtain ⟨⟨k0,k1,k2,k3,k4,k5,k6,k7⟩,m0,m1,m2,m3,m4,m5,m6,m7⟩:=zaf HX.out.blk
 obtain ⟨⟨n0,n1,n2,n3,n4,n5,n6,n7⟩,-⟩:=zaf HX.out.no
 go_wp2_with (go_at_call 73;refine (HDL.out _).mono ?_;rintro e w' ⟨rfl,rfl⟩)
 refine bodyPost_ret (zaa rfl _ _ r 91 _ (0,0) _ rfl (set8 HX.out.blk _ _ _ _ _ _ _ _) Tryz.underlying91 rfl zaq _ rfl) rfl ?_
 exact zar (x:={ kind:=0 }) HX.out.bel HX.out.wr HV.out _ _ _ _ _ _ _ _
theorem zft {w:World} {a:Option Addr} {cap:Nat} {bs:List UInt8} (hr:Row w 1 a bs.length cap (bs.map u8C)) (hn:bs.length≤400000) {k:Int} (last:Bool) (hk0:0≤k) (hk1:k≤bs.length) {f:Nat} (hf:zaF bs k=f) (hfl:f<bs.length) {V:Tk×Int×Int×Int} (hV:V=zbf bs f last) (hreg:isRg (bs.getD f 0)=true) (h1:f+runN (bs.drop f)≠bs.length) (hd:48≤(bs.getD f 0).toNat∧(bs.getD f 0).toNat≤57) :
   Calls Tryz.prog 44 #[.slice a bs.length cap,.int .i64 k,.bool last] w (zax w V):=by
 have HT:=Lib.hid (show tokV last (bs.getD f 0) (bs.drop (f+1))=_ from zbp (X:=⟨none,0,bs,last⟩) (k:=f) hfl hreg)
 have hnl:¬(runN ((⟨none,0,bs,last⟩:Src).bs.drop f)=((⟨none,0,bs,last⟩:Src).bs.drop f).length∧(⟨none,0,bs,last⟩:Src).last=false):=by
   show ¬(runN (bs.drop f)=(bs.drop f).length∧last=false)
   rw [List.length_drop]
   intro h;exact h1 (by omega)
 have hnum:(isDg (bs.getD f 0)=true∨bs.getD f 0=43∨bs.getD f 0=45∨bs.getD f 0=46):=by
   exact .inl (by unfold isDg;simp;exact hd)
 have ht:=HT.out
 unfold rgV at ht
 rw [if_neg hnl,if_pos hnum] at ht
 rw [List.drop_drop] at ht
 clear HT hnl hnum
 obtain ⟨P,hP⟩:∃P,zaH (regs (bs.drop f))=P:=⟨_,rfl⟩
 have ht2:tokV last (bs.getD f 0) (bs.drop (f+1))=(P.2.2,{ kind:=1,vk:=P.1,vn:=P.2.1 },bs.drop (f+runN (bs.drop f))):=by rw [←hP];exact ht
 have HP:=Lib.hid hP
 have HT:=Lib.hid ht2
 clear ht ht2 hP
 have HVV:=Lib.hid hV
 have HFL:=Lib.hid hfl
 have hdl:isDl (bs.getD f 0)=false:=by
   have h:=hreg
   unfold isRg at h
   cases hh:isDl (bs.getD f 0) with
   | false=>rfl
   | true=>rw [hh] at h;simp at h
 have n91:bs.getD f 0≠91:=fun e=>by rw [e] at hreg;exact absurd hreg (by decide)
 have n93:bs.getD f 0≠93:=fun e=>by rw [e] at hreg;exact absurd hreg (by decide)
 have n60:bs.getD f 0≠60:=fun e=>by rw [e] at hreg;exact absurd hreg (by decide)
 have n62:bs.getD f 0≠62:=fun e=>by rw [e] at hreg;exact absurd hreg (by decide)
 have n40:bs.getD f 0≠40:=fun e=>by rw [e] at hreg;exact absurd hreg (by decide)
 have n47:bs.getD f 0≠47:=fun e=>by rw [e] at hreg;exact absurd hreg (by decide)
 have e91:=zat n91 91 rfl
 have e93:=zat n93 93 rfl
 have e60:=zat n60 60 rfl
 have e62:=zat n62 62 rfl
 have e40:=zat n40 40 rfl
 have e47:=zat n47 47 rfl
 obtain ⟨b,off,R,r,x,rfl,hbW,hx,hR,hRL,hrr,hcap,hcm,hkd,hkd2,hff,hffn,hfi,hf9,hrl,hS,hRN,hc,hcf,hZ,hB0⟩:=zaA hr hn hk0 hk1 hf hfl
 have HRW:=Lib.hid hr
 have HC:=Lib.hid hc
 have HS:=Lib.hid hS
 have HRN:=Lib.hid hRN
 have HRR:=Lib.hid hR
 have HRL:=Lib.hid hRL
 have HRE:=Lib.hid hrr
 have HZ:=Lib.hid hZ
 have HB0:=Lib.hid hB0
 clear hS hRN hRL hZ hB0
 have HDL:=Lib.hid (fun W=>zaL (bs.getD f 0).toNat W)
 rw [←zbW,hdl] at HDL
 rw [hx] at HDL e91 e93 e60 e62 e40 e47
 clear n91 n93 n60 n62 n40 n47 hdl hreg
 rw [←hR] at HT
 have hRt:(bs.drop f).take (R-f)=regs (bs.drop f):=by rw [za7,hR,Nat.add_sub_cancel_left]
 have HRT:=Lib.hid hRt
 have hrt:=zbh (bs.drop f)
 have hRf:f≤R:=by omega
 have hRl2:R≤bs.length:=HRL.out
 have hcf1:¬cap=f:=by omega
 have HRlen:=Lib.hid (show (regs (bs.drop f)).length≤400000 by show runN _≤_;omega)
 clear hRt hrt
 rw [hx] at hd
 have d1:decide ((48:Int)≤x)=true:=decide_eq_true (by omega)
 have d2:decide ((x:Int)≤57)=true:=decide_eq_true (by omega)
 clear hd
 have q1:((R:Int)==(bs.length:Int))=false:=by rw [beq_eq_false_iff_ne];omega
 have q2:decide (R=bs.length)=false:=decide_eq_false (by omega)
 clear h1
 clear hr hf hR hrr hrl hk0 hk1 hc hV hx
 go_enter Tryz.func44,Tryz.ntmps44
 go_wp2_with fail
 refine (HS.out _ HB0.out).mono ?_
 rintro e w' ⟨rfl,rfl⟩
 rw [←HRE.out]
 generalize w.alloc _=W1 at *
 obtain ⟨hcj1,hcj,hbn,hbl,hX⟩:=zau hbW HRE.out HB0.out hcf HZ.out
 have HX:=Lib.hid hX
 clear hcf hX
 go_wp2_with fail
 refine (HRN.out _ HX.out.bel).mono ?_
 rintro e w' ⟨rfl,rfl⟩
 clear hcj1 hcj hbn hbl
 generalize W1.alloc _=W2 at *
 generalize W1.heap.size=p at *
 clear HZ HB0
 have hcv:(convert 24 9 (.slice (some ⟨b,off+f,none⟩) (R-f) (cap-f))).run Tryz.prog W2=.ok (.string (mkB ((bs.drop f).take (R-f)))) W2:=zaR (X:=⟨none,0,bs,true⟩) HC.out f (R-f) (by have:=HRL.out;show f+_≤bs.length;omega) W2 HX.out.bel
 rw [HRT.out] at hcv
 obtain ⟨s,hs⟩:∃s,mkB (regs (bs.drop f))=s:=⟨_,rfl⟩
 have hsb:bl s=regs (bs.drop f):=by rw [←hs];rfl
 have HPA:=Lib.hid (zbD s W2 (by rw [←zaz,hsb];exact HRlen.out))
 rw [hsb,HP.out] at HPA
 rw [hs] at hcv
 unfold zbq valC zba at HPA
 clear hs hsb
 go_wp2_with (go_at_call 73;refine (HDL.out _).mono ?_;rintro e w' ⟨rfl,rfl⟩)
 refine HPA.out.mono ?_
 rintro e w3 ⟨rfl,hb3⟩
 have HX3:=Lib.hid ((HX.out.on hb3).alloc (.cells #[.int .i64 P.1,.int .i64 P.2.1,.string ⟨#[]⟩,.slice none 0 0] 48))
 clear hb3 hcv HPA
 by_cases her:P.2.2=0
 · have HV := Lib.hid (HVV.out.trans (za2 HFL.out rfl (x := { kind := 1, vk := P.1, vn := P.2.1 }) (j := R) (by rw [HT.out, her]) HRL.out))
   rw [her]
   clear her
   obtain ⟨⟨k0,k1,k2,k3,k4,k5,k6,k7⟩,m0,m1,m2,m3,m4,m5,m6,m7⟩:=zaf HX3.out.blk
   obtain ⟨⟨n0,n1,n2,n3,n4,n5,n6,n7⟩,-⟩:=zaf HX3.out.no
   go_wp2
   refine bodyPost_ret (zaa rfl _ _ r 91 _ (0,0) _ rfl (set8 HX3.out.blk _ _ _ _ _ _ _ _) Tryz.underlying91 rfl zaq _ rfl) rfl ?_
   exact zar (x:={ kind:=1,vk:=P.1,vn:=P.2.1 }) HX3.out.bel HX3.out.wr HV.out _ _ _ _ _ _ _ _
 · have HV := Lib.hid (HVV.out.trans (zaV (e := P.2.2) HFL.out rfl (by rw [HT.out]) her))
   have er1:(P.2.2==0)=false:=by rw [beq_eq_false_iff_ne];exact her
   have er2:(P.2.2 != 0)=true:=by simp only [bne,er1,Bool.not_false]
   clear her
   obtain ⟨⟨k0,k1,k2,k3,k4,k5,k6,k7⟩,m0,m1,m2,m3,m4,m5,m6,m7⟩:=zaf HX3.out.blk
   obtain ⟨⟨n0,n1,n2,n3,n4,n5,n6,n7⟩,-⟩:=zaf HX3.out.no
   go_wp2
   refine bodyPost_ret (zaa rfl _ _ r 91 _ (0,0) _ rfl (set8 HX3.out.blk _ _ _ _ _ _ _ _) Tryz.underlying91 rfl zaq _ rfl) rfl ?_
   exact zar (x:={ kind:=0 }) HX3.out.bel HX3.out.wr HV.out _ _ _ _ _ _ _ _
theorem rnext_43_in {w:World} {a:Option Addr} {cap:Nat} {bs:List UInt8} (hr:Row w 1 a bs.length cap (bs.map u8C)) (hn:bs.length≤400000) {k:Int} (last:Bool) (hk0:0≤k) (hk1:k≤bs.length) {f:Nat} (hf:zaF bs k=f) (hfl:f<bs.length) {V:Tk×Int×Int×Int} (hV:V=zbf bs f last) (hreg:isRg (bs.getD f 0)=true) (h1:f+runN (bs.drop f)≠bs.length) (hc0:bs.getD f 0=43) :
   Calls Tryz.prog 44 #[.slice a bs.length cap,.int .i64 k,.bool last] w (zax w V):=by
 have HT:=Lib.hid (show tokV last (bs.getD f 0) (bs.drop (f+1))=_ from zbp (X:=⟨none,0,bs,last⟩) (k:=f) hfl hreg)
 have hnl:¬(runN ((⟨none,0,bs,last⟩:Src).bs.drop f)=((⟨none,0,bs,last⟩:Src).bs.drop f).length∧(⟨none,0,bs,last⟩:Src).last=false):=by
   show ¬(runN (bs.drop f)=(bs.drop f).length∧last=false)
   rw [List.length_drop]
   intro h;exact h1 (by omega)
 have hnum:(isDg (bs.getD f 0)=true∨bs.getD f 0=43∨bs.getD f 0=45∨bs.getD f 0=46):=by
   exact .inr (.inl hc0)
 have ht:=HT.out
 unfold rgV at ht
 rw [if_neg hnl,if_pos hnum] at ht
 rw [List.drop_drop] at ht
 clear HT hnl hnum
 obtain ⟨P,hP⟩:∃P,zaH (regs (bs.drop f))=P:=⟨_,rfl⟩
 have ht2:tokV last (bs.getD f 0) (bs.drop (f+1))=(P.2.2,{ kind:=1,vk:=P.1,vn:=P.2.1 },bs.drop (f+runN (bs.drop f))):=by rw [←hP];exact ht
 have HP:=Lib.hid hP
 have HT:=Lib.hid ht2
 clear ht ht2 hP
 have HVV:=Lib.hid hV
 have HFL:=Lib.hid hfl
 have hdl:isDl (bs.getD f 0)=false:=by
   have h:=hreg
   unfold isRg at h
   cases hh:isDl (bs.getD f 0) with
   | false=>rfl
   | true=>rw [hh] at h;simp at h
 have n91:bs.getD f 0≠91:=fun e=>by rw [e] at hreg;exact absurd hreg (by decide)
 have n93:bs.getD f 0≠93:=fun e=>by rw [e] at hreg;exact absurd hreg (by decide)
 have n60:bs.getD f 0≠60:=fun e=>by rw [e] at hreg;exact absurd hreg (by decide)
 have n62:bs.getD f 0≠62:=fun e=>by rw [e] at hreg;exact absurd hreg (by decide)
 have n40:bs.getD f 0≠40:=fun e=>by rw [e] at hreg;exact absurd hreg (by decide)
 have n47:bs.getD f 0≠47:=fun e=>by rw [e] at hreg;exact absurd hreg (by decide)
 have e91:=zat n91 91 rfl
 have e93:=zat n93 93 rfl
 have e60:=zat n60 60 rfl
 have e62:=zat n62 62 rfl
 have e40:=zat n40 40 rfl
 have e47:=zat n47 47 rfl
 obtain ⟨b,off,R,r,x,rfl,hbW,hx,hR,hRL,hrr,hcap,hcm,hkd,hkd2,hff,hffn,hfi,hf9,hrl,hS,hRN,hc,hcf,hZ,hB0⟩:=zaA hr hn hk0 hk1 hf hfl
 have HRW:=Lib.hid hr
 have HC:=Lib.hid hc
 have HS:=Lib.hid hS
 have HRN:=Lib.hid hRN
 have HRR:=Lib.hid hR
 have HRL:=Lib.hid hRL
 have HRE:=Lib.hid hrr
 have HZ:=Lib.hid hZ
 have HB0:=Lib.hid hB0
 clear hS hRN hRL hZ hB0
 have HDL:=Lib.hid (fun W=>zaL (bs.getD f 0).toNat W)
 rw [←zbW,hdl] at HDL
 rw [hx] at HDL e91 e93 e60 e62 e40 e47
 clear n91 n93 n60 n62 n40 n47 hdl hreg
 rw [←hR] at HT
 have hRt:(bs.drop f).take (R-f)=regs (bs.drop f):=by rw [za7,hR,Nat.add_sub_cancel_left]
 have HRT:=Lib.hid hRt
 have hrt:=zbh (bs.drop f)
 have hRf:f≤R:=by omega
 have hRl2:R≤bs.length:=HRL.out
 have hcf1:¬cap=f:=by omega
 have HRlen:=Lib.hid (show (regs (bs.drop f)).length≤400000 by show runN _≤_;omega)
 clear hRt hrt
 obtain rfl:x=43:=by rw [←hx,hc0];rfl
 clear hc0
 have q1:((R:Int)==(bs.length:Int))=false:=by rw [beq_eq_false_iff_ne];omega
 have q2:decide (R=bs.length)=false:=decide_eq_false (by omega)
 clear h1
 clear hr hf hR hrr hrl hk0 hk1 hc hV hx
 go_enter Tryz.func44,Tryz.ntmps44
 go_wp2_with fail
 refine (HS.out _ HB0.out).mono ?_
 rintro e w' ⟨rfl,rfl⟩
 rw [←HRE.out]
 generalize w.alloc _=W1 at *
 obtain ⟨hcj1,hcj,hbn,hbl,hX⟩:=zau hbW HRE.out HB0.out hcf HZ.out
 have HX:=Lib.hid hX
 clear hcf hX
 go_wp2_with fail
 refine (HRN.out _ HX.out.bel).mono ?_
 rintro e w' ⟨rfl,rfl⟩
 clear hcj1 hcj hbn hbl
 generalize W1.alloc _=W2 at *
 generalize W1.heap.size=p at *
 clear HZ HB0
 have hcv:(convert 24 9 (.slice (some ⟨b,off+f,none⟩) (R-f) (cap-f))).run Tryz.prog W2=.ok (.string (mkB ((bs.drop f).take (R-f)))) W2:=zaR (X:=⟨none,0,bs,true⟩) HC.out f (R-f) (by have:=HRL.out;show f+_≤bs.length;omega) W2 HX.out.bel
 rw [HRT.out] at hcv
 obtain ⟨s,hs⟩:∃s,mkB (regs (bs.drop f))=s:=⟨_,rfl⟩
 have hsb:bl s=regs (bs.drop f):=by rw [←hs];rfl
 have HPA:=Lib.hid (zbD s W2 (by rw [←zaz,hsb];exact HRlen.out))
 rw [hsb,HP.out] at HPA
 rw [hs] at hcv
 unfold zbq valC zba at HPA
 clear hs hsb
 go_wp2_with (go_at_call 73;refine (HDL.out _).mono ?_;rintro e w' ⟨rfl,rfl⟩)
 refine HPA.out.mono ?_
 rintro e w3 ⟨rfl,hb3⟩
 have HX3:=Lib.hid ((HX.out.on hb3).alloc (.cells #[.int .i64 P.1,.int .i64 P.2.1,.string ⟨#[]⟩,.slice none 0 0] 48))
 clear hb3 hcv HPA
 by_cases her:P.2.2=0
 · have HV := Lib.hid (HVV.out.trans (za2 HFL.out rfl (x := { kind := 1, vk := P.1, vn := P.2.1 }) (j := R) (by rw [HT.out, her]) HRL.out))
   rw [her]
   clear her
   obtain ⟨⟨k0,k1,k2,k3,k4,k5,k6,k7⟩,m0,m1,m2,m3,m4,m5,m6,m7⟩:=zaf HX3.out.blk
   obtain ⟨⟨n0,n1,n2,n3,n4,n5,n6,n7⟩,-⟩:=zaf HX3.out.no
   go_wp2
   refine bodyPost_ret (zaa rfl _ _ r 91 _ (0,0) _ rfl (set8 HX3.out.blk _ _ _ _ _ _ _ _) Tryz.underlying91 rfl zaq _ rfl) rfl ?_
   exact zar (x:={ kind:=1,vk:=P.1,vn:=P.2.1 }) HX3.out.bel HX3.out.wr HV.out _ _ _ _ _ _ _ _
 · have HV := Lib.hid (HVV.out.trans (zaV (e := P.2.2) HFL.out rfl (by rw [HT.out]) her))
   have er1:(P.2.2==0)=false:=by rw [beq_eq_false_iff_ne];exact her
   have er2:(P.2.2 != 0)=true:=by simp only [bne,er1,Bool.not_false]
   clear her
   obtain ⟨⟨k0,k1,k2,k3,k4,k5,k6,k7⟩,m0,m1,m2,m3,m4,m5,m6,m7⟩:=zaf HX3.out.blk
   obtain ⟨⟨n0,n1,n2,n3,n4,n5,n6,n7⟩,-⟩:=zaf HX3.out.no
   go_wp2
   refine bodyPost_ret (zaa rfl _ _ r 91 _ (0,0) _ rfl (set8 HX3.out.blk _ _ _ _ _ _ _ _) Tryz.underlying91 rfl zaq _ rfl) rfl ?_
   exact zar (x:={ kind:=0 }) HX3.out.bel HX3.out.wr HV.out _ _ _ _ _ _ _ _
theorem rnext_45_in {w:World} {a:Option Addr} {cap:Nat} {bs:List UInt8} (hr:Row w 1 a bs.length cap (bs.map u8C)) (hn:bs.length≤400000) {k:Int} (last:Bool) (hk0:0≤k) (hk1:k≤bs.length) {f:Nat} (hf:zaF bs k=f) (hfl:f<bs.length) {V:Tk×Int×Int×Int} (hV:V=zbf bs f last) (hreg:isRg (bs.getD f 0)=true) (h1:f+runN (bs.drop f)≠bs.length) (hc0:bs.getD f 0=45) :
   Calls Tryz.prog 44 #[.slice a bs.length cap,.int .i64 k,.bool last] w (zax w V):=by
 have HT:=Lib.hid (show tokV last (bs.getD f 0) (bs.drop (f+1))=_ from zbp (X:=⟨none,0,bs,last⟩) (k:=f) hfl hreg)
 have hnl:¬(runN ((⟨none,0,bs,last⟩:Src).bs.drop f)=((⟨none,0,bs,last⟩:Src).bs.drop f).length∧(⟨none,0,bs,last⟩:Src).last=false):=by
   show ¬(runN (bs.drop f)=(bs.drop f).length∧last=false)
   rw [List.length_drop]
   intro h;exact h1 (by omega)
 have hnum:(isDg (bs.getD f 0)=true∨bs.getD f 0=43∨bs.getD f 0=45∨bs.getD f 0=46):=by
   exact .inr (.inr (.inl hc0))
 have ht:=HT.out
 unfold rgV at ht
 rw [if_neg hnl,if_pos hnum] at ht
 rw [List.drop_drop] at ht
 clear HT hnl hnum
 obtain ⟨P,hP⟩:∃P,zaH (regs (bs.drop f))=P:=⟨_,rfl⟩
 have ht2:tokV last (bs.getD f 0) (bs.drop (f+1))=(P.2.2,{ kind:=1,vk:=P.1,vn:=P.2.1 },bs.drop (f+runN (bs.drop f))):=by rw [←hP];exact ht
 have HP:=Lib.hid hP
 have HT:=Lib.hid ht2
 clear ht ht2 hP
 have HVV:=Lib.hid hV
 have HFL:=Lib.hid hfl
 have hdl:isDl (bs.getD f 0)=false:=by
   have h:=hreg
   unfold isRg at h
   cases hh:isDl (bs.getD f 0) with
   | false=>rfl
   | true=>rw [hh] at h;simp at h
 have n91:bs.getD f 0≠91:=fun e=>by rw [e] at hreg;exact absurd hreg (by decide)
 have n93:bs.getD f 0≠93:=fun e=>by rw [e] at hreg;exact absurd hreg (by decide)
 have n60:bs.getD f 0≠60:=fun e=>by rw [e] at hreg;exact absurd hreg (by decide)
 have n62:bs.getD f 0≠62:=fun e=>by rw [e] at hreg;exact absurd hreg (by decide)
 have n40:bs.getD f 0≠40:=fun e=>by rw [e] at hreg;exact absurd hreg (by decide)
 have n47:bs.getD f 0≠47:=fun e=>by rw [e] at hreg;exact absurd hreg (by decide)
 have e91:=zat n91 91 rfl
 have e93:=zat n93 93 rfl
 have e60:=zat n60 60 rfl
 have e62:=zat n62 62 rfl
 have e40:=zat n40 40 rfl
 have e47:=zat n47 47 rfl
 obtain ⟨b,off,R,r,x,rfl,hbW,hx,hR,hRL,hrr,hcap,hcm,hkd,hkd2,hff,hffn,hfi,hf9,hrl,hS,hRN,hc,hcf,hZ,hB0⟩:=zaA hr hn hk0 hk1 hf hfl
 have HRW:=Lib.hid hr
 have HC:=Lib.hid hc
 have HS:=Lib.hid hS
 have HRN:=Lib.hid hRN
 have HRR:=Lib.hid hR
 have HRL:=Lib.hid hRL
 have HRE:=Lib.hid hrr
 have HZ:=Lib.hid hZ
 have HB0:=Lib.hid hB0
 clear hS hRN hRL hZ hB0
 have HDL:=Lib.hid (fun W=>zaL (bs.getD f 0).toNat W)
 rw [←zbW,hdl] at HDL
 rw [hx] at HDL e91 e93 e60 e62 e40 e47
 clear n91 n93 n60 n62 n40 n47 hdl hreg
 rw [←hR] at HT
 have hRt:(bs.drop f).take (R-f)=regs (bs.drop f):=by rw [za7,hR,Nat.add_sub_cancel_left]
 have HRT:=Lib.hid hRt
 have hrt:=zbh (bs.drop f)
 have hRf:f≤R:=by omega
 have hRl2:R≤bs.length:=HRL.out
 have hcf1:¬cap=f:=by omega
 have HRlen:=Lib.hid (show (regs (bs.drop f)).length≤400000 by show runN _≤_;omega)
 clear hRt hrt
 obtain rfl:x=45:=by rw [←hx,hc0];rfl
 clear hc0
 have q1:((R:Int)==(bs.length:Int))=false:=by rw [beq_eq_false_iff_ne];omega
 have q2:decide (R=bs.length)=false:=decide_eq_false (by omega)
 clear h1
 clear hr hf hR hrr hrl hk0 hk1 hc hV hx
 go_enter Tryz.func44,Tryz.ntmps44
 go_wp2_with fail
 refine (HS.out _ HB0.out).mono ?_
 rintro e w' ⟨rfl,rfl⟩
 rw [←HRE.out]
 generalize w.alloc _=W1 at *
 obtain ⟨hcj1,hcj,hbn,hbl,hX⟩:=zau hbW HRE.out HB0.out hcf HZ.out
 have HX:=Lib.hid hX
 clear hcf hX
 go_wp2_with fail
 refine (HRN.out _ HX.out.bel).mono ?_
 rintro e w' ⟨rfl,rfl⟩
 clear hcj1 hcj hbn hbl
 generalize W1.alloc _=W2 at *
 generalize W1.heap.size=p at *
 clear HZ HB0
 have hcv:(convert 24 9 (.slice (some ⟨b,off+f,none⟩) (R-f) (cap-f))).run Tryz.prog W2=.ok (.string (mkB ((bs.drop f).take (R-f)))) W2:=zaR (X:=⟨none,0,bs,true⟩) HC.out f (R-f) (by have:=HRL.out;show f+_≤bs.length;omega) W2 HX.out.bel
 rw [HRT.out] at hcv
 obtain ⟨s,hs⟩:∃s,mkB (regs (bs.drop f))=s:=⟨_,rfl⟩
 have hsb:bl s=regs (bs.drop f):=by rw [←hs];rfl
 have HPA:=Lib.hid (zbD s W2 (by rw [←zaz,hsb];exact HRlen.out))
 rw [hsb,HP.out] at HPA
 rw [hs] at hcv
 unfold zbq valC zba at HPA
 clear hs hsb
 go_wp2_with (go_at_call 73;refine (HDL.out _).mono ?_;rintro e w' ⟨rfl,rfl⟩)
 refine HPA.out.mono ?_
 rintro e w3 ⟨rfl,hb3⟩
 have HX3:=Lib.hid ((HX.out.on hb3).alloc (.cells #[.int .i64 P.1,.int .i64 P.2.1,.string ⟨#[]⟩,.slice none 0 0] 48))
 clear hb3 hcv HPA
 by_cases her:P.2.2=0
 · have HV := Lib.hid (HVV.out.trans (za2 HFL.out rfl (x := { kind := 1, vk := P.1, vn := P.2.1 }) (j := R) (by rw [HT.out, her]) HRL.out))
   rw [her]
   clear her
   obtain ⟨⟨k0,k1,k2,k3,k4,k5,k6,k7⟩,m0,m1,m2,m3,m4,m5,m6,m7⟩:=zaf HX3.out.blk
   obtain ⟨⟨n0,n1,n2,n3,n4,n5,n6,n7⟩,-⟩:=zaf HX3.out.no
   go_wp2
   refine bodyPost_ret (zaa rfl _ _ r 91 _ (0,0) _ rfl (set8 HX3.out.blk _ _ _ _ _ _ _ _) Tryz.underlying91 rfl zaq _ rfl) rfl ?_
   exact zar (x:={ kind:=1,vk:=P.1,vn:=P.2.1 }) HX3.out.bel HX3.out.wr HV.out _ _ _ _ _ _ _ _
 · have HV := Lib.hid (HVV.out.trans (zaV (e := P.2.2) HFL.out rfl (by rw [HT.out]) her))
   have er1:(P.2.2==0)=false:=by rw [beq_eq_false_iff_ne];exact her
   have er2:(P.2.2 != 0)=true:=by simp only [bne,er1,Bool.not_false]
   clear her
   obtain ⟨⟨k0,k1,k2,k3,k4,k5,k6,k7⟩,m0,m1,m2,m3,m4,m5,m6,m7⟩:=zaf HX3.out.blk
   obtain ⟨⟨n0,n1,n2,n3,n4,n5,n6,n7⟩,-⟩:=zaf HX3.out.no
   go_wp2
   refine bodyPost_ret (zaa rfl _ _ r 91 _ (0,0) _ rfl (set8 HX3.out.blk _ _ _ _ _ _ _ _) Tryz.underlying91 rfl zaq _ rfl) rfl ?_
   exact zar (x:={ kind:=0 }) HX3.out.bel HX3.out.wr HV.out _ _ _ _ _ _ _ _
theorem rnext_46_in {w:World} {a:Option Addr} {cap:Nat} {bs:List UInt8} (hr:Row w 1 a bs.length cap (bs.map u8C)) (hn:bs.length≤400000) {k:Int} (last:Bool) (hk0:0≤k) (hk1:k≤bs.length) {f:Nat} (hf:zaF bs k=f) (hfl:f<bs.length) {V:Tk×Int×Int×Int} (hV:V=zbf bs f last) (hreg:isRg (bs.getD f 0)=true) (h1:f+runN (bs.drop f)≠bs.length) (hc0:bs.getD f 0=46) :
   Calls Tryz.prog 44 #[.slice a bs.length cap,.int .i64 k,.bool last] w (zax w V):=by
 have HT:=Lib.hid (show tokV last (bs.getD f 0) (bs.drop (f+1))=_ from zbp (X:=⟨none,0,bs,last⟩) (k:=f) hfl hreg)
 have hnl:¬(runN ((⟨none,0,bs,last⟩:Src).bs.drop f)=((⟨none,0,bs,last⟩:Src).bs.drop f).length∧(⟨none,0,bs,last⟩:Src).last=false):=by
   show ¬(runN (bs.drop f)=(bs.drop f).length∧last=false)
   rw [List.length_drop]
   intro h;exact h1 (by omega)
 have hnum:(isDg (bs.getD f 0)=true∨bs.getD f 0=43∨bs.getD f 0=45∨bs.getD f 0=46):=by
   exact .inr (.inr (.inr hc0))
 have ht:=HT.out
 unfold rgV at ht
 rw [if_neg hnl,if_pos hnum] at ht
 rw [List.drop_drop] at ht
 clear HT hnl hnum
 obtain ⟨P,hP⟩:∃P,zaH (regs (bs.drop f))=P:=⟨_,rfl⟩
 have ht2:tokV last (bs.getD f 0) (bs.drop (f+1))=(P.2.2,{ kind:=1,vk:=P.1,vn:=P.2.1 },bs.drop (f+runN (bs.drop f))):=by rw [←hP];exact ht
 have HP:=Lib.hid hP
 have HT:=Lib.hid ht2
 clear ht ht2 hP
 have HVV:=Lib.hid hV
 have HFL:=Lib.hid hfl
 have hdl:isDl (bs.getD f 0)=false:=by
   have h:=hreg
   unfold isRg at h
   cases hh:isDl (bs.getD f 0) with
   | false=>rfl
   | true=>rw [hh] at h;simp at h
 have n91:bs.getD f 0≠91:=fun e=>by rw [e] at hreg;exact absurd hreg (by decide)
 have n93:bs.getD f 0≠93:=fun e=>by rw [e] at hreg;exact absurd hreg (by decide)
 have n60:bs.getD f 0≠60:=fun e=>by rw [e] at hreg;exact absurd hreg (by decide)
 have n62:bs.getD f 0≠62:=fun e=>by rw [e] at hreg;exact absurd hreg (by decide)
 have n40:bs.getD f 0≠40:=fun e=>by rw [e] at hreg;exact absurd hreg (by decide)
 have n47:bs.getD f 0≠47:=fun e=>by rw [e] at hreg;exact absurd hreg (by decide)
 have e91:=zat n91 91 rfl
 have e93:=zat n93 93 rfl
 have e60:=zat n60 60 rfl
 have e62:=zat n62 62 rfl
 have e40:=zat n40 40 rfl
 have e47:=zat n47 47 rfl
 obtain ⟨b,off,R,r,x,rfl,hbW,hx,hR,hRL,hrr,hcap,hcm,hkd,hkd2,hff,hffn,hfi,hf9,hrl,hS,hRN,hc,hcf,hZ,hB0⟩:=zaA hr hn hk0 hk1 hf hfl
 have HRW:=Lib.hid hr
 have HC:=Lib.hid hc
 have HS:=Lib.hid hS
 have HRN:=Lib.hid hRN
 have HRR:=Lib.hid hR
 have HRL:=Lib.hid hRL
 have HRE:=Lib.hid hrr
 have HZ:=Lib.hid hZ
 have HB0:=Lib.hid hB0
 clear hS hRN hRL hZ hB0
 have HDL:=Lib.hid (fun W=>zaL (bs.getD f 0).toNat W)
 rw [←zbW,hdl] at HDL
 rw [hx] at HDL e91 e93 e60 e62 e40 e47
 clear n91 n93 n60 n62 n40 n47 hdl hreg
 rw [←hR] at HT
 have hRt:(bs.drop f).take (R-f)=regs (bs.drop f):=by rw [za7,hR,Nat.add_sub_cancel_left]
 have HRT:=Lib.hid hRt
 have hrt:=zbh (bs.drop f)
 have hRf:f≤R:=by omega
 have hRl2:R≤bs.length:=HRL.out
 have hcf1:¬cap=f:=by omega
 have HRlen:=Lib.hid (show (regs (bs.drop f)).length≤400000 by show runN _≤_;omega)
 clear hRt hrt
 obtain rfl:x=46:=by rw [←hx,hc0];rfl
 clear hc0
 have q1:((R:Int)==(bs.length:Int))=false:=by rw [beq_eq_false_iff_ne];omega
 have q2:decide (R=bs.length)=false:=decide_eq_false (by omega)
 clear h1
 clear hr hf hR hrr hrl hk0 hk1 hc hV hx
 go_enter Tryz.func44,Tryz.ntmps44
 go_wp2_with fail
 refine (HS.out _ HB0.out).mono ?_
 rintro e w' ⟨rfl,rfl⟩
 rw [←HRE.out]
 generalize w.alloc _=W1 at *
 obtain ⟨hcj1,hcj,hbn,hbl,hX⟩:=zau hbW HRE.out HB0.out hcf HZ.out
 have HX:=Lib.hid hX
 clear hcf hX
 go_wp2_with fail
 refine (HRN.out _ HX.out.bel).mono ?_
 rintro e w' ⟨rfl,rfl⟩
 clear hcj1 hcj hbn hbl
 generalize W1.alloc _=W2 at *
 generalize W1.heap.size=p at *
 clear HZ HB0
 have hcv:(convert 24 9 (.slice (some ⟨b,off+f,none⟩) (R-f) (cap-f))).run Tryz.prog W2=.ok (.string (mkB ((bs.drop f).take (R-f)))) W2:=zaR (X:=⟨none,0,bs,true⟩) HC.out f (R-f) (by have:=HRL.out;show f+_≤bs.length;omega) W2 HX.out.bel
 rw [HRT.out] at hcv
 obtain ⟨s,hs⟩:∃s,mkB (regs (bs.drop f))=s:=⟨_,rfl⟩
 have hsb:bl s=regs (bs.drop f):=by rw [←hs];rfl
 have HPA:=Lib.hid (zbD s W2 (by rw [←zaz,hsb];exact HRlen.out))
 rw [hsb,HP.out] at HPA
 rw [hs] at hcv
 unfold zbq valC zba at HPA
 clear hs hsb
 go_wp2_with (go_at_call 73;refine (HDL.out _).mono ?_;rintro e w' ⟨rfl,rfl⟩)
 refine HPA.out.mono ?_
 rintro e w3 ⟨rfl,hb3⟩
 have HX3:=Lib.hid ((HX.out.on hb3).alloc (.cells #[.int .i64 P.1,.int .i64 P.2.1,.string ⟨#[]⟩,.slice none 0 0] 48))
 clear hb3 hcv HPA
 by_cases her:P.2.2=0
 · have HV := Lib.hid (HVV.out.trans (za2 HFL.out rfl (x := { kind := 1, vk := P.1, vn := P.2.1 }) (j := R) (by rw [HT.out, her]) HRL.out))
   rw [her]
   clear her
   obtain ⟨⟨k0,k1,k2,k3,k4,k5,k6,k7⟩,m0,m1,m2,m3,m4,m5,m6,m7⟩:=zaf HX3.out.blk
   obtain ⟨⟨n0,n1,n2,n3,n4,n5,n6,n7⟩,-⟩:=zaf HX3.out.no
   go_wp2
   refine bodyPost_ret (zaa rfl _ _ r 91 _ (0,0) _ rfl (set8 HX3.out.blk _ _ _ _ _ _ _ _) Tryz.underlying91 rfl zaq _ rfl) rfl ?_
   exact zar (x:={ kind:=1,vk:=P.1,vn:=P.2.1 }) HX3.out.bel HX3.out.wr HV.out _ _ _ _ _ _ _ _
 · have HV := Lib.hid (HVV.out.trans (zaV (e := P.2.2) HFL.out rfl (by rw [HT.out]) her))
   have er1:(P.2.2==0)=false:=by rw [beq_eq_false_iff_ne];exact her
   have er2:(P.2.2 != 0)=true:=by simp only [bne,er1,Bool.not_false]
   clear her
   obtain ⟨⟨k0,k1,k2,k3,k4,k5,k6,k7⟩,m0,m1,m2,m3,m4,m5,m6,m7⟩:=zaf HX3.out.blk
   obtain ⟨⟨n0,n1,n2,n3,n4,n5,n6,n7⟩,-⟩:=zaf HX3.out.no
   go_wp2
   refine bodyPost_ret (zaa rfl _ _ r 91 _ (0,0) _ rfl (set8 HX3.out.blk _ _ _ _ _ _ _ _) Tryz.underlying91 rfl zaq _ rfl) rfl ?_
   exact zar (x:={ kind:=0 }) HX3.out.bel HX3.out.wr HV.out _ _ _ _ _ _ _ _
theorem rnext_low_in {w:World} {a:Option Addr} {cap:Nat} {bs:List UInt8} (hr:Row w 1 a bs.length cap (bs.map u8C)) (hn:bs.length≤400000) {k:Int} (last:Bool) (hk0:0≤k) (hk1:k≤bs.length) {f:Nat} (hf:zaF bs k=f) (hfl:f<bs.length) {V:Tk×Int×Int×Int} (hV:V=zbf bs f last) (hreg:isRg (bs.getD f 0)=true) (h1:f+runN (bs.drop f)≠bs.length) (hd:(bs.getD f 0).toNat<48∧bs.getD f 0≠43∧bs.getD f 0≠45∧bs.getD f 0≠46) :
   Calls Tryz.prog 44 #[.slice a bs.length cap,.int .i64 k,.bool last] w (zax w V):=by
 have HT:=Lib.hid (show tokV last (bs.getD f 0) (bs.drop (f+1))=_ from zbp (X:=⟨none,0,bs,last⟩) (k:=f) hfl hreg)
 have hnl:¬(runN ((⟨none,0,bs,last⟩:Src).bs.drop f)=((⟨none,0,bs,last⟩:Src).bs.drop f).length∧(⟨none,0,bs,last⟩:Src).last=false):=by
   show ¬(runN (bs.drop f)=(bs.drop f).length∧last=false)
   rw [List.length_drop]
   intro h;exact h1 (by omega)
 have hnum:¬(isDg (bs.getD f 0)=true∨bs.getD f 0=43∨bs.getD f 0=45∨bs.getD f 0=46):=by
   rintro (h|h|h|h)
   · have h2:=zbc.1 h;have:=hd.1;omega
   · exact hd.2.1 h
   · exact hd.2.2.1 h
   · exact hd.2.2.2 h
 have ht:=HT.out
 unfold rgV at ht
 rw [if_neg hnl,if_neg hnum] at ht
 rw [List.drop_drop] at ht
 clear HT hnl hnum
 have HT:=Lib.hid (show tokV last (bs.getD f 0) (bs.drop (f+1))=(0,{ kind:=6,s:=regs (bs.drop f) },bs.drop (f+runN (bs.drop f))) from ht)
 clear ht
 have HVV:=Lib.hid hV
 have HFL:=Lib.hid hfl
 have hdl:isDl (bs.getD f 0)=false:=by
   have h:=hreg
   unfold isRg at h
   cases hh:isDl (bs.getD f 0) with
   | false=>rfl
   | true=>rw [hh] at h;simp at h
 have n91:bs.getD f 0≠91:=fun e=>by rw [e] at hreg;exact absurd hreg (by decide)
 have n93:bs.getD f 0≠93:=fun e=>by rw [e] at hreg;exact absurd hreg (by decide)
 have n60:bs.getD f 0≠60:=fun e=>by rw [e] at hreg;exact absurd hreg (by decide)
 have n62:bs.getD f 0≠62:=fun e=>by rw [e] at hreg;exact absurd hreg (by decide)
 have n40:bs.getD f 0≠40:=fun e=>by rw [e] at hreg;exact absurd hreg (by decide)
 have n47:bs.getD f 0≠47:=fun e=>by rw [e] at hreg;exact absurd hreg (by decide)
 have e91:=zat n91 91 rfl
 have e93:=zat n93 93 rfl
 have e60:=zat n60 60 rfl
 have e62:=zat n62 62 rfl
 have e40:=zat n40 40 rfl
 have e47:=zat n47 47 rfl
 have e43:=zat hd.2.1 43 rfl
 have e45:=zat hd.2.2.1 45 rfl
 have e46:=zat hd.2.2.2 46 rfl
 have hd0:=hd.1
 clear hd
 obtain ⟨b,off,R,r,x,rfl,hbW,hx,hR,hRL,hrr,hcap,hcm,hkd,hkd2,hff,hffn,hfi,hf9,hrl,hS,hRN,hc,hcf,hZ,hB0⟩:=zaA hr hn hk0 hk1 hf hfl
 have HRW:=Lib.hid hr
 have HC:=Lib.hid hc
 have HS:=Lib.hid hS
 have HRN:=Lib.hid hRN
 have HRR:=Lib.hid hR
 have HRL:=Lib.hid hRL
 have HRE:=Lib.hid hrr
 have HZ:=Lib.hid hZ
 have HB0:=Lib.hid hB0
 clear hS hRN hRL hZ hB0
 have HDL:=Lib.hid (fun W=>zaL (bs.getD f 0).toNat W)
 rw [←zbW,hdl] at HDL
 rw [hx] at HDL e91 e93 e60 e62 e40 e47
 clear n91 n93 n60 n62 n40 n47 hdl hreg
 rw [←hR] at HT
 have hRt:(bs.drop f).take (R-f)=regs (bs.drop f):=by rw [za7,hR,Nat.add_sub_cancel_left]
 have HRT:=Lib.hid hRt
 have hrt:=zbh (bs.drop f)
 have hRf:f≤R:=by omega
 have hRl2:R≤bs.length:=HRL.out
 have hcf1:¬cap=f:=by omega
 have HRlen:=Lib.hid (show (regs (bs.drop f)).length≤400000 by show runN _≤_;omega)
 clear hRt hrt
 rw [hx] at hd0 e43 e45 e46
 have d1:decide ((48:Int)≤x)=false:=decide_eq_false (by omega)
 clear hd0
 have q1:((R:Int)==(bs.length:Int))=false:=by rw [beq_eq_false_iff_ne];omega
 have q2:decide (R=bs.length)=false:=decide_eq_false (by omega)
 clear h1
 clear hr hf hR hrr hrl hk0 hk1 hc hV hx
 go_enter Tryz.func44,Tryz.ntmps44
 go_wp2_with fail
 refine (HS.out _ HB0.out).mono ?_
 rintro e w' ⟨rfl,rfl⟩
 rw [←HRE.out]
 generalize w.alloc _=W1 at *
 obtain ⟨hcj1,hcj,hbn,hbl,hX⟩:=zau hbW HRE.out HB0.out hcf HZ.out
 have HX:=Lib.hid hX
 clear hcf hX
 go_wp2_with fail
 refine (HRN.out _ HX.out.bel).mono ?_
 rintro e w' ⟨rfl,rfl⟩
 clear hcj1 hcj hbn hbl
 generalize W1.alloc _=W2 at *
 generalize W1.heap.size=p at *
 clear HZ HB0
 have hcv:(convert 24 9 (.slice (some ⟨b,off+f,none⟩) (R-f) (cap-f))).run Tryz.prog W2=.ok (.string (mkB ((bs.drop f).take (R-f)))) W2:=zaR (X:=⟨none,0,bs,true⟩) HC.out f (R-f) (by have:=HRL.out;show f+_≤bs.length;omega) W2 HX.out.bel
 rw [HRT.out] at hcv
 have HV:=Lib.hid (HVV.out.trans (za2 HFL.out rfl (x:={ kind:=6,s:=regs (bs.drop f) }) (j:=R) HT.out HRL.out))
 obtain ⟨⟨k0,k1,k2,k3,k4,k5,k6,k7⟩,m0,m1,m2,m3,m4,m5,m6,m7⟩:=zaf HX.out.blk
 obtain ⟨⟨n0,n1,n2,n3,n4,n5,n6,n7⟩,-⟩:=zaf HX.out.no
 go_wp2_with (go_at_call 73;refine (HDL.out _).mono ?_;rintro e w' ⟨rfl,rfl⟩)
 refine bodyPost_ret (zaa rfl _ _ r 91 _ (0,0) _ rfl (set8 HX.out.blk _ _ _ _ _ _ _ _) Tryz.underlying91 rfl zaq _ rfl) rfl ?_
 exact zar (x:={ kind:=6,s:=regs (bs.drop f) }) HX.out.bel HX.out.wr HV.out _ _ _ _ _ _ _ _
theorem zgk {w:World} {a:Option Addr} {cap:Nat} {bs:List UInt8} (hr:Row w 1 a bs.length cap (bs.map u8C)) (hn:bs.length≤400000) {k:Int} (last:Bool) (hk0:0≤k) (hk1:k≤bs.length) {f:Nat} (hf:zaF bs k=f) (hfl:f<bs.length) {V:Tk×Int×Int×Int} (hV:V=zbf bs f last) (hreg:isRg (bs.getD f 0)=true) (h1:f+runN (bs.drop f)≠bs.length) (hd:57<(bs.getD f 0).toNat) :
   Calls Tryz.prog 44 #[.slice a bs.length cap,.int .i64 k,.bool last] w (zax w V):=by
 have HT:=Lib.hid (show tokV last (bs.getD f 0) (bs.drop (f+1))=_ from zbp (X:=⟨none,0,bs,last⟩) (k:=f) hfl hreg)
 have hnl:¬(runN ((⟨none,0,bs,last⟩:Src).bs.drop f)=((⟨none,0,bs,last⟩:Src).bs.drop f).length∧(⟨none,0,bs,last⟩:Src).last=false):=by
   show ¬(runN (bs.drop f)=(bs.drop f).length∧last=false)
   rw [List.length_drop]
   intro h;exact h1 (by omega)
 have hnum:¬(isDg (bs.getD f 0)=true∨bs.getD f 0=43∨bs.getD f 0=45∨bs.getD f 0=46):=by
   rintro (h|h|h|h)
   · have h2:=zbc.1 h;omega
   · rw [h] at hd;exact absurd hd (by decide)
   · rw [h] at hd;exact absurd hd (by decide)
   · rw [h] at hd;exact absurd hd (by decide)
 have ht:=HT.out
 unfold rgV at ht
 rw [if_neg hnl,if_neg hnum] at ht
 rw [List.drop_drop] at ht
 clear HT hnl hnum
 have HT:=Lib.hid (show tokV last (bs.getD f 0) (bs.drop (f+1))=(0,{ kind:=6,s:=regs (bs.drop f) },bs.drop (f+runN (bs.drop f))) from ht)
 clear ht
 have HVV:=Lib.hid hV
 have HFL:=Lib.hid hfl
 have hdl:isDl (bs.getD f 0)=false:=by
   have h:=hreg
   unfold isRg at h
   cases hh:isDl (bs.getD f 0) with
   | false=>rfl
   | true=>rw [hh] at h;simp at h
 have n91:bs.getD f 0≠91:=fun e=>by rw [e] at hreg;exact absurd hreg (by decide)
 have n93:bs.getD f 0≠93:=fun e=>by rw [e] at hreg;exact absurd hreg (by decide)
 have n60:bs.getD f 0≠60:=fun e=>by rw [e] at hreg;exact absurd hreg (by decide)
 have n62:bs.getD f 0≠62:=fun e=>by rw [e] at hreg;exact absurd hreg (by decide)
 have n40:bs.getD f 0≠40:=fun e=>by rw [e] at hreg;exact absurd hreg (by decide)
 have n47:bs.getD f 0≠47:=fun e=>by rw [e] at hreg;exact absurd hreg (by decide)
 have e91:=zat n91 91 rfl
 have e93:=zat n93 93 rfl
 have e60:=zat n60 60 rfl
 have e62:=zat n62 62 rfl
 have e40:=zat n40 40 rfl
 have e47:=zat n47 47 rfl
 obtain ⟨b,off,R,r,x,rfl,hbW,hx,hR,hRL,hrr,hcap,hcm,hkd,hkd2,hff,hffn,hfi,hf9,hrl,hS,hRN,hc,hcf,hZ,hB0⟩:=zaA hr hn hk0 hk1 hf hfl
 have HRW:=Lib.hid hr
 have HC:=Lib.hid hc
 have HS:=Lib.hid hS
 have HRN:=Lib.hid hRN
 have HRR:=Lib.hid hR
 have HRL:=Lib.hid hRL
 have HRE:=Lib.hid hrr
 have HZ:=Lib.hid hZ
 have HB0:=Lib.hid hB0
 clear hS hRN hRL hZ hB0
 have HDL:=Lib.hid (fun W=>zaL (bs.getD f 0).toNat W)
 rw [←zbW,hdl] at HDL
 rw [hx] at HDL e91 e93 e60 e62 e40 e47
 clear n91 n93 n60 n62 n40 n47 hdl hreg
 rw [←hR] at HT
 have hRt:(bs.drop f).take (R-f)=regs (bs.drop f):=by rw [za7,hR,Nat.add_sub_cancel_left]
 have HRT:=Lib.hid hRt
 have hrt:=zbh (bs.drop f)
 have hRf:f≤R:=by omega
 have hRl2:R≤bs.length:=HRL.out
 have hcf1:¬cap=f:=by omega
 have HRlen:=Lib.hid (show (regs (bs.drop f)).length≤400000 by show runN _≤_;omega)
 clear hRt hrt
 rw [hx] at hd
 have d1:decide ((48:Int)≤x)=true:=decide_eq_true (by omega)
 have d2:decide ((x:Int)≤57)=false:=decide_eq_false (by omega)
 have e43:((x:Int)==43)=false:=by rw [beq_eq_false_iff_ne];omega
 have e45:((x:Int)==45)=false:=by rw [beq_eq_false_iff_ne];omega
 have e46:((x:Int)==46)=false:=by rw [beq_eq_false_iff_ne];omega
 clear hd
 have q1:((R:Int)==(bs.length:Int))=false:=by rw [beq_eq_false_iff_ne];omega
 have q2:decide (R=bs.length)=false:=decide_eq_false (by omega)
 clear h1
 clear hr hf hR hrr hrl hk0 hk1 hc hV hx
 go_enter Tryz.func44,Tryz.ntmps44
 go_wp2_with fail
 refine (HS.out _ HB0.out).mono ?_
 rintro e w' ⟨rfl,rfl⟩
 rw [←HRE.out]
 generalize w.alloc _=W1 at *
 obtain ⟨hcj1,hcj,hbn,hbl,hX⟩:=zau hbW HRE.out HB0.out hcf HZ.out
 have HX:=Lib.hid hX
 clear hcf hX
 go_wp2_with fail
 refine (HRN.out _ HX.out.bel).mono ?_
 rintro e w' ⟨rfl,rfl⟩
 clear hcj1 hcj hbn hbl
 generalize W1.alloc _=W2 at *
 generalize W1.heap.size=p at *
 clear HZ HB0
 have hcv:(convert 24 9 (.slice (some ⟨b,off+f,none⟩) (R-f) (cap-f))).run Tryz.prog W2=.ok (.string (mkB ((bs.drop f).take (R-f)))) W2:=zaR (X:=⟨none,0,bs,true⟩) HC.out f (R-f) (by have:=HRL.out;show f+_≤bs.length;omega) W2 HX.out.bel
 rw [HRT.out] at hcv
 have HV:=Lib.hid (HVV.out.trans (za2 HFL.out rfl (x:={ kind:=6,s:=regs (bs.drop f) }) (j:=R) HT.out HRL.out))
 obtain ⟨⟨k0,k1,k2,k3,k4,k5,k6,k7⟩,m0,m1,m2,m3,m4,m5,m6,m7⟩:=zaf HX.out.blk
 obtain ⟨⟨n0,n1,n2,n3,n4,n5,n6,n7⟩,-⟩:=zaf HX.out.no
 go_wp2_with (go_at_call 73;refine (HDL.out _).mono ?_;rintro e w' ⟨rfl,rfl⟩)
 refine bodyPost_ret (zaa rfl _ _ r 91 _ (0,0) _ rfl (set8 HX.out.blk _ _ _ _ _ _ _ _) Tryz.underlying91 rfl zaq _ rfl) rfl ?_
 exact zar (x:={ kind:=6,s:=regs (bs.drop f) }) HX.out.bel HX.out.wr HV.out _ _ _ _ _ _ _ _
end Go.Proofs.YtkhcjoomijkfbaaGreatDoor
