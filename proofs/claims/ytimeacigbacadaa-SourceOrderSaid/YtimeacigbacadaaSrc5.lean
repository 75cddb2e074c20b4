/-
  Walks of layer 16: bytes are put.
-/
import Derived.Test.YtimeacigbacadaaSrc4
import Derived.Test.YtimeacigbacadaaSrcP
import Derived.Test.YtimeacigbacadaaSetG
import Derived.StillTailTactics
namespace Go.Proofs.Ytimeacigbacadaa
open Go.RowKit Go.Maps Go.Sort

/-- What holds amid the loop of Put; W is the world ahead of it. -/
structure PutAt (W : World) (mb n : Nat) (f : Int → Option Nat) (C' : Nat → UInt8) (c : Nat) (D : List (Int × Int)) (wr : World) (n' : Nat) (f' : Int → Option Nat) : Prop where
  mem : Mem wr mb n' f' C'
  keep : Keeps (MemS mb f) W wr
  old : ∀ (k g : Nat), f k = some g → f' k = some g
  new : ∀ (k g : Nat), f' k = some g → f k = some g ∨ W.heap.size ≤ g
  num : n' ≤ n + c
  had : ∀ z ∈ D, ∀ i : Nat, z.1 ≤ i → (i : Int) < z.2 → f' ((i / 4096 : Nat) : Int) ≠ none
theorem PutAt.memS {W : World} {mb n : Nat} {f : Int → Option Nat} {C' : Nat → UInt8} {c : Nat} {D : List (Int × Int)} {wr : World} {n' : Nat} {f' : Int → Option Nat} (h : PutAt W mb n f C' c D wr n' f') :
    ∀ b, MemS mb f' b → MemS mb f b ∨ W.heap.size ≤ b := by
  rintro b (rfl | ⟨k, hk⟩)
  · exact .inl (.inl rfl)
  · rcases h.new k b hk with h1 | h1
    · exact .inl (.inr ⟨k, h1⟩)
    · exact .inr h1
theorem PutAt.start {W : World} {mb n : Nat} {f : Int → Option Nat} {C : Nat → UInt8} (h : Mem W mb n f C) : PutAt W mb n f C 0 [] W n f :=
  ⟨h, Keeps.refl _ _, fun _ _ h => h, fun _ _ h => .inl h, Nat.le_refl _, fun z hz => by cases hz⟩
theorem PutAt.step {W : World} {mb n : Nat} {f : Int → Option Nat} {C' : Nat → UInt8} {c : Nat} {D : List (Int × Int)} {wr w1 w2 : World} {n' : Nat} {f' : Int → Option Nat} (h : PutAt W mb n f C' c D wr n' f') (hk1 : Keeps (fun b => wr.heap.size ≤ b) wr w1)
    {z : Int × Int} {A : Nat} {l : List UInt8} {e : Ending} (hA : z.1 = A) (hz : z.2 = A + l.length) {m : Nat} (hl : l.length ≤ m) (hw : WrEnd w1 mb n' f' C' A l e w2) :
    ∃ n2 f2, PutAt W mb n f (putC C' A l) (c + m) (D ++ [z]) w2 n2 f2 := by
  obtain ⟨-, n2, f2, hm, hn, hk, ho, hnw, hh⟩ := hw
  have s0 := h.keep.size
  have s1 := hk1.size
  refine ⟨n2, f2, hm, (h.keep.trans hk1 (fun b hb => .inr (by omega))).trans hk (fun b hb => h.memS b hb), fun k g e => ho k g (h.old k g e), fun k g e => ?_, by have := h.num; omega, fun y hy i h1 h2 => ?_⟩
  · rcases hnw k g e with h1 | h1
    · exact h.new k g h1
    · exact .inr (by omega)
  · rcases List.mem_append.1 hy with hy | hy
    · have h3 := h.had y hy i h1 h2
      cases hf : f' ((i / 4096 : Nat) : Int) with
      | none => exact absurd hf h3
      | some g => rw [ho _ g hf]; simp
    · simp only [List.mem_singleton] at hy
      subst hy
      exact hh i (by omega) (by omega)

/-- What Put leaves. -/
def SPutEnd (w : World) (U : Nat → Prop) (p tot N : Nat) (T : List (Int × Int)) (C : Nat → UInt8) (at_ : Nat) (bs : List UInt8) (e : Ending) (w' : World) : Prop :=
  e = .returned (.int .i64 0) ∧ ∃ U' T' C', SrcQ w' U' p tot N T' C' ∧ PutS T ((at_ : Int), (at_ : Int) + bs.length) T' ∧ newC T C at_ bs C' ∧ Keeps U w w' ∧ ∀ b, U' b → U b ∨ w.heap.size ≤ b

theorem sput_fin {w w3 wr wd w' : World} {S U : Nat → Prop} {p tot N : Nat} {T M : List (Int × Int)} {v0 : Value} {mb n c n' : Nat} {f f' : Int → Option Nat} {C : Nat → UInt8} {at_ : Nat} {bs : List UInt8} {e : Ending} (hs : IsSrc w S p tot T v0 mb n f C) (hU : ∀ b, U b ↔ (S b ∨ MemS mb f b))
    (hB : Below w.heap.size w w3) (hT : PutAt w3 mb n f (putM bs at_ C M) c M wr n' f') (hd : Keeps (fun b => wr.heap.size ≤ b) wr wd) (hM : M = missS T ((at_ : Int), (at_ : Int) + bs.length)) (hA : at_ + bs.length ≤ tot) (hN : n + c ≤ N)
    (hp : PutEndG wd S p 2 (srcC tot v0 mb) 68 T ((at_ : Int), (at_ : Int) + bs.length) e w') : SPutEnd w U p tot N T C at_ bs (.returned (.int .i64 0)) w' := by
  obtain ⟨-, T', hP, S', v', hset, hk, hS'⟩ := hp
  obtain ⟨hF, hcov⟩ := putS_form hP
  have hBk : Keeps (fun b => w.heap.size ≤ b) w w3 := Keeps.of_below hB (fun _ h => h)
  have s1 := hB.size
  have s2 := hT.keep.size
  have s3 := hd.size
  have hm := hT.memS
  have hml := hT.mem.lt
  have hsm : ∀ b, MemS mb f' b → ¬ S b := fun b hb hSb => by
    rcases hm b hb with h1 | h1
    · exact hs.ap b h1 hSb
    · have := hs.set.lt b hSb; omega
  refine ⟨rfl, fun b => S' b ∨ MemS mb f' b, T', putM bs at_ C M, ⟨S', v', mb, n', f', ⟨?_, ?_, ?_, hF, ?_, ?_, hs.totb⟩, by have := hT.num; omega, fun b => Iff.rfl⟩, hP, by rw [hM]; exact putM_new hs.form C at_ bs, ?_, ?_⟩
  · have : (srcC tot v0 mb).setIfInBounds 2 v' = srcC tot v' mb := by simp [srcC]
    rw [← this]; exact hset
  · exact (hT.mem.keeps hd (fun b hb hn => by have := hml b hb; omega)).keeps hk hsm
  · intro b hb hSb
    rcases hS' b hSb with h1 | h1
    · exact hsm b hb h1
    · have := hml b hb; omega
  · intro z hz
    have hz1 := hF.full z hz
    have hc : cov T' (z.2 - 1) := ⟨z, hz, hz1.1, by omega, by omega⟩
    rcases (hcov _).1 hc with h1 | h1
    · obtain ⟨y, hy, _, _, h2⟩ := h1
      have := hs.in_ y hy; omega
    · obtain ⟨y, hy, _, _, h2⟩ := h1
      simp only [List.mem_singleton] at hy
      subst hy
      simp only at h2; omega
  · intro i hi
    by_cases h0 : cov T i
    · have h1 := hs.known i h0
      cases hf : f ((i / 4096 : Nat) : Int) with
      | none => exact absurd hf h1
      | some g => rw [hT.old _ g hf]; simp
    · rcases (hcov _).1 hi with h1 | h1
      · exact absurd h1 h0
      · obtain ⟨y, hy, h2, h3, h4⟩ := h1
        simp only [List.mem_singleton] at hy
        subst hy
        simp only at h2 h3 h4
        have h5 : cov M i := by rw [hM]; exact ((miss_in hs.form at_ bs).2 i).2 ⟨by omega, by omega, h0⟩
        obtain ⟨z, hz, _, h6, h7⟩ := h5
        exact hT.had z hz i h6 h7
  · have k1 : Keeps U w wr := ((Keeps.refl U w).trans hBk (fun b hb => .inr hb)).trans hT.keep (fun b hb => .inl ((hU b).2 (.inr hb)))
    exact (k1.trans hd (fun b hb => .inr (by omega))).trans hk (fun b hb => .inl ((hU b).2 (.inl hb)))
  · rintro b (hb | hb)
    · rcases hS' b hb with h1 | h1
      · exact .inl ((hU b).2 (.inl h1))
      · exact .inr (by omega)
    · rcases hm b hb with h1 | h1
      · exact .inl ((hU b).2 (.inr h1))
      · exact .inr (by omega)

theorem row_sub {w : World} {b0 o0 cap : Nat} {bs : List UInt8} (h : Row w 1 (some ⟨b0, o0, none⟩) bs.length cap (bs.map u8C)) (u v : Nat) (huv : u < v) (hv : v ≤ bs.length) :
    Row w 1 (some ⟨b0, o0 + u, none⟩) ((bs.drop u).take (v - u)).length (cap - u) (((bs.drop u).take (v - u)).map u8C) := by
  obtain ⟨b1, o1, hab, hbw, hcell⟩ := h.at 0 0 (by omega)
  cases hab
  have hc := h.2.1
  refine ⟨by simp, by simp; omega, by have := h.2.2.1; omega, fun h => (by cases h), fun _ => ⟨b0, o0 + u, rfl, hbw, fun j x hj => ?_⟩⟩
  rw [List.getElem?_map] at hj
  obtain ⟨y, hy, rfl⟩ := Option.map_eq_some_iff.1 hj
  rw [List.getElem?_take] at hy
  split at hy
  · rw [List.getElem?_drop] at hy
    have hlt := (List.getElem?_eq_some_iff.1 hy).1
    have h2 := hcell (u + j) hlt
    rw [← Nat.add_assoc] at h2
    rw [h2]
    simp [List.getD, hy]
  · cases hy

set_option maxRecDepth 8000 in
set_option maxHeartbeats 8000000 in
theorem sput_any {w : World} {U : Nat → Prop} {p tot N : Nat} {T : List (Int × Int)} {C : Nat → UInt8} (h : SrcQ w U p tot N T C) (hT : T.length ≤ 1000) (at_ : Nat) {a : Option Addr} {cap : Nat} {bs : List UInt8} (hr : Row w 1 a bs.length cap (bs.map u8C)) (ha : 0 < bs.length → ∀ x, a = some x → ¬ U x.block)
    (hA : at_ + bs.length ≤ tot) {N' : Nat} (hN : N + (T.length + 1) * bs.length ≤ N') (hN' : N' ≤ 1000000000) :
    Calls Try.prog 19 #[.pointer (some ⟨p, 0, none⟩), .int .i64 at_, .slice a bs.length cap] w (SPutEnd w U p tot N' T C at_ bs) := by
  have HI := Lib.hid (is_any h)
  have HQ := Lib.hid h
  obtain ⟨S, v0, mb, n, f, hs, hnN, hU⟩ := h
  have HS := Lib.hid hs
  have HU := Lib.hid hU
  have HR := Lib.hid hr
  have HAL := Lib.hid ha
  obtain ⟨-, c1, c2, c3⟩ := hs.cells
  have htb := hs.totb
  have hp := hs.set.lt p hs.set.own
  obtain ⟨x, hx⟩ : ∃ x : Int, x = (at_ : Int) + bs.length := ⟨_, rfl⟩
  have HX := Lib.hid hx
  have hd1 : decide ((at_ : Int) < 0) = false := decide_eq_false (by omega)
  have hd2 : decide ((tot : Int) < at_) = false := decide_eq_false (by omega)
  have hd3 : decide ((tot : Int) - at_ < bs.length) = false := decide_eq_false (by omega)
  have hd2n : decide (tot < at_) = false := decide_eq_false (by omega)
  have hcap := hr.2.1
  have hmx := hr.i64
  have HTL := Lib.hid hT
  have HNN := Lib.hid hN
  have HN1 := Lib.hid hN'
  have HnN := Lib.hid hnN
  clear hs hU hr ha hT hN hN' hnN
  go_enter Try.func19, Try.ntmps19
  go_wp2_with (go_at_call 34; refine HI.out.mono ?_; rintro e w' ⟨rfl, rfl⟩)
  rw [← hx]
  obtain ⟨W, hW⟩ : ∃ W, W = w.alloc (.cells #[.int .i64 at_, .int .i64 x] 23) := ⟨_, rfl⟩
  have hbx : W.heap[w.heap.size]? = some (.cells #[.int .i64 at_, .int .i64 x] 23 (0, 0)) := by rw [hW]; exact heapA_new _ rfl
  have hB : Below w.heap.size w W := by rw [hW]; exact belowA _ _
  have hsz : W.heap.size = w.heap.size + 1 := by rw [hW, sizeA]
  rw [← hW]
  clear hW
  have HSW := Lib.hid (HS.out.mono hB)
  have HMI := Lib.hid (fun W' (hb : Below W.heap.size W W') => missing_any (some ⟨p, 2, none⟩) T at_ x W' ((HSW.out.mono hb).set.toV) (by have := HTL.out; omega))
  have hml := missGo_len x T at_
  obtain ⟨M, hM⟩ : ∃ M, M = missS T ((at_ : Int), x) := ⟨_, rfl⟩
  have hMl : M.length ≤ T.length + 1 := by
    rw [hM]; unfold missS
    split
    · simp
    · exact hml
  have hMl2 : M.length ≤ 1001 := by have := HTL.out; omega
  rw [← hM] at HMI
  have HML := Lib.hid hMl
  have HM := Lib.hid hM
  clear hM hml hMl
  have q0 : W.cell? ⟨w.heap.size, 0, none⟩ = some (.int .i64 at_) := by rw [cell_of_row W _ 0 _ _ _ hbx]; rfl
  have q1 : W.cell? ⟨w.heap.size, 1, none⟩ = some (.int .i64 x) := by rw [cell_of_row W _ 1 _ _ _ hbx]; rfl
  have HBX := Lib.hid hbx
  have HB := Lib.hid hB
  clear hbx hB c1 c2 c3
  clear hd1 hd2 hd3 hd2n hmx hx
  go_region_held3 (fun w' => w'.cell? ⟨w.heap.size, 0, none⟩ = some (.int .i64 at_) ∧ w'.cell? ⟨w.heap.size, 1, none⟩ = some (.int .i64 x)) (first | assumption | exact ⟨q0, q1⟩ | exact ⟨cell?_keep (by assumption) q0, cell?_keep (by assumption) q1⟩)
    ((go_at_call 9; refine (HMI.out _ ((Below.refl _ _).drew)).mono ?_; rintro e w3 ⟨v3, rfl, hO3, hb3⟩; obtain ⟨a3, cap3, hv3, -⟩ := Row.of_owns hO3; subst hv3; have hb4 : Below W.heap.size W w3 := (Below.refl _ _).drew.trans hb3))
  have HO3 := Lib.hid (show w3.ownsRow W.heap.size 23 2 (Value.slice a3 M.length cap3) M.length (spV M) from hO3)
  have HB3 := Lib.hid hb4
  have HS3 := Lib.hid (HSW.out.mono hb4)
  have HBX3 := Lib.hid (block_keep hb4 HBX.out)
  have hs3 := hb4.size
  clear hO3 hb3 hb4 q0 q1
  obtain ⟨_, _, hz3, hr3, hbl3⟩ := Row.of_owns HO3.out
  cases hz3
  have HR3 := Lib.hid (show SRow w3 a3 M.length cap3 M from hr3)
  have HNEQ := Lib.hid (show ∀ z, a3 = some z → ¬ MemS mb f z.block from fun z hz hm => by
    have h1 := hbl3 z hz
    have h2 := HS.out.mem.lt _ hm
    omega)
  have HIN := Lib.hid (show ∀ k, k < M.length → ∃ F G : Nat, M.getD k (0, 0) = ((F : Int), (G : Int)) ∧ at_ ≤ F ∧ F < G ∧ G ≤ at_ + bs.length from fun k hk => by
    have h1 := (miss_in HS.out.form at_ bs).1 (M.getD k (0, 0)) (by rw [← HX.out, ← HM.out]; exact getD_mem2 hk)
    exact ⟨(M.getD k (0, 0)).1.toNat, (M.getD k (0, 0)).2.toNat, Prod.ext (by simp only; omega) (by simp only; omega), by omega, by omega, by omega⟩)
  have hUS : ∀ b, MemS mb f b → U b := fun b hb => (HU.out b).2 (.inr hb)
  have HCL3 := Lib.hid (show w3.cell? ⟨p, 3, none⟩ = some (.map (some mb)) from HS3.out.cells.2.2.2)
  have hpm : ¬ MemS mb f p := fun hm => HS.out.ap p hm HS.out.set.own
  have HPM := Lib.hid hpm
  have HUS := Lib.hid hUS
  have HRW := Lib.hid (HR.out.mono (HB.out.trans (HB3.out.mono (by omega))))
  clear hr3 hbl3 hpm hUS
  go_wp2
  go_loopw [47] (fun vi wr => ∃ (k : Nat) (n' : Nat) (f' : Int → Option Nat), vi = .int .i64 k ∧ k ≤ M.length ∧ Hid (PutAt w3 mb n f (putM bs at_ C (M.take k)) (k * bs.length) (M.take k) wr n' f')) (fun vi _ => M.length - (intOf vi).toNat)
  case atStart => exact ⟨0, n, f, rfl, Nat.zero_le _, Lib.hid (by rw [Nat.zero_mul]; exact PutAt.start HS3.out.mem)⟩
  case round =>
    obtain ⟨k, n', f', rfl, hk, HT⟩ := hrel
    by_cases hlt : k < M.length
    · obtain ⟨F, G, hz, hF, hFG, hG⟩ := HIN.out k hlt
      obtain ⟨b, off, rfl, _, hc⟩ := SRow.at (HR3.out.keeps HT.out.keep HNEQ.out) k hlt
      obtain ⟨hc0, hc1⟩ := hc k hlt
      rw [hz] at hc0 hc1
      simp only at hc0 hc1
      have HZ := Lib.hid hz
      clear hc hz
      obtain ⟨b0, o0, rfl, _, _⟩ := HRW.out.at 0 0 (by omega)
      obtain ⟨u, hu⟩ : ∃ u : Nat, u = F - at_ := ⟨_, rfl⟩
      obtain ⟨v, hv⟩ : ∃ v : Nat, v = G - at_ := ⟨_, rfl⟩
      have hui : (F : Int) - at_ = (u : Int) := by omega
      have hvi : (G : Int) - at_ = (v : Int) := by omega
      have huv : u < v := by omega
      have hvl : v ≤ bs.length := by omega
      have hucap : u < cap := by omega
      have hvcap : v ≤ cap := by omega
      have hcmx : cap ≤ maxLen := HR.out.2.2.1
      have hblk1 : (wr.alloc (.cells #[.int .i64 F, .int .i64 G] 23)).heap[wr.heap.size]? = some (.cells #[.int .i64 F, .int .i64 G] 23 (0, 0)) := heapA_new _ rfl
      have hk1 : Keeps (fun b => wr.heap.size ≤ b) wr (wr.alloc (.cells #[.int .i64 F, .int .i64 G] 23)) := (Keeps.refl _ _).alloc _
      go_wp2_with fail
      generalize wr.alloc (.cells #[.int .i64 F, .int .i64 G] 23) = W1 at *
      have e0 : W1.cell? ⟨wr.heap.size, 0, none⟩ = some (.int .i64 F) := by rw [cell_of_row W1 _ 0 _ _ _ hblk1]; rfl
      have e1 : W1.cell? ⟨wr.heap.size, 1, none⟩ = some (.int .i64 G) := by rw [cell_of_row W1 _ 1 _ _ _ hblk1]; rfl
      have HK1 := Lib.hid hk1
      have HBL1 := Lib.hid hblk1
      have HUU := Lib.hid (And.intro hu hv)
      clear hk1 hblk1 hu hv
      have iu : IntKind.i64.wrap (u : Int) = (u : Int) := IntWalk.i64_in _ (by unfold maxLen at hcmx; omega)
      have iv : IntKind.i64.wrap (v : Int) = (v : Int) := IntWalk.i64_in _ (by unfold maxLen at hcmx; omega)
      have hmx0 : max (v : Int) 0 = (v : Int) := by omega
      have hcne : ¬ cap = u := by omega
      have huv' : u ≤ v := by omega
      have HTM := Lib.hid (HT.out.memS)
      have hlen : ((bs.drop u).take (v - u)).length = v - u := by simp; omega
      have hW1s := HK1.out.size
      have hws3 : w3.heap.size ≤ wr.heap.size := HT.out.keep.size
      have hpw : p < wr.heap.size := by omega
      have hb0 : b0 < w3.heap.size := by
        obtain ⟨b1, o1, hb1, hb2, _⟩ := HRW.out.at 0 0 (by omega)
        cases hb1; exact hb2
      have K1d : Keeps (fun b => wr.heap.size ≤ b) wr W1.drew := HK1.out.drewN 1
      have hb0U : ¬ MemS mb f b0 := fun e => HAL.out (by omega) _ rfl (HUS.out b0 e)
      have HW5 := Lib.hid (write_any (p := p) (HT.out.mem.keeps K1d (fun b hb hn => by have := HT.out.mem.lt b hb; omega)) (K1d.cell (HT.out.keep.cell HCL3.out HPM.out) (by omega))
        (fun e => by
          rcases HTM.out p e with h1 | h1
          · exact HPM.out h1
          · have := hs3; omega) F (cap := cap - u) (bs := (bs.drop u).take (v - u))
        (row_sub ((HRW.out.keeps HT.out.keep (fun y hy => by cases hy; exact hb0U)).keeps K1d (fun y hy => by cases hy; show ¬ wr.heap.size ≤ b0; omega)) u v huv hvl)
        (fun y hy e => by
          cases hy
          rcases HTM.out b0 e with h1 | h1
          · exact hb0U h1
          · omega)
        (by rw [hlen]; have := HUU.out; omega)
        (by
          rw [hlen]
          have h1 := HT.out.num
          have h2 : (k + 1) * bs.length ≤ (T.length + 1) * bs.length := Nat.mul_le_mul_right _ (by have := HML.out; omega)
          rw [Nat.add_mul, Nat.one_mul] at h2
          have h3 := HNN.out
          have h4 := HN1.out
          have h5 := HnN.out
          omega))
      rw [hlen] at HW5
      have HLEN := Lib.hid hlen
      have HKD := Lib.hid K1d
      clear hlen K1d hb0U
      go_still_tail 13, (by kernel_rfl)
      go_wp2_with fail
      refine HW5.out.mono ?_
      intro e w5 hw5
      obtain ⟨n2, f2, hT2⟩ := HT.out.step HKD.out (z := ((F : Int), (G : Int))) (m := bs.length) rfl (by rw [HLEN.out]; have := HUU.out; simp only; omega) (by rw [HLEN.out]; omega) hw5
      obtain ⟨rfl, -⟩ := hw5
      have hT3 : PutAt w3 mb n f (putM bs at_ C (M.take (k + 1))) ((k + 1) * bs.length) (M.take (k + 1)) w5 n2 f2 := by
        rw [take_succ_getD M k hlt, HZ.out, putM_snoc, Nat.add_mul, Nat.one_mul]
        have e1 : chunk bs at_ ((F : Int), (G : Int)) = (bs.drop u).take (v - u) := by
          have := HUU.out
          unfold chunk
          simp only [Int.toNat_natCast]
          rw [this.1, this.2, show G - at_ - (F - at_) = G - F by omega]
        rw [e1]
        exact hT2
      have HT3 := Lib.hid hT3
      clear hT2 hT3 iu iv hmx0 hcne hui hvi
      go_wp2
      go_roundw
      case rel => exact ⟨k + 1, n2, f2, by go_num, by omega, HT3⟩
      case measure => simp [intOf]; omega
    · obtain rfl : k = M.length := by omega
      have hbw : ¬ MemS mb f w.heap.size := fun e => by have := HS.out.mem.lt _ e; omega
      have hbx := HT.out.keep.obj HBX3.out hbw
      have q0 : wr.cell? ⟨w.heap.size, 0, none⟩ = some (.int .i64 at_) := by rw [cell_of_row wr _ 0 _ _ _ hbx]; rfl
      have q1 : wr.cell? ⟨w.heap.size, 1, none⟩ = some (.int .i64 x) := by rw [cell_of_row wr _ 1 _ _ _ hbx]; rfl
      have hset := HS3.out.set.keeps HT.out.keep (fun b hb e => HS.out.ap b e hb)
      have HP := Lib.hid (put_anyG p 2 S _ _ v0 T at_ x wr.drew (hset.mono (Below.refl _ _).drew) (fun z hz => by
        rcases List.mem_append.1 hz with hz | hz
        · have h1 := HS.out.form.full z hz
          have h2 := HS.out.in_ z hz
          omega
        · simp only [List.mem_singleton] at hz
          subst hz
          have := HX.out
          simp only
          omega) (by have := HTL.out; omega))
      have HFIN := Lib.hid (show ∀ e w', PutEndG wr.drew S p 2 (srcC tot v0 mb) 68 T ((at_ : Int), x) e w' → SPutEnd w U p tot N' T C at_ bs (.returned (.int .i64 0)) w' from fun e w' he => by
        have h0 := HT.out
        rw [List.take_length] at h0
        rw [HX.out] at he
        refine sput_fin HS.out HU.out (HB.out.trans (HB3.out.mono (by omega))) h0 ((Keeps.refl _ wr).drewN 1) (by rw [HM.out, HX.out]) hA ?_ he
        have h2 : M.length * bs.length ≤ (T.length + 1) * bs.length := Nat.mul_le_mul_right _ HML.out
        have h3 := HNN.out
        have h5 := HnN.out
        omega)
      clear hbw hbx hset
      go_wp2_with fail
      go_still_tail 4, (by kernel_rfl)
      go_wp2_with fail
      refine HP.out.mono ?_
      intro e w5 hw5
      have HF := Lib.hid (HFIN.out _ _ hw5)
      obtain ⟨rfl, -⟩ := hw5
      go_wp2
      go_ret
      exact HF.out
end Go.Proofs.Ytimeacigbacadaa
