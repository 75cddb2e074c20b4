/-
  Walks of layer 16: bytes are laid into blocks.
-/
import Derived.Test.YtimeacigbacadaaMem
import Derived.BigQuiet
import Derived.IntWalk
import Derived.Maps.RangeWalk
import Derived.Deep.QuietTactic
import Derived.Test.YtimeacigbacadaaArgs
namespace Go.Proofs.Ytimeacigbacadaa
open Go.RowKit Go.Maps

theorem EByte : ElemT Try.prog 39 5 (.int .u8 0) 1 1 := ⟨Try.underlying39, by kernel_rfl, rfl, by omega⟩
theorem infoByte : (Try.prog.info? 5).map (·.size) = some 1 := by kernel_rfl

/-- What write leaves. -/
def WrEnd (w : World) (mb n : Nat) (f : Int → Option Nat) (C : Nat → UInt8) (A : Nat) (bs : List UInt8) (e : Ending) (w' : World) : Prop :=
  e = .returned (.tuple #[]) ∧ ∃ n' f', Mem w' mb n' f' (putC C A bs) ∧ n' ≤ n + bs.length ∧ Keeps (MemS mb f) w w' ∧ (∀ (k g : Nat), f k = some g → f' k = some g) ∧ (∀ (k g : Nat), f' k = some g → f k = some g ∨ w.heap.size ≤ g) ∧
    ∀ i, A ≤ i → i < A + bs.length → f' ((i / 4096 : Nat) : Int) ≠ none
/-- What holds amid write. -/
structure WrAt (s : Nat) (w : World) (mb n : Nat) (f : Int → Option Nat) (C : Nat → UInt8) (A0 : Nat) (bs : List UInt8) (A : Nat) (l : List UInt8) (wr : World) (n' : Nat) (f' : Int → Option Nat) (C' : Nat → UInt8) : Prop where
  mem : Mem wr mb n' f' C'
  keep : Keeps (MemS mb f) w wr
  old : ∀ (k g : Nat), f k = some g → f' k = some g
  new : ∀ (k g : Nat), f' k = some g → f k = some g ∨ w.heap.size ≤ g
  put : putC C' A l = putC C A0 bs
  num : n' + l.length ≤ n + bs.length + s
  pos : A + l.length = A0 + bs.length
  had : ∀ i, A0 ≤ i → i < A → f' ((i / 4096 : Nat) : Int) ≠ none
theorem WrAt.start {w : World} {mb n : Nat} {f : Int → Option Nat} {C : Nat → UInt8} {A0 : Nat} {bs : List UInt8} (h : Mem w mb n f C) : WrAt 0 w mb n f C A0 bs A0 bs w n f C :=
  ⟨h, Keeps.refl _ _, fun _ _ h => h, fun _ _ h => .inl h, rfl, Nat.le_refl _, rfl, fun i h1 h2 => by omega⟩
theorem WrAt.memS {s : Nat} {w : World} {mb n : Nat} {f : Int → Option Nat} {C : Nat → UInt8} {A0 : Nat} {bs : List UInt8} {A : Nat} {l : List UInt8} {wr : World} {n' : Nat} {f' : Int → Option Nat} {C' : Nat → UInt8} (h : WrAt s w mb n f C A0 bs A l wr n' f' C') :
    ∀ b, MemS mb f' b → MemS mb f b ∨ w.heap.size ≤ b := by
  rintro b (rfl | ⟨k, hk⟩)
  · exact .inl (.inl rfl)
  · rcases h.new k b hk with h1 | h1
    · exact .inl (.inr ⟨k, h1⟩)
    · exact .inr h1
theorem WrAt.fin {w : World} {mb n : Nat} {f : Int → Option Nat} {C : Nat → UInt8} {A0 : Nat} {bs : List UInt8} {A : Nat} {wr : World} {n' : Nat} {f' : Int → Option Nat} {C' : Nat → UInt8} (h : WrAt 0 w mb n f C A0 bs A [] wr n' f' C') :
    WrEnd w mb n f C A0 bs (.returned (.tuple #[])) wr := by
  have hp := h.pos
  simp only [List.length_nil] at hp
  refine ⟨rfl, n', f', ?_, by have := h.num; simp at this; omega, h.keep, h.old, h.new, fun i h1 h2 => h.had i h1 (by omega)⟩
  rw [← h.put, putC_nil]; exact h.mem
/-- A round's end: into the block g some bytes are laid. -/
theorem WrAt.step {s : Nat} {w : World} {mb n : Nat} {f : Int → Option Nat} {C : Nat → UInt8} {A0 : Nat} {bs : List UInt8} {A : Nat} {l : List UInt8} {wr w2 : World} {n' : Nat} {f' : Int → Option Nat} {C' : Nat → UInt8} (h : WrAt s w mb n f C A0 bs A l wr n' f' C') (hs1 : s ≤ 1)
    {g m : Nat} (hf : f' ((A / 4096 : Nat) : Int) = some g) (hm : m = min l.length (4096 - A % 4096)) (hl : l ≠ [])
    (hg : w2.heap[g]? = some (.cells (splice (fl 4096 (fun i => u8C (C' (4096 * (A / 4096) + i)))) (A % 4096) ((l.take m).map u8C)).toArray 5 (0, 0))) (hk : Keeps (fun b => b = g) wr w2) :
    WrAt 0 w mb n f C A0 bs (A + m) (l.drop m) w2 n' f' (putC C' A (l.take m)) ∧ (l.drop m).length < l.length := by
  have hlen : 0 < l.length := List.length_pos_iff.2 hl
  have hmod : A % 4096 < 4096 := Nat.mod_lt _ (by omega)
  have hdm := Nat.div_add_mod A 4096
  have hml : m ≤ l.length := by omega
  have hm0 : 0 < m := by omega
  have hmem := h.mem.write (off := A % 4096) hf (l.take m) (by rw [List.length_take]; omega) hg hk
  rw [hdm] at hmem
  refine ⟨⟨hmem, h.keep.trans hk (fun b e => ?_), h.old, h.new, ?_, ?_, ?_, fun i h1 h2 => ?_⟩, by rw [List.length_drop]; omega⟩
  · subst e; exact h.memS b (.inr ⟨_, hf⟩)
  · rw [putC_two C' A m l hml]; exact h.put
  · have := h.num; rw [List.length_drop]; omega
  · have := h.pos; rw [List.length_drop]; omega
  · by_cases h3 : i < A
    · exact h.had i h1 h3
    · have : i / 4096 = A / 4096 := by omega
      rw [this, hf]; simp
/-- Amid a round: a block is made, and kept in the map. -/
theorem WrAt.more {w : World} {mb n : Nat} {f : Int → Option Nat} {C : Nat → UInt8} {A0 : Nat} {bs : List UInt8} {A : Nat} {l : List UInt8} {wr w1 w2 : World} {n' : Nat} {f' : Int → Option Nat} {C' : Nat → UInt8} (h : WrAt 0 w mb n f C A0 bs A l wr n' f' C')
    {k : Nat} (hf : f' k = none) (hb1 : Below wr.heap.size wr w1) (hO : w1.ownsRow wr.heap.size 5 1 (blkV wr.heap.size) 4096 (madeCells (Value.int .u8 0).cells (4096 * 1)).toList)
    (hm : MapB w2 mb (n' + 1) (fun j => if j = (k : Int) then some wr.heap.size else f' j)) (hg : w1.grownBy w2 (some mb)) :
    WrAt 1 w mb n f C A0 bs A l w2 (n' + 1) (fun j => if j = (k : Int) then some wr.heap.size else f' j) C' := by
  have hw := h.keep.size
  have hO2 : w1.ownsRow wr.heap.size 5 1 (blkV wr.heap.size) 4096 (List.replicate 4096 (.int .u8 0)) := by
    have e : (madeCells (Value.int .u8 0).cells (4096 * 1)).toList = List.replicate 4096 (.int .u8 0) := by
      rw [Nat.mul_one]; exact toList_madeCells_one _ _
    rw [e] at hO; exact hO
  have hs1 : wr.heap.size < w1.heap.size := (hO2.lt wr.heap.size rfl).2
  refine ⟨h.mem.more hf hb1 hs1 hO2 hm hg, ?_, fun k' g hk' => ?_, fun k' g hk' => ?_, h.put, by have := h.num; omega, h.pos, fun i h1 h2 => ?_⟩
  · exact (h.keep.trans (Keeps.of_below (S := fun b => wr.heap.size ≤ b) hb1 (fun _ h => h)) (fun b hb => .inr (by omega))).grown hg (fun b hb => .inl (.inl (Option.some.inj hb).symm))
  · have h1 := h.old k' g hk'
    by_cases e : (k' : Int) = k
    · have : k' = k := by omega
      subst this
      rw [hf] at h1; cases h1
    · simp only [if_neg e]; exact h1
  · by_cases e : (k' : Int) = k
    · simp only [if_pos e] at hk'
      have := Option.some.inj hk'
      exact .inr (by omega)
    · simp only [if_neg e] at hk'
      exact h.new k' g hk'
  · by_cases e : ((i / 4096 : Nat) : Int) = k
    · simp only [if_pos e]; simp
    · simp only [if_neg e]; exact h.had i h1 h2

theorem WrAt.drewN {s : Nat} {w : World} {mb n : Nat} {f : Int → Option Nat} {C : Nat → UInt8} {A0 : Nat} {bs : List UInt8} {A : Nat} {l : List UInt8} {wr : World} {n' : Nat} {f' : Int → Option Nat} {C' : Nat → UInt8} (h : WrAt s w mb n f C A0 bs A l wr n' f' C') (q : Nat) :
    WrAt s w mb n f C A0 bs A l (wr.drewN q) n' f' C' := ⟨h.mem.below (below_drewN (Below.refl _ _) q), h.keep.drewN q, h.old, h.new, h.put, h.num, h.pos, h.had⟩

set_option maxRecDepth 8000 in
set_option maxHeartbeats 8000000 in
theorem write_any {w : World} {p mb n : Nat} {f : Int → Option Nat} {C : Nat → UInt8} (hm : Mem w mb n f C) (hc : w.cell? ⟨p, 3, none⟩ = some (.map (some mb))) (hp : ¬ MemS mb f p) (A0 : Nat) {a : Option Addr} {cap : Nat} {bs : List UInt8} (hr : Row w 1 a bs.length cap (bs.map u8C)) (ha : ∀ x, a = some x → ¬ MemS mb f x.block)
    (hA : A0 + bs.length ≤ 2147483647) (hn : n + bs.length ≤ 1000000000) :
    Calls Try.prog 35 #[.pointer (some ⟨p, 0, none⟩), .int .i64 A0, .slice a bs.length cap] w (WrEnd w mb n f C A0 bs) := by
  have HR := Lib.hid hr
  have HA := Lib.hid ha
  have HP := Lib.hid hp
  have HC := Lib.hid hc
  have HST := Lib.hid (WrAt.start (A0 := A0) (bs := bs) hm)
  clear hm hc hp hr ha
  go_enter Try.func35, Try.ntmps35
  go_wp2
  go_loopw [1, 2] (fun i v wr => ∃ (A : Nat) (l : List UInt8) (a' : Option Addr) (cap' n' : Nat) (f' : Int → Option Nat) (C' : Nat → UInt8), i = .int .i64 A ∧ v = .slice a' l.length cap' ∧ Hid (Row w 1 a' l.length cap' (l.map u8C)) ∧ Hid (∀ x, a' = some x → ¬ MemS mb f x.block) ∧ Hid (WrAt 0 w mb n f C A0 bs A l wr n' f' C')) (fun _ v _ => match v with | .slice _ n _ => n | _ => 0)
  case atStart => exact ⟨A0, bs, a, cap, n, f, C, rfl, rfl, HR, HA, HST⟩
  case round =>
    obtain ⟨A, l, a', cap', n', f', C', rfl, rfl, HR', HA', HT⟩ := hrel
    have hpos := HT.out.pos
    have hnum := HT.out.num
    by_cases hl : l = []
    · subst hl
      go_wp2
      go_end0
      exact HT.out.fin
    · have hl0 : 0 < l.length := List.length_pos_iff.2 hl
      have HL := Lib.hid hl
      have hl0i : (0 : Int) < l.length := by omega
      have hcap := HR'.out.2.1
      have hcm := HR'.out.i64c
      obtain ⟨b0, o0, hab, hbw, hcell⟩ := HR'.out.at 0 0 hl0
      have hb0 := HA'.out _ hab
      have c3 := HT.out.keep.cell HC.out HP.out
      obtain ⟨K, hK⟩ : ∃ K, K = A / 4096 := ⟨_, rfl⟩
      obtain ⟨O, hO⟩ : ∃ O, O = A % 4096 := ⟨_, rfl⟩
      have hq : (A : Int) / 4096 = (K : Int) := by omega
      have hrm : (A : Int) % 4096 = (O : Int) := by omega
      have hO1 : O < 4096 := by omega
      have hK1 : K ≤ 600000 := by omega
      have HKI := Lib.hid (show i64K (K : Int) from ⟨by omega, by omega⟩)
      have HK := Lib.hid hK
      have HO := Lib.hid hO
      subst hab
      clear hK hO hl
      obtain ⟨m, hmm⟩ : ∃ m, m = min l.length (4096 - O) := ⟨_, rfl⟩
      have hml : m ≤ l.length := by omega
      have hmc : m ≤ cap' := by omega
      have hm0 : 0 < m := by omega
      have hmO : O + m ≤ 4096 := by omega
      have HMM := Lib.hid hmm
      have HMN := Lib.hid (show m = Nat.min l.length (4096 - O) from hmm)
      have HCL := Lib.hid (show ((l.take m).map u8C).length = m by rw [List.length_map, List.length_take]; omega)
      have HONE := Lib.hid (show ∀ v ∈ (l.take m).map u8C, v.oneCell' = true from fun v hv => by
        obtain ⟨x, -, rfl⟩ := List.mem_map.1 hv; rfl)
      have HSRC := Lib.hid (show ∀ W : World, Keeps (MemS mb f) w W → ∀ j v, ((l.take m).map u8C)[j]? = some v → W.cell? ((⟨b0, o0, none⟩ : Addr).add j) = some v from fun W hW j v hv => by
        rw [Addr.add_lit]
        refine hW.cell ?_ hb0
        rw [List.getElem?_map] at hv
        obtain ⟨x, hx, rfl⟩ := Option.map_eq_some_iff.1 hv
        rw [List.getElem?_take] at hx
        split at hx
        · rw [hcell j (by omega)]
          simp [List.getD, hx]
        · cases hx)
      have HDR := Lib.hid (show Row w 1 (some ⟨b0, o0 + m, none⟩) (l.drop m).length (cap' - m) ((l.drop m).map u8C) from by
        refine ⟨by simp, by rw [List.length_drop]; omega, by have := HR'.out.2.2.1; omega, fun h => (by cases h), fun _ => ⟨b0, o0 + m, rfl, hbw, fun j u hj => ?_⟩⟩
        rw [List.getElem?_map] at hj
        obtain ⟨x, hx, rfl⟩ := Option.map_eq_some_iff.1 hj
        rw [List.getElem?_drop] at hx
        have hlt := (List.getElem?_eq_some_iff.1 hx).1
        have h2 := hcell (m + j) hlt
        rw [← Nat.add_assoc] at h2
        rw [h2]
        simp [List.getD, hx])
      have HDR0 := Lib.hid (show l.length = m → Row w 1 (some ⟨b0, o0, none⟩) (l.drop m).length 0 ((l.drop m).map u8C) from fun e => by
        rw [List.drop_of_length_le (by omega)]
        exact ⟨by simp, Nat.le_refl _, by unfold maxLen; omega, fun h => (by cases h), fun h => absurd h (by simp)⟩)
      have HKO := Lib.hid (show (4096 * (A / 4096)) = 4096 * K by have := HK.out; omega)
      clear hmm hcell
      cases hf : f' (K : Int) with
      | some g =>
        have HF := Lib.hid hf
        have HG := Lib.hid (HT.out.mem.blk K g hf)
        clear hf
        go_wp2_with (first
          | (at_lookup; refine wpList_lookT rfl (.tmp 22) (.tmp 23) rfl HT.out.mem.map rfl rfl HKI.out HF.out ?_)
          | (refine copy_at rfl (.tmp 38) (.tmp 39) 39 39 rfl 5 Try.underlying39 infoByte g O _ _ ⟨b0, o0, none⟩ l.length cap' rfl rfl _ 5 HG.out ((l.take m).map u8C) m HCL.out HMN.out (HSRC.out _ HT.out.keep) (by rw [fl_length]; exact hmO) HONE.out ?_; intro w2 hg2 hk2 hs2; have HG2 := Lib.hid hg2; have HK2 := Lib.hid hk2; have HS2 := Lib.hid hs2; clear hg2 hk2 hs2))
        have HT2 := Lib.hid (HT.out.step (m := m) (by omega) (by rw [← HK.out]; exact HF.out) (by rw [← HO.out]; exact HMM.out) HL.out (by rw [HKO.out, ← HO.out]; exact HG2.out) HK2.out)
        have i1 : IntKind.i64.wrap ((A : Int) + m) = (A : Int) + m := IntWalk.i64_in _ (by omega)
        by_cases hce : cap' = m
        · have hle : l.length = m := by omega
          have HD0 := Lib.hid (HDR0.out hle)
          have HLE := Lib.hid hle
          clear hle
          go_quiet (fail)
          clear hq hrm i1 hce
          go_roundw
          case rel => (repeat apply Exists.intro); refine ⟨?_, rfl⟩; exact ⟨A + m, l.drop m, some ⟨b0, o0, none⟩, 0, n', f', putC C' A (l.take m), by go_num, by rw [List.length_drop, HLE.out, Nat.sub_self], HD0, Lib.hid (fun x hx => by cases hx; exact hb0), Lib.hid (HT2.out.1.drewN _)⟩
          case measure =>
            show l.length - m < l.length
            omega
        · go_quiet (fail)
          clear hq hrm i1 hce
          go_roundw
          case rel => (repeat apply Exists.intro); refine ⟨?_, rfl⟩; exact ⟨A + m, l.drop m, some ⟨b0, o0 + m, none⟩, cap' - m, n', f', putC C' A (l.take m), by go_num, by rw [List.length_drop], HDR, Lib.hid (fun x hx => by cases hx; exact hb0), Lib.hid (HT2.out.1.drewN _)⟩
          case measure =>
            show l.length - m < l.length
            omega
      | none =>
        have HF := Lib.hid hf
        clear hf
        go_wp2_with (first
          | (at_lookup; refine wpList_lookT_no rfl (.tmp 22) (.tmp 23) rfl HT.out.mem.map rfl rfl HKI.out HF.out ?_)
          | (at_make; refine make_full EByte rfl (.const (.int .i64 4096)) (.const (.int .i64 4096)) rfl .i64 .i64 4096 4096 4096 rfl rfl rfl rfl (by omega) (by unfold maxLen; omega) ?_; intro w1 hO1 hB1; have c31 := cell?_keep hB1 c3; have HO1 := Lib.hid hO1; have HB1 := Lib.hid hB1; clear hO1 hB1)
          | (at_mapUpdate; refine wpList_store rfl (.tmp 33) (.tmp 34) (.tmp 35) rfl (HT.out.mem.map.keep (HB1.out.block mb HT.out.mem.map.lt)) rfl rfl HKI.out rfl (by unfold maxLen; omega) ?_; intro w3 hm3 hg3 hs3; have HT3 := Lib.hid (HT.out.more HF.out HB1.out HO1.out hm3 hg3); have HG3 := Lib.hid (HT3.out.mem.blk K wr.heap.size (if_pos rfl)); clear hm3 hg3 hs3)
          | (refine copy_at rfl (.tmp 38) (.tmp 39) 39 39 rfl 5 Try.underlying39 infoByte wr.heap.size O _ _ ⟨b0, o0, none⟩ l.length cap' rfl rfl _ 5 HG3.out ((l.take m).map u8C) m HCL.out HMN.out (HSRC.out _ HT3.out.keep) (by rw [fl_length]; exact hmO) HONE.out ?_; intro w2 hg2 hk2 hs2; have HG2 := Lib.hid hg2; have HK2 := Lib.hid hk2; have HS2 := Lib.hid hs2; clear hg2 hk2 hs2))
        have HT2 := Lib.hid (HT3.out.step (m := m) (by omega) (by rw [← HK.out]; exact if_pos rfl) (by rw [← HO.out]; exact HMM.out) HL.out (by rw [HKO.out, ← HO.out]; exact HG2.out) HK2.out)
        have i1 : IntKind.i64.wrap ((A : Int) + m) = (A : Int) + m := IntWalk.i64_in _ (by omega)
        by_cases hce : cap' = m
        · have hle : l.length = m := by omega
          have HD0 := Lib.hid (HDR0.out hle)
          have HLE := Lib.hid hle
          clear hle
          go_quiet (fail)
          clear hq hrm i1 hce
          go_roundw
          case rel => (repeat apply Exists.intro); refine ⟨?_, rfl⟩; exact ⟨A + m, l.drop m, some ⟨b0, o0, none⟩, 0, n' + 1, (fun j => if j = (K : Int) then some wr.heap.size else f' j), putC C' A (l.take m), by go_num, by rw [List.length_drop, HLE.out, Nat.sub_self], HD0, Lib.hid (fun x hx => by cases hx; exact hb0), Lib.hid (HT2.out.1.drewN _)⟩
          case measure =>
            show l.length - m < l.length
            omega
        · go_quiet (fail)
          clear hq hrm i1 hce
          go_roundw
          case rel => (repeat apply Exists.intro); refine ⟨?_, rfl⟩; exact ⟨A + m, l.drop m, some ⟨b0, o0 + m, none⟩, cap' - m, n' + 1, (fun j => if j = (K : Int) then some wr.heap.size else f' j), putC C' A (l.take m), by go_num, by rw [List.length_drop], HDR, Lib.hid (fun x hx => by cases hx; exact hb0), Lib.hid (HT2.out.1.drewN _)⟩
          case measure =>
            show l.length - m < l.length
            omega
end Go.Proofs.Ytimeacigbacadaa
