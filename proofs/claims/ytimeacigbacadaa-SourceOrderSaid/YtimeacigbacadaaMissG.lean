/-
  Walks of layer 2: what a set lacks.
-/
import Derived.Test.YtimeacigbacadaaSet3G
namespace Go.Proofs.Ytimeacigbacadaa
open Go.RowKit Go.Sort

/-- What lies from a place on, before an end, outside of spans. -/
def missGo (to : Int) : Int → List (Int × Int) → List (Int × Int)
  | at_, [] => if at_ < to then [(at_, to)] else []
  | at_, z :: L => (if at_ < min z.1 to then [(at_, min z.1 to)] else []) ++ missGo to (max at_ (min z.2 to)) L
def missS (T : List (Int × Int)) (x : Int × Int) : List (Int × Int) := if emp x = true then [] else missGo x.2 x.1 T

/-- The variables of Missing: where it is, and what was found. -/
structure MissAt (W : World) (ab ob base : Nat) (A : Int) (out : List (Int × Int)) (v : Value) : Prop where
  a : W.heap[ab]? = some (.cells #[.int .i64 A] 3 (0, 0))
  o : W.heap[ob]? = some (.cells #[v] 26 (0, 0))
  row : W.ownsRow base 23 2 v out.length (spV out)
  ne : ob ≠ ab
  lt1 : ab < base
  lt2 : ob < base
  le : base ≤ W.heap.size

def PutM (W : World) (ab ob base : Nat) (A to : Int) (out : List (Int × Int)) (v : Value) (e : Ending) (w' : World) : Prop :=
  e = .returned (.tuple #[]) ∧ ∃ v', MissAt w' ab ob base A (out ++ if A < to then [(A, to)] else []) v' ∧ Keeps (fun b => b = ob ∨ v.ownBlock = some b) W w'

theorem MissAt.cells {W : World} {ab ob base : Nat} {A : Int} {out : List (Int × Int)} {v : Value} (h : MissAt W ab ob base A out v) :
    W.cell? ⟨ab, 0, none⟩ = some (.int .i64 A) ∧ W.cell? ⟨ob, 0, none⟩ = some v ∧ W.frozen? ⟨ab, 0, none⟩ = false ∧ W.frozen? ⟨ob, 0, none⟩ = false :=
  ⟨by rw [cell_of_row W ab 0 _ _ _ h.a]; rfl, by rw [cell_of_row W ob 0 _ _ _ h.o]; rfl, frozen_of_row W ab 0 _ _ h.a, frozen_of_row W ob 0 _ _ h.o⟩

theorem MissAt.alloc {W : World} {ab ob base : Nat} {A : Int} {out : List (Int × Int)} {v : Value} (h : MissAt W ab ob base A out v) (o : Obj) : MissAt (W.alloc o) ab ob base A out v :=
  ⟨heapA_old _ h.a, heapA_old _ h.o, h.row.alloc _, h.ne, h.lt1, h.lt2, by rw [sizeA]; have := h.le; omega⟩
theorem MissAt.setA {W : World} {ab ob base : Nat} {A : Int} {out : List (Int × Int)} {v : Value} (h : MissAt W ab ob base A out v) (A' : Int) : MissAt (W.setCell ⟨ab, 0, none⟩ (.int .i64 A')) ab ob base A' out v :=
  ⟨by rw [heap_setCell_same W ab 0 _ _ _ h.a]; rfl, by rw [heap_setCell_other _ _ _ _ h.ne]; exact h.o, ownsRow_setCell_other h.row (a := ⟨ab, 0, none⟩) (fun e => by have := (h.row.lt ab e).1; have := h.lt1; omega) _, h.ne, h.lt1, h.lt2, by simpa [World.setCell] using h.le⟩

set_option maxHeartbeats 1000000 in
theorem putM_any (ab ob base : Nat) (A to : Int) (out : List (Int × Int)) (v : Value) (W : World) (h : MissAt W ab ob base A out v) (hn : out.length ≤ 1000000) :
    Calls Try.prog 32 #[.int .i64 to, .pointer (some ⟨ab, 0, none⟩), .pointer (some ⟨ob, 0, none⟩)] W (PutM W ab ob base A to out v) := by
  obtain ⟨k0, k1, f0, f1⟩ := h.cells
  obtain ⟨a, c, rfl, _, _⟩ := Row.of_owns h.row
  have hlo : ob < W.heap.size := (Array.getElem?_eq_some_iff.1 h.o).1
  have hla : ab < W.heap.size := (Array.getElem?_eq_some_iff.1 h.a).1
  have hob := h.lt2
  have hab := h.lt1
  have hle := h.le
  have hne := h.ne
  have H := Lib.hid h
  clear h
  by_cases hlt : A < to
  · go_enter Try.func32, Try.ntmps32
    go_wp2_with (at_builtin; refine append_row ETS rfl (.tmp 7) (.tmp 11) rfl base _ out.length _ rfl (H.out.row.alloc _) _ 1 _ _ rfl (row_new2 _ _ _ _) (spV_one_cell [(A, to)]) (by unfold maxLen; omega) (by omega) (by rw [sizeA]; omega) ?_; intro v' w5 hO5 hg5 hnil5; obtain ⟨a5, c5, rfl, _, _⟩ := Row.of_owns hO5; have hO := (hg5.block ob (by rw [sizeA]; omega) (fun e => by have := (H.out.row.lt ob e.symm).1; omega)).trans ((Below.heap_alloc W _ ob hlo).trans H.out.o); have hA := (hg5.block ab (by rw [sizeA]; omega) (fun e => by have := (H.out.row.lt ab e.symm).1; omega)).trans ((Below.heap_alloc W _ ab hla).trans H.out.a); have e0 := cell_of_row w5 ob 0 _ _ _ hO; have e1 := frozen_of_row w5 ob 0 _ _ hO; have HO5 := Lib.hid hO5; have HG5 := Lib.hid hg5; have HO := Lib.hid hO; have HA := Lib.hid hA; clear hO5 hg5 hnil5 hO hA)
    go_end0
    refine ⟨rfl, .slice a5 (out.length + 1) c5, ⟨?_, ?_, ?_, hne, hab, hob, ?_⟩, ?_⟩
    · rw [heap_setCell_other _ _ _ _ (fun e => hne e.symm)]; exact HA.out
    · rw [heap_setCell_same w5 ob 0 _ _ _ HO.out]; rfl
    · rw [if_pos hlt, List.length_append, spV_append]
      exact ownsRow_setCell_other HO5.out (a := ⟨ob, 0, none⟩) (fun e => by have := (HO5.out.lt ob e).1; omega) _
    · have h1 := HG5.out.size
      rw [sizeA] at h1
      have h2 : (w5.setCell ⟨ob, 0, none⟩ (.slice a5 (out.length + 1) c5)).heap.size = w5.heap.size := by simp [World.setCell]
      omega
    · exact (((Keeps.refl _ W).alloc _).grown HG5.out (fun k hk => .inl (.inr hk))).setCell (.inl (.inl rfl)) _
  · go_enter Try.func32, Try.ntmps32
    go_wp2
    go_end0
    exact ⟨rfl, _, by rw [if_neg (by omega), List.append_nil]; exact H.out, Keeps.refl _ _⟩

/-- What Missing leaves. -/
def MissEnd (M : List (Int × Int)) (w : World) (e : Ending) (w' : World) : Prop := ∃ v, e = .returned v ∧ w'.ownsRow w.heap.size 23 2 v M.length (spV M) ∧ Below w.heap.size w w'

theorem missGo_len (to : Int) : ∀ (L : List (Int × Int)) (A : Int), (missGo to A L).length ≤ L.length + 1
  | [], A => by simp only [missGo]; split <;> simp
  | z :: L, A => by
    have := missGo_len to L (max A (min z.2 to))
    simp only [missGo, List.length_append, List.length_cons]
    split <;> simp <;> omega

set_option maxRecDepth 8000 in
set_option maxHeartbeats 2000000 in
theorem missing_any (pv : Option Addr) (T : List (Int × Int)) (x y : Int) (w : World) (h : SetV w pv T) (hn : T.length ≤ 100000) :
    Calls Try.prog 9 #[.pointer pv, .agg #[.int .i64 x, .int .i64 y]] w (MissEnd (missS T (x, y)) w) := by
  have hv : missS T (x, y) = if emp (x, y) = true then [] else missGo y x T := rfl
  have hbx : (w.alloc (.cells #[.int .i64 x, .int .i64 y] 23)).heap[w.heap.size]? = some (.cells #[.int .i64 x, .int .i64 y] 23 (0, 0)) := heapA_new _ rfl
  have hB0 := belowA w (.cells #[.int .i64 x, .int .i64 y] 23)
  have hV := h.mono hB0
  have hem := fun W => empty_any x y W
  generalize hbe : emp (x, y) = be at hv hem
  have HV := Lib.hid hv
  have HEM := Lib.hid hem
  clear hv hem h hbe
  go_enter Try.func9, Try.ntmps9
  go_wp2_with fail
  generalize hWW : w.alloc (.cells #[.int .i64 x, .int .i64 y] 23) = W at *
  refine (HEM.out _).mono ?_
  rintro e w1 ⟨rfl, rfl⟩
  have HB0 := Lib.hid hB0
  have HSV := Lib.hid hV
  have HBX := Lib.hid hbx
  have hws := hB0.size
  have hwl : w.heap.size < W.heap.size := (Array.getElem?_eq_some_iff.1 hbx).1
  clear hWW hB0 hV hbx
  cases be
  · have hbW := belowA W (.cells #[.int .i64 x, .int .i64 y] 23)
    have hSV1 := HSV.out.mono hbW
    have hBX1 := block_keep hbW HBX.out
    have hB1 := HB0.out.trans (hbW.mono hws)
    have hs1 := hbW.size
    generalize W.alloc (.cells #[.int .i64 x, .int .i64 y] 23) = W1 at *
    have b0 : W1.cell? ⟨w.heap.size, 0, none⟩ = some (.int .i64 x) := by rw [cell_of_row W1 _ 0 _ _ _ hBX1]; rfl
    have b1 : W1.cell? ⟨w.heap.size, 1, none⟩ = some (.int .i64 y) := by rw [cell_of_row W1 _ 1 _ _ _ hBX1]; rfl
    have HSV1 := Lib.hid hSV1
    have HBX1 := Lib.hid hBX1
    have HB1 := Lib.hid hB1
    clear hbW hSV1 hBX1 hB1 HSV HBX HB0
    have hwl1 : w.heap.size < W1.heap.size := by omega
    have hwn1 : ¬ w.heap.size = W1.heap.size := by omega
    go_wp2_with fail
    have hbW2 := belowA2 W1 (.cells #[.slice none 0 0] 26) (.cells #[.int .i64 x] 3)
    have hO2 : ((W1.alloc (.cells #[.slice none 0 0] 26)).alloc (.cells #[.int .i64 x] 3)).heap[W1.heap.size]? = some (.cells #[.slice none 0 0] 26 (0, 0)) := heapA_old _ (heapA_new _ rfl)
    have hA2 : ((W1.alloc (.cells #[.slice none 0 0] 26)).alloc (.cells #[.int .i64 x] 3)).heap[W1.heap.size + 1]? = some (.cells #[.int .i64 x] 3 (0, 0)) := heapA_new _ (by rw [sizeA])
    have hsz2 : ((W1.alloc (.cells #[.slice none 0 0] 26)).alloc (.cells #[.int .i64 x] 3)).heap.size = W1.heap.size + 1 + 1 := by rw [sizeA, sizeA]
    generalize (W1.alloc (.cells #[.slice none 0 0] 26)).alloc (.cells #[.int .i64 x] 3) = W2 at *
    obtain ⟨ob, hob⟩ : ∃ ob, ob = W1.heap.size := ⟨_, rfl⟩
    have hs2 : W2.heap.size = ob + 2 := by rw [hob]; omega
    have hwo : w.heap.size < ob := by omega
    rw [← hob] at hO2 hA2 ⊢
    obtain ⟨ab, hab⟩ : ∃ ab, ab = ob + 1 := ⟨_, rfl⟩
    rw [← hab] at hA2 ⊢
    have HAB := Lib.hid hab
    have hao : ob < ab := by omega
    have habs : ab < W2.heap.size := by omega
    have HSV2 := Lib.hid (HSV1.out.mono hbW2)
    have HBX2 := Lib.hid (block_keep hbW2 HBX1.out)
    have HB2 := Lib.hid (HB1.out.trans (hbW2.mono (by omega)))
    have HO2 := Lib.hid hO2
    have HA2 := Lib.hid hA2
    have hws2 : w.heap.size ≤ W2.heap.size := by omega
    clear hO2 hA2 hbW2 hsz2 hob hab hs2 hwl1 hwn1 b0 b1 hs1 hws hwl HSV1 HBX1 HB1
    refine (all_any pv T W2 HSV2.out (by omega)).mono ?_
    rintro e W3 ⟨v3, rfl, hO3, hb3⟩
    obtain ⟨a3, c3, rfl, hr3, hbl3⟩ := Row.of_owns hO3
    have hlt3 : ∀ z, a3 = some z → z.block < W3.heap.size := fun z hz => (hO3.lt z.block (by simp [Value.ownBlock, hz])).2
    have hs3 := hb3.size
    obtain ⟨base, hbase⟩ : ∃ base, base = W3.heap.size := ⟨_, rfl⟩
    have hM3 : MissAt W3 ab ob base x [] (.slice none 0 0) := ⟨block_keep hb3 HA2.out, block_keep hb3 HO2.out, World.ownsRow_nil _ _ _ _, by omega, by omega, by omega, by omega⟩
    have hbb : W2.heap.size ≤ base := by omega
    have hneq : ∀ z, a3 = some z → ¬ (z.block = ob ∨ z.block = ab ∨ base ≤ z.block) := fun z hz h => by have h1 := hbl3 z hz; have h2 := hlt3 z hz; omega
    have HM3 := Lib.hid hM3
    have HR3 := Lib.hid hr3
    have HNEQ := Lib.hid hneq
    have HBX3 := Lib.hid (block_keep hb3 HBX2.out)
    have HB3 := Lib.hid (HB2.out.trans (hb3.mono hws2))
    have HBASE := Lib.hid hbase
    have eg : ∀ args w, (callFunc 32 args).run Try.prog w = .ok (.enter 32 args) w := enters_of Try.func32 (by kernel_rfl) rfl
    have hvm : missS T (x, y) = missGo y x T := HV.out
    have HVM := Lib.hid hvm
    have hml := missGo_len y T x
    obtain ⟨n, hnT⟩ : ∃ n, n = T.length := ⟨_, rfl⟩
    have HN := Lib.hid hnT
    rw [← hnT] at hr3 hn hml HR3 ⊢
    have HML := Lib.hid hml
    clear hO3 hr3 hb3 hbl3 hlt3 hM3 hneq hbase hvm hml hnT HSV2 HBX2 HO2 HA2
    go_wp2
    go_loopw [18] (fun vi wr => ∃ (k : Nat) (A : Int) (out : List (Int × Int)) (vo : Value), vi = .int .i64 k ∧ k ≤ n ∧ Hid (missGo y x T = out ++ missGo y A (T.drop k)) ∧ Hid (MissAt wr ab ob base A out vo) ∧ Hid (Keeps (fun b => b = ob ∨ b = ab ∨ base ≤ b) W3 wr)) (fun vi _ => n - (intOf vi).toNat)
    case atStart => exact ⟨0, x, [], _, rfl, Nat.zero_le _, Lib.hid rfl, HM3, Lib.hid (Keeps.refl _ _)⟩
    case round =>
      obtain ⟨k, A, out, vo, rfl, hk, HE, HM, HK⟩ := hrel
      have hkb : wr.heap[w.heap.size]? = some (.cells #[.int .i64 x, .int .i64 y] 23 (0, 0)) := HK.out.obj HBX3.out (by have := HBASE.out; omega)
      have hb1 : wr.cell? ⟨w.heap.size, 1, none⟩ = some (.int .i64 y) := by rw [cell_of_row wr _ 1 _ _ _ hkb]; rfl
      have hwr : w.heap.size < wr.heap.size := (Array.getElem?_eq_some_iff.1 hkb).1
      have hol : out.length ≤ 1000000 := by
        have h1 := congrArg List.length HE.out
        rw [List.length_append] at h1
        have := HML.out; omega
      have HKB := Lib.hid hkb
      clear hkb
      by_cases hlt : k < n
      · obtain ⟨b, off, rfl, _, hc⟩ := SRow.at (HR3.out.keeps HK.out HNEQ.out) k hlt
        obtain ⟨hc0, hc1⟩ := hc k hlt
        have hkT : k < T.length := by rw [← HN.out]; exact hlt
        have hE := HE.out
        rw [drop_cons hkT] at hE
        obtain ⟨z1, z2, hz⟩ : ∃ z1 z2, T.getD k (0, 0) = (z1, z2) := ⟨_, _, rfl⟩
        rw [hz] at hc0 hc1 hE
        simp only [missGo] at hc0 hc1 hE
        rw [← List.append_assoc] at hE
        have HE2 := Lib.hid hE
        have hwrn : ¬ w.heap.size = wr.heap.size := by omega
        clear hc hE hz
        go_wp2_with fail
        refine (putM_any ab ob base A (min z1 y) out vo _ (HM.out.alloc _) hol).mono ?_
        rintro e w5 ⟨rfl, v5, hM5, hK5⟩
        have hvo : ∀ b, vo.ownBlock = some b → base ≤ b ∧ b < wr.heap.size := HM.out.row.lt
        have hbox : w5.heap[wr.heap.size]? = some (.cells #[.int .i64 z1, .int .i64 z2] 23 (0, 0)) := hK5.obj (heapA_new _ rfl) (fun h => by
          have h1 := HM.out.le
          have h2 := HM.out.lt2
          rcases h with h | h
          · omega
          · have := (hvo _ h).2; omega)
        have hbxx : w5.heap[w.heap.size]? = some (.cells #[.int .i64 x, .int .i64 y] 23 (0, 0)) := hK5.obj (heapA_old _ HKB.out) (fun h => by
          rcases h with h | h
          · omega
          · have := (hvo _ h).1; omega)
        obtain ⟨k0, _, f0, _⟩ := hM5.cells
        have k1 : w5.cell? ⟨wr.heap.size, 1, none⟩ = some (.int .i64 z2) := by rw [cell_of_row w5 _ 1 _ _ _ hbox]; rfl
        have k2 : w5.cell? ⟨w.heap.size, 1, none⟩ = some (.int .i64 y) := by rw [cell_of_row w5 _ 1 _ _ _ hbxx]; rfl
        have HM5 := Lib.hid (hM5.setA (max A (min z2 y)))
        have HK5 := Lib.hid ((HK.out.alloc (.cells #[.int .i64 z1, .int .i64 z2] 23)).trans hK5 (fun b h => by
          rcases h with h | h
          · exact .inl (.inl h)
          · exact .inl (.inr (.inr (hvo b h).1))))
        clear hM5 hK5 hvo hbox hbxx
        go_wp2
        go_roundw
        case rel => exact ⟨k + 1, max A (min z2 y), _, v5, by go_num, by omega, HE2, HM5, Lib.hid (HK5.out.setCell (.inl (.inr (.inl rfl))) _)⟩
        case measure => simp [intOf]; omega
      · obtain rfl : k = n := by omega
        have hE := HE.out
        rw [show T.drop k = [] from by rw [HN.out]; exact List.drop_length, missGo] at hE
        have HE2 := Lib.hid hE
        clear hE
        go_wp2_with fail
        refine (putM_any ab ob base A y out vo _ HM.out hol).mono ?_
        rintro e w5 ⟨rfl, v5, hM5, hK5⟩
        have hvo : ∀ b, vo.ownBlock = some b → base ≤ b ∧ b < wr.heap.size := HM.out.row.lt
        obtain ⟨_, k1, _, _⟩ := hM5.cells
        have HM5 := Lib.hid hM5
        have HK5 := Lib.hid (HK.out.trans hK5 (fun b h => by
          rcases h with h | h
          · exact .inl (.inl h)
          · exact .inl (.inr (.inr (hvo b h).1))))
        clear hM5 hK5 hvo
        go_wp2
        go_ret
        refine ⟨v5, rfl, ?_, HB3.out.trans (HK5.out.below (B := w.heap.size) HB3.out.size (fun b h => by omega))⟩
        rw [HVM.out, HE2.out]
        exact ownsRow_base HM5.out.row (by omega)
  · go_wp2
    go_ret
    have hv2 : missS T (x, y) = [] := HV.out
    exact ⟨_, rfl, by rw [hv2]; exact World.ownsRow_nil _ _ _ _, HB0.out.alloc (by omega) _⟩
end Go.Proofs.Ytimeacigbacadaa
