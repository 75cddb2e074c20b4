/-
  Our texts Sw1 to Sz1, in one.
-/
import Derived.Test.YtnkodejgiabamaaGreatDoorPkB9
import Derived.Lib.Builder
import Derived.Lib.UnsafeStr
import Derived.Lib.ByteType
import Derived.Lib.AppendStr
import Derived.BigQuiet
import Derived.Deep.RegionHeld3
import Derived.Deep.Cut
set_option maxRecDepth 8000
set_option maxHeartbeats 8000000
namespace Go.Proofs.YtnkodejgiabamaaGreatDoor
open Go.RowKit
def u8W (b : UInt8) : Value := .int .u8 b.toNat
structure IsWr (w : World) (S : Nat → Prop) (p : Nat) (out : List UInt8) (ad v : Value) : Prop where
 blk : w.heap[p]? = some (.cells #[ad, v] 48 (0, 0))
 ad_ : ad = .pointer none ∨ ad = .pointer (some ⟨p, 0, none⟩)
 row : w.ownsRow (p + 1) 5 1 v out.length (out.map u8W)
 at_ : ∀ b, v.ownBlock = some b → S b
 own : S p
 lt : ∀ b, S b → p ≤ b ∧ b < w.heap.size
def WrQ (w : World) (S : Nat → Prop) (p : Nat) (out : List UInt8) : Prop := ∃ ad v, IsWr w S p out ad v
def WrNext (w : World) (S : Nat → Prop) (p : Nat) (out : List UInt8) (w' : World) : Prop := ∃ S', WrQ w' S' p out ∧ Keeps S w w' ∧ ∀ b, S' b → S b ∨ w.heap.size ≤ b
section
variable {w w1 w2 w' : World} {S S1 : Nat → Prop} {p : Nat} {out : List UInt8} {ad v : Value}
theorem WrNext.refl (h : WrQ w S p out) : WrNext w S p out w := ⟨S, h, Keeps.refl _ _, fun _ h => .inl h⟩
theorem WrNext.trans (hk : Keeps S w w1) (hs : ∀ b, S1 b → S b ∨ w.heap.size ≤ b) (h2 : WrNext w1 S1 p out w2) : WrNext w S p out w2 := by
 obtain ⟨S2, q, k2, s⟩ := h2
 exact ⟨S2, q, hk.trans k2 hs, fun b hb => (s b hb).elim (hs b) (fun h => .inr (Nat.le_trans hk.size h))⟩
theorem IsWr.keep (h : IsWr w S p out ad v) (hb : Below w.heap.size w w') : IsWr w' S p out ad v :=
 ⟨block_keep hb h.blk, h.ad_, ownsRow_keep h.row hb, h.at_, h.own, fun b hS => ⟨(h.lt b hS).1, Nat.lt_of_lt_of_le (h.lt b hS).2 hb.size⟩⟩
theorem WrQ.keep (h : WrQ w S p out) (hb : Below w.heap.size w w') : WrQ w' S p out := by obtain ⟨ad, v, h⟩ := h; exact ⟨ad, v, h.keep hb⟩
theorem IsWr.cells (h : IsWr w S p out ad v) : w.cell? ⟨p, 0, none⟩ = some ad ∧ w.cell? ⟨p, 1, none⟩ = some v := by
 refine ⟨?_, ?_⟩ <;> (rw [cell_of_row w p _ _ _ _ h.blk]; rfl)
theorem IsWr.free (h : IsWr w S p out ad v) (j : Nat) : w.frozen? ⟨p, j, none⟩ = false := frozen_of_row w p j _ _ h.blk
theorem keepsW (h : Below w.heap.size w w') : Keeps S w w' := ⟨h.os, h.tape, h.output, h.size, fun b hb _ => h.block b hb⟩
theorem WrNext.above (hb : Below w.heap.size w w1) (h2 : WrNext w1 S p out w2) : WrNext w S p out w2 := WrNext.trans (keepsW hb) (fun _ h => .inl h) h2
theorem WrNext.on (h : WrNext w S p out w1) (hb : Below w1.heap.size w1 w2) : WrNext w S p out w2 := by
 obtain ⟨S2, q, k2, s⟩ := h
 exact ⟨S2, q.keep hb, k2.trans (keepsW hb) (fun b hb => s b hb), s⟩
end
theorem infoBuilderW : (Tryz.prog.info? 46).map (·.size) = some 2 := by kernel_rfl
theorem liesBuilderW : liesAt Tryz.prog Tryz.prog.depth 48 (2 / Tryz.prog.cellsOf 48) 0 46 1 = true := by kernel_rfl
theorem EByteW : ElemT Tryz.prog 32 5 (.int .u8 0) 1 1 := ⟨Tryz.underlying32, by kernel_rfl, rfl, by omega⟩
def ChkW (w : World) (S : Nat → Prop) (p : Nat) (out : List UInt8) (v : Value) (e : Ending) (w' : World) : Prop :=
 e = .returned (.tuple #[]) ∧ IsWr w' S p out (.pointer (some ⟨p, 0, none⟩)) v ∧ Keeps S w w' ∧ w'.heap.size = w.heap.size
theorem IsWr.mark {w : World} {S : Nat → Prop} {p : Nat} {out : List UInt8} {ad v : Value} (h : IsWr w S p out ad v) :
   IsWr (w.setCell ⟨p, 0, none⟩ (.pointer (some ⟨p, 0, none⟩))) S p out (.pointer (some ⟨p, 0, none⟩)) v := by
 refine ⟨?_, .inr rfl, ownsRow_setCell_other h.row (a := ⟨p, 0, none⟩) (fun e => by have := (h.row.lt p e).1; omega) _, h.at_, h.own, fun b hS => by have := h.lt b hS; simpa using this⟩
 rw [heap_setCell_same _ _ 0 _ _ _ h.blk]; rfl
set_option maxRecDepth 100000 in
theorem copyCheckW {w : World} {S : Nat → Prop} {p : Nat} {out : List UInt8} {ad v : Value} (h : IsWr w S p out ad v) :
   Calls Tryz.prog 60 #[.pointer (some ⟨p, 0, none⟩)] w (ChkW w S p out v) := by
 obtain ⟨j, hj, hjs⟩ := Option.map_eq_some_iff.1 infoBuilderW
 obtain ⟨c0, -⟩ := h.cells
 have hfz := h.free 0
 have hsh : w.shape? p = some (48, 2) := by have := h.blk; simp [World.shape?, this]
 rcases h.ad_ with rfl | rfl
 · have HM := Lib.hid h.mark
   have HK := Lib.hid ((Keeps.refl S w).setCell (a := ⟨p, 0, none⟩) (.inl h.own) (.pointer (some ⟨p, 0, none⟩)))
   clear h
   go_enter Tryz.func60, Tryz.ntmps60
   go_wp2
   rw [Lib.run_to_unsafe w ⟨p, 0, none⟩ Tryz.underlying44 Tryz.underlying126 hj (by rw [hjs]; decide) hsh (Nat.succ_pos 1)]
   simp only [Result.andThen]
   rw [Oper.upon_value]
   go_wp2
   rw [run_callFunc_extern Tryz.func88 (by kernel_rfl) (by kernel_rfl) (by kernel_rfl) (e := Extern.AbiNoEscape.same) (by kernel_rfl)]
   rw [Lib.run_noEscape]
   simp only [Result.andThen]
   rw [Oper.upon_value]
   go_wp2
   rw [Lib.run_from_unsafe w ⟨p, 0, none⟩ Tryz.underlying126 Tryz.underlying44 hj hsh liesBuilderW]
   simp only [Result.andThen]
   rw [Oper.upon_value]
   go_wp2
   go_end0
   exact ⟨rfl, HM.out, HK.out, by simp⟩
 · have HM := Lib.hid h
   clear h
   go_enter Tryz.func60, Tryz.ntmps60
   go_wp2
   rw [Lib.run_neq_ptr_same w _ Tryz.underlying44 hj]
   go_wp2
   go_end0
   exact ⟨rfl, HM.out, Keeps.refl _ _, rfl⟩
theorem IsWr.put {w W w2 : World} {S : Nat → Prop} {p : Nat} {out news : List UInt8} {v v' : Value} (h : IsWr w S p out (.pointer (some ⟨p, 0, none⟩)) v) (hb : Below w.heap.size w W)
   (hr : w2.ownsRow (p + 1) 5 1 v' (out.length + news.length) (out.map u8W ++ news.map u8W)) (hg : W.grownBy w2 v.ownBlock) (hn : NewAt W v v') :
   WrNext w S p (out ++ news) (w2.setCell ⟨p, 1, none⟩ v') := by
 have hp := (h.lt p h.own).2
 have hvb : ∀ b, v.ownBlock = some b → p < b := fun b hb => (h.row.lt b hb).1
 have h1 : w2.heap[p]? = some (.cells #[.pointer (some ⟨p, 0, none⟩), v] 48 (0, 0)) :=
   (hg.block p (Nat.lt_of_lt_of_le hp hb.size) (fun e => by have := hvb p e.symm; omega)).trans (block_keep hb h.blk)
 have hk1 : Keeps S w w2 := (keepsW hb).grown hg (fun k hk => .inl (h.at_ k hk))
 have hk2 := hk1.setCell (a := ⟨p, 1, none⟩) (.inl h.own) v'
 have hsz := hk2.size
 refine ⟨fun b => S b ∨ (p ≤ b ∧ w.heap.size ≤ b ∧ b < (w2.setCell ⟨p, 1, none⟩ v').heap.size), ⟨.pointer (some ⟨p, 0, none⟩), v', ⟨?_, .inr rfl, ?_, fun b hb2 => ?_, .inl h.own, fun b hb2 => ?_⟩⟩, hk2, fun b hb2 => ?_⟩
 · rw [heap_setCell_same _ _ 1 _ _ _ h1]; rfl
 · have := ownsRow_setCell_other hr (a := ⟨p, 1, none⟩) (fun e => by have := (hr.lt p e).1; omega) v'
   simpa using this
 · have hlt := (hr.lt b hb2)
   rcases hn b hb2 with h2 | h2
   · exact .inl (h.at_ b h2)
   · have := hb.size
     exact .inr ⟨by omega, by omega, by simpa using hlt.2⟩
 · rcases hb2 with hb2 | hb2
   · have := h.lt b hb2; omega
   · exact ⟨hb2.1, hb2.2.2⟩
 · rcases hb2 with hb2 | hb2
   · exact .inl hb2
   · exact .inr hb2.2.1
set_option maxRecDepth 100000 in
theorem writeByteW {w : World} {S : Nat → Prop} {p : Nat} {out : List UInt8} (h : WrQ w S p out) (c : UInt8) (x : Int) (hx : x = (c.toNat : Int)) (hl : out.length ≤ 10000000) :
   Calls Tryz.prog 35 #[.pointer (some ⟨p, 0, none⟩), .int .u8 x] w fun e w' => e = .returned .nilIface ∧ WrNext w S p (out ++ [c]) w' := by
 obtain ⟨ad, v, h⟩ := h
 have HC := Lib.hid (copyCheckW h)
 unfold ChkW at HC
 have hXC : Value.int .u8 x = u8W c := by rw [hx]; rfl
 have HX := Lib.hid hXC
 clear h hx hXC
 go_enter Tryz.func35, Tryz.ntmps35
 go_wp2_with fail
 refine HC.out.mono ?_
 rintro e w1 ⟨rfl, h1, hk1, hs1⟩
 have H1 := Lib.hid h1
 have HK1 := Lib.hid hk1
 have HS1 := Lib.hid hs1
 obtain ⟨-, c1⟩ := h1.cells
 have hf1 := h1.free 1
 have hp1 := (h1.lt p h1.own).2
 clear h1 hk1 hs1
 go_wp2_with (at_builtin; refine append_at EByteW rfl (.tmp 11) (.tmp 13) rfl (p + 1) _ out.length _ rfl (H1.out.row.alloc _) _ 1 _ _ rfl (row_new1 _ _ _) (one_mem rfl) (by unfold maxLen; omega) (by omega) (by rw [sizeA]; omega) ?_; intro v' w2 hO2 hg2 hn2; obtain ⟨a', cap', hv', -⟩ := Row.of_owns hO2; subst hv'; rw [HX.out] at hO2; have HN := Lib.hid (H1.out.put (news := [c]) (belowA w1 _) hO2 hg2 hn2); have hp2 : p < w2.heap.size := (by have := hg2.size; rw [sizeA] at this; omega); have hfz2 : w2.frozen? ⟨p, 1, none⟩ = false := (frozen_of_row w2 p 1 _ _ ((hg2.block p (by rw [sizeA]; omega) (fun e => by have := (H1.out.row.lt p e.symm).1; omega)).trans ((Below.heap_alloc w1 _ p hp1).trans H1.out.blk))); have hc2 : w2.cell? ⟨p, 1, none⟩ = some v := ((cell_of_row w2 p 1 _ _ _ ((hg2.block p (by rw [sizeA]; omega) (fun e => by have := (H1.out.row.lt p e.symm).1; omega)).trans ((Below.heap_alloc w1 _ p hp1).trans H1.out.blk))).trans rfl); clear hO2 hg2 hn2)
 go_ret
 exact ⟨rfl, WrNext.trans HK1.out (fun b hb => .inl hb) HN.out⟩
theorem strCells_mkB (l : List UInt8) : Lib.strCells (mkB l) = l.map u8W := by unfold Lib.strCells mkB u8W; simp
theorem append_strW {P : Program} (w : World) {ops : Array Oper} {rest : List Oper} {o : Oper} {a : Act} {Q : Exit → Act → World → Prop} (hgd : o.guard = none) (sl x : Operand) (t u : TypeId)
   (ho : o.op = .call { callee := .builtin .append, args := #[sl, x], argTypes := #[t, u] })
   (base : Nat) (e : TypeId) (i : TypeInfo) (ht : P.underlying t = some (.slice e)) (hu : P.underlying u = some .string) (hi : P.info? e = some i) (hz : i.zero = some (.int .u8 0))
   (hsize : i.size = 1) (hby : i.bytes = 1)
   (v : Value) (n : Nat) (xs : List Value) (hs : a.eval sl = v) (hown : w.ownsRow base e 1 v n xs) (s : ByteArray) (hx : a.eval x = .string s)
   (h63 : n + s.size ≤ maxLen) (hbytes : n + s.size ≤ 140737488355328) (hbase : base ≤ w.heap.size)
   (h : ∀ v' w', w'.ownsRow base e 1 v' (n + s.size) (xs ++ Lib.strCells s) → w.grownBy w' v.ownBlock → NewAt w v v' → wpList P ops Q rest (a.put o.dst v') w') : wpList P ops Q (o :: rest) a w := by
 refine wpList_plain hgd fun K hK => ?_
 obtain ⟨v', w', hr, h2, h3, h4⟩ := Lib.run_append_own_string (P := P) w base t u o.type e i ht hu hi hz hsize hby v n xs hown s h63 hbytes hbase
 have hn : NewAt w v v' := by
   have hsmall : n + s.size ≤ 9223372036854775807 := by simp only [maxLen] at h63; omega
   have hxl : xs.length = n := by simpa using hown.1
   rcases hown.2 with ⟨rfl, hx0⟩ | ⟨g, cap, cur, rfl, hbg, hg, hnc, hcm, hcs, htake⟩
   · obtain ⟨v2, w2, hr2, g2, _, _⟩ := Lib.run_append_own_string (P := P) w w.heap.size t u o.type e i ht hu hi hz hsize hby _ n xs ⟨hown.1, .inl ⟨rfl, hx0⟩⟩ s h63 hbytes (Nat.le_refl _)
     rw [hr] at hr2
     simp only [Result.ok.injEq] at hr2
     obtain ⟨rfl, rfl⟩ := hr2
     exact fun b hb => .inr (g2.lt b hb).1
   · by_cases hroom : n + s.size ≤ cap
     · have hr2 := Lib.run_append_room_string (P := P) w t u o.type e i ht hu hi hsize g n cap cur hg s hroom (by omega)
       rw [hr] at hr2
       simp only [Result.ok.injEq] at hr2
       obtain ⟨rfl, rfl⟩ := hr2
       exact fun b hb => .inl hb
     · have holds : ∀ j u, xs[j]? = some u → w.cell? ((⟨g, 0, none⟩ : Addr).add j) = some u := hown.cells (g := g) rfl
       have hr2 := Lib.run_append_grow_string (P := P) w t u o.type e i (.int .u8 0) ht hu hi hz ⟨g, 0, none⟩ n cap xs (by rw [hsize]; simpa using hxl) holds s (by omega) (by omega) (by rw [hby]; exact growslice_fits (by omega) (by omega))
       rw [hr] at hr2
       simp only [Result.ok.injEq] at hr2
       obtain ⟨rfl, rfl⟩ := hr2
       intro b hb
       simp [Value.ownBlock] at hb
       right; omega
 unfold Oper.wp execOp
 simp only [ho, resolve, invoke, builtin, Sem.run_bind, Sem.run_pure, Result.andThen_ok, List.map_toArray, List.map_cons, List.map_nil, hs, hx, hr]
 exact hK _ _ (h v' w' h2 h3 hn)
set_option maxRecDepth 100000 in
theorem writeStrW {w : World} {S : Nat → Prop} {p : Nat} {out : List UInt8} (h : WrQ w S p out) (s : List UInt8) (hl : out.length + s.length ≤ 10000000) :
   Calls Tryz.prog 32 #[.pointer (some ⟨p, 0, none⟩), .string (mkB s)] w fun e w' => e = .returned (.tuple #[.int .i64 s.length, .nilIface]) ∧ WrNext w S p (out ++ s) w' := by
 obtain ⟨ad, v, h⟩ := h
 obtain ⟨i0, hi, hz, hs, hb⟩ := info_parts EByteW.info
 have HC := Lib.hid (copyCheckW h)
 unfold ChkW at HC
 have hsz : (mkB s).size = s.length := mkB_size s
 have HSC := Lib.hid (strCells_mkB s)
 have HSZ := Lib.hid hsz
 have hszi : ((mkB s).size : Int) = s.length := by rw [hsz]
 have HI := Lib.hid (⟨hi, hz, hs, hb⟩ : _ ∧ _ ∧ _ ∧ _)
 clear h hi hz hs hb hsz
 go_enter Tryz.func32, Tryz.ntmps32
 go_wp2_with fail
 refine HC.out.mono ?_
 rintro e w1 ⟨rfl, h1, hk1, hs1⟩
 have H1 := Lib.hid h1
 have HK1 := Lib.hid hk1
 have HS1 := Lib.hid hs1
 obtain ⟨-, c1⟩ := h1.cells
 have hf1 := h1.free 1
 have hp1 := (h1.lt p h1.own).2
 clear h1 hk1 hs1
 go_wp2_with (at_builtin; refine append_strW _ rfl (.tmp 12) (.tmp 13) 32 9 rfl (p + 1) 5 i0 Tryz.underlying32 Tryz.underlying9 HI.out.1 HI.out.2.1 HI.out.2.2.1 HI.out.2.2.2 _ out.length _ rfl H1.out.row (mkB s) rfl (by rw [HSZ.out]; unfold maxLen; omega) (by rw [HSZ.out]; omega) (by omega) ?_; intro v' w2 hO2 hg2 hn2; obtain ⟨a', cap', hv', -⟩ := Row.of_owns hO2; subst hv'; rw [HSC.out, HSZ.out] at hO2; have HN := Lib.hid (H1.out.put (news := s) (Below.refl _ _) (by rw [HSZ.out] at *; exact hO2) hg2 (by rw [HSZ.out] at *; exact hn2)); have hp2 : p < w2.heap.size := (by have := hg2.size; omega); have hfz2 : w2.frozen? ⟨p, 1, none⟩ = false := (frozen_of_row w2 p 1 _ _ ((hg2.block p hp1 (fun e => by have := (H1.out.row.lt p e.symm).1; omega)).trans H1.out.blk)); have hc2 : w2.cell? ⟨p, 1, none⟩ = some v := ((cell_of_row w2 p 1 _ _ _ ((hg2.block p hp1 (fun e => by have := (H1.out.row.lt p e.symm).1; omega)).trans H1.out.blk)).trans rfl); clear hO2 hg2 hn2)
 go_ret2
 exact ⟨rfl, WrNext.trans HK1.out (fun b hb => .inl hb) HN.out⟩
end Go.Proofs.YtnkodejgiabamaaGreatDoor
namespace Go.Proofs.YtnkodejgiabamaaGreatDoor
def hexG (d : Nat) : UInt8 := if d < 10 then UInt8.ofNat (48 + d) else UInt8.ofNat (87 + d)
def hexB (c : UInt8) : List UInt8 := [hexG (c.toNat / 16), hexG (c.toNat % 16)]
def hexF : List UInt8 → List UInt8
 | [] => []
 | c :: s => hexB c ++ hexF s
def nameF : List UInt8 → List UInt8
 | [] => []
 | c :: s => (if c.toNat < 33 ∨ 126 < c.toNat ∨ c = 35 ∨ isDl c = true then 35 :: hexB c else [c]) ++ nameF s
def readF (s : List UInt8) : Bool := s.all fun c => decide (32 ≤ c.toNat) && decide (c.toNat ≤ 126)
def bareF : List UInt8 → List UInt8
 | [] => []
 | c :: s => (if c = 40 ∨ c = 41 ∨ c = 92 then [92, c] else [c]) ++ bareF s
def textF (s : List UInt8) : List UInt8 := if readF s = true then 40 :: (bareF s ++ [41]) else 60 :: (hexF s ++ [62])
mutual
def formV : PV → List UInt8
 | .mk k n s l =>
   if k = 0 then [110, 117, 108, 108]
   else if k = 1 then (if n = 0 then [102, 97, 108, 115, 101] else [116, 114, 117, 101])
   else if k = 2 ∨ k = 3 then (printV k n true).1
   else if k = 4 then textF s
   else if k = 5 then 47 :: nameF s
   else if k = 8 then (printV 2 n true).1 ++ [32, 48, 32, 82]
   else if k = 6 then 91 :: (rowF l ++ [93])
   else if k = 7 then 60 :: 60 :: (rowF l ++ [62, 62])
   else []
def rowF : List PV → List UInt8
 | [] => []
 | x :: l => formV x ++ moreF l
def moreF : List PV → List UInt8
 | [] => []
 | x :: l => 32 :: (formV x ++ moreF l)
end
theorem hexG_rg : ∀ d, d < 16 → isRg (hexG d) = true ∧ hexD (hexG d) = (d : Int) ∧ isSp (hexG d) = false ∧ hexG d ≠ 62 ∧ hexG d ≠ 35 := by
 have : ∀ d : Fin 16, isRg (hexG d.1) = true ∧ hexD (hexG d.1) = (d.1 : Int) ∧ isSp (hexG d.1) = false ∧ hexG d.1 ≠ 62 ∧ hexG d.1 ≠ 35 := by decide
 exact fun d hd => this ⟨d, hd⟩
theorem byte_hex (c : UInt8) : UInt8.ofNat (16 * ((c.toNat / 16 : Nat) : Int) + ((c.toNat % 16 : Nat) : Int)).toNat = c := by
 have h : (16 * ((c.toNat / 16 : Nat) : Int) + ((c.toNat % 16 : Nat) : Int)).toNat = c.toNat := by omega
 rw [h]
 exact UInt8.ofNat_toNat
theorem hex_lt (c : UInt8) : c.toNat / 16 < 16 ∧ c.toNat % 16 < 16 := by
 have := c.toNat_lt
 omega
theorem hexV_form : ∀ (s out t : List UInt8), hexV out (-1) (hexF s ++ 62 :: t) = (0, out ++ s, t)
 | [], out, t => by simp [hexF, hexV]
 | c :: s, out, t => by
   obtain ⟨h1, h2⟩ := hex_lt c
   obtain ⟨-, a2, a3, a4, -⟩ := hexG_rg _ h1
   obtain ⟨-, b2, b3, b4, -⟩ := hexG_rg _ h2
   simp only [hexF, hexB, List.cons_append, List.nil_append]
   rw [hexV, if_neg a4, if_neg (by rw [a3]; decide), if_neg (by rw [a2]; omega), if_pos (by decide)]
   rw [hexV, if_neg b4, if_neg (by rw [b3]; decide), if_neg (by rw [b2]; omega), if_neg (by rw [a2]; omega), a2, b2, byte_hex, hexV_form s]
   simp
theorem nameGo_form : ∀ (s out : List UInt8), nameGo out (nameF s) = some (out ++ s)
 | [], out => by simp [nameF, nameGo]
 | c :: s, out => by
   obtain ⟨h1, h2⟩ := hex_lt c
   obtain ⟨-, a2, -, -, -⟩ := hexG_rg _ h1
   obtain ⟨-, b2, -, -, -⟩ := hexG_rg _ h2
   simp only [nameF]
   split
   · simp only [hexB, List.cons_append, List.nil_append]
     rw [nameGo, if_pos rfl, if_neg (by rw [a2, b2]; omega), a2, b2, byte_hex, nameGo_form s]
     simp
   · rename_i hn
     simp only [List.cons_append, List.nil_append]
     have hc : ¬ c = 35 := fun e => hn (.inr (.inr (.inl e)))
     have hstep : nameGo out (c :: nameF s) = nameGo (out ++ [c]) (nameF s) := by
       rw [nameGo.eq_def]
       simp only [if_neg hc]
     rw [hstep, nameGo_form s]
     simp
theorem nameF_rg : ∀ (s : List UInt8), ∀ x ∈ nameF s, isRg x = true
 | [], x, hx => by cases hx
 | c :: s, x, hx => by
   obtain ⟨h1, h2⟩ := hex_lt c
   simp only [nameF] at hx
   rcases List.mem_append.1 hx with hx | hx
   · split at hx
     · simp only [hexB, List.mem_cons, List.not_mem_nil, or_false] at hx
       rcases hx with rfl | rfl | rfl
       · decide
       · exact (hexG_rg _ h1).1
       · exact (hexG_rg _ h2).1
     · rename_i hn
       rw [List.mem_singleton.1 hx]
       have hd : isDl c = false := by
         cases h : isDl c with
         | false => rfl
         | true => exact absurd (.inr (.inr (.inr h))) hn
       have hs : isSp c = false := by
         have hc : ¬ c.toNat < 33 := fun h => hn (.inl h)
         unfold isSp
         simp only [Bool.or_eq_false_iff, beq_eq_false_iff_ne]
         refine ⟨⟨⟨⟨⟨?_, ?_⟩, ?_⟩, ?_⟩, ?_⟩, ?_⟩ <;> (rintro rfl; exact hc (by decide))
       unfold isRg
       rw [hd, hs]
       rfl
   · exact nameF_rg s x hx
def StopsAt (post : List UInt8) : Prop := ∀ c t, post = c :: t → isRg c = false
theorem run_stop {w post : List UInt8} (hw : ∀ x ∈ w, isRg x = true) (hp : StopsAt post) : (w ++ post).takeWhile isRg = w ∧ (w ++ post).dropWhile isRg = post := by
 induction w with
 | nil =>
   cases post with
   | nil => exact ⟨rfl, rfl⟩
   | cons c t =>
     have := hp c t rfl
     simp [this]
 | cons x w ih =>
   obtain ⟨i1, i2⟩ := ih fun y hy => hw y (List.mem_cons_of_mem _ hy)
   have hx := hw x (List.mem_cons_self)
   rw [List.cons_append]
   simp only [List.takeWhile_cons, List.dropWhile_cons, hx, if_pos]
   exact ⟨by rw [i1], i2⟩
theorem textV_form (last : Bool) : ∀ (s out t : List UInt8), readF s = true → textV last 1 out (bareF s ++ 41 :: t) = some (out ++ s, t)
 | [], out, t, _ => by
   simp only [bareF, List.nil_append]
   rw [textV, if_neg (by decide), if_neg (by decide), if_neg (by decide), if_pos rfl, if_pos rfl]
   simp
 | c :: s, out, t, h => by
   simp only [readF, List.all_cons, Bool.and_eq_true, decide_eq_true_eq] at h
   obtain ⟨⟨h1, h2⟩, h3⟩ := h
   have ih := fun o => textV_form last s o t (by simpa [readF] using h3)
   simp only [bareF]
   by_cases hc : c = 40 ∨ c = 41 ∨ c = 92
   · rw [if_pos hc]
     simp only [List.cons_append, List.nil_append]
     have he : escV last (c :: (bareF s ++ 41 :: t)) = some ([c], 1) := by
       rcases hc with rfl | rfl | rfl <;> (unfold escV; simp [isOc])
     rw [textV, if_pos rfl, he]
     simp only [List.drop_succ_cons, List.drop_zero]
     rw [ih]
     simp
   · rw [if_neg hc]
     simp only [List.cons_append, List.nil_append]
     rw [textV, if_neg (fun e => hc (.inr (.inr e))), if_neg (by rintro rfl; revert h1; decide), if_neg (fun e => hc (.inl e)), if_neg (fun e => hc (.inr (.inl e))), ih]
     simp
theorem dg_rg {c : UInt8} (h : isDg c = true) : isRg c = true := by
 have h0 : ∀ n : Fin 256, isDg (UInt8.ofNat n.1) = true → isRg (UInt8.ofNat n.1) = true := by decide +kernel
 have h1 := h0 ⟨c.toNat, c.toNat_lt⟩
 rw [show UInt8.ofNat c.toNat = c from UInt8.ofNat_toNat] at h1
 exact h1 h
theorem absL_rg (k : Int) (n : Nat) : ∀ x ∈ absL k n, isRg x = true := by
 intro x hx
 unfold absL at hx
 split at hx
 · exact dg_rg (List.all_eq_true.1 (decL_spec n).1 x hx)
 · rcases List.mem_append.1 hx with hx | hx
   · exact dg_rg (List.all_eq_true.1 (decL_spec _).1 x hx)
   · rcases List.mem_cons.1 hx with rfl | hx
     · decide
     · exact dg_rg (List.all_eq_true.1 (mil_trimF _ (Nat.mod_lt _ (by decide))).2.1 x hx)
theorem print_form {k n : Int} (h : checkV k n true = 0) : ∃ c w, (printV k n true).1 = c :: w ∧ (∀ x ∈ c :: w, isRg x = true) ∧ (isDg c = true ∨ c = 43 ∨ c = 45 ∨ c = 46) := by
 have hp : (printV k n true).1 = signL n ++ absL k n.natAbs := by unfold printV; rw [if_pos h]
 obtain ⟨l, u, h1, h2, h3⟩ := absL_parts k n.natAbs
 have hr := absL_rg k n.natAbs
 rw [hp]
 unfold signL
 split
 · exact ⟨45, _, rfl, fun x hx => by
     rcases List.mem_cons.1 hx with rfl | hx
     · decide
     · exact hr x hx, .inr (.inr (.inl rfl))⟩
 · rw [h1] at hr ⊢
   cases l with
   | nil => simp at h3
   | cons c l =>
     refine ⟨c, l ++ u, rfl, fun x hx => hr x hx, .inl ?_⟩
     simp only [List.all_cons, Bool.and_eq_true] at h2
     exact h2.1
theorem tok_run {last : Bool} {c : UInt8} {w post : List UInt8} (hw : ∀ x ∈ c :: w, isRg x = true) (hp : StopsAt post) (hl : post = [] → last = true) :
   tokV last c (w ++ post) = if isDg c = true ∨ c = 43 ∨ c = 45 ∨ c = 46 then ((parseV (c :: w)).2.2, { kind := 1, vk := (parseV (c :: w)).1, vn := (parseV (c :: w)).2.1 }, post) else (0, { kind := 6, s := c :: w }, post) := by
 obtain ⟨r1, r2⟩ := run_stop hw hp
 have hc : isRg c = true := hw c (List.mem_cons_self)
 unfold tokV
 rw [if_pos hc]
 simp only
 rw [show c :: (w ++ post) = (c :: w) ++ post from rfl, r1, r2]
 rw [if_neg (by rintro ⟨h1, h2⟩; rw [hl h1] at h2; cases h2)]
theorem tok_num {last : Bool} {k n : Int} {c : UInt8} {w post : List UInt8} (h : checkV k n true = 0) (hf : (printV k n true).1 = c :: w) (hp : StopsAt post) (hl : post = [] → last = true) :
   tokV last c (w ++ post) = (0, { kind := 1, vk := k, vn := n }, post) := by
 obtain ⟨c', w', e, hr, hd⟩ := print_form h
 rw [hf] at e
 obtain ⟨rfl, rfl⟩ := List.cons.inj e
 rw [tok_run hr hp hl, if_pos hd, ← hf, parse_print k n true h]
theorem tok_name {last : Bool} {s post : List UInt8} (hs : ¬ (127 < s.length ∨ (0 : UInt8) ∈ s)) (hp : StopsAt post) (hl : post = [] → last = true) :
   tokV last 47 (nameF s ++ post) = (0, { kind := 1, vk := 5, vs := s }, post) := by
 obtain ⟨r1, r2⟩ := run_stop (nameF_rg s) hp
 unfold tokV
 rw [if_neg (by decide), if_neg (by decide), if_neg (by decide), if_neg (by decide), if_neg (by decide), if_neg (by decide), if_pos rfl]
 simp only
 rw [r1, r2, if_neg (by rintro ⟨h1, h2⟩; rw [hl h1] at h2; cases h2)]
 unfold nameV
 rw [nameGo_form]
 simp only [List.nil_append]
 rw [if_neg hs]
theorem hexF_head {s t : List UInt8} : ∃ d u, hexF s ++ 62 :: t = d :: u ∧ d ≠ 60 := by
 cases s with
 | nil => exact ⟨62, t, rfl, by decide⟩
 | cons c s =>
   obtain ⟨h1, -⟩ := hex_lt c
   have h0 : ∀ d : Fin 16, hexG d.1 ≠ 60 := by decide
   exact ⟨hexG (c.toNat / 16), _, rfl, h0 ⟨_, h1⟩⟩
theorem tok_text {last : Bool} {s post : List UInt8} : ∃ c w, textF s = c :: w ∧ isSp c = false ∧ c ≠ 37 ∧ isRg c = false ∧ tokV last c (w ++ post) = (0, { kind := 1, vk := 4, vs := s }, post) := by
 unfold textF
 split
 · rename_i h
   refine ⟨40, _, rfl, by decide, by decide, by decide, ?_⟩
   unfold tokV
   rw [if_neg (by decide), if_neg (by decide), if_neg (by decide), if_neg (by decide), if_neg (by decide), if_pos rfl]
   rw [List.append_assoc]
   show (match textV last 1 [] (bareF s ++ 41 :: post) with | none => _ | some (x, r) => _) = _
   rw [textV_form last s [] post h]
   rfl
 · refine ⟨60, _, rfl, by decide, by decide, by decide, ?_⟩
   unfold tokV
   rw [if_neg (by decide), if_neg (by decide), if_neg (by decide), if_pos rfl]
   rw [List.append_assoc]
   show (match hexF s ++ 62 :: post with | [] => _ | d :: u => _) = _
   obtain ⟨d, u, e, hd⟩ := hexF_head (s := s) (t := post)
   have hx := hexV_form s [] post
   rw [e] at hx ⊢
   simp only
   rw [if_neg hd, hx]
   rfl
theorem next_at {pre t : List UInt8} {c : UInt8} {last : Bool} {x : Tk} {r : List UInt8} (sp : Bool) (hs : isSp c = false) (h37 : c ≠ 37) (ht : tokV last c t = (0, x, r)) :
   nextV (pre ++ (if sp then [32] else []) ++ c :: t) pre.length last = (x, ((pre.length + (if sp then 1 else 0) : Nat) : Int), ((pre ++ (if sp then [32] else []) ++ c :: t).length : Int) - r.length, 0) := by
 have hsk : skipV (pre ++ (if sp then [32] else []) ++ c :: t) pre.length = pre.length + (if sp then 1 else 0) := by
   unfold skipV
   rw [if_neg (by omega)]
   rw [if_neg (by simp; omega)]
   simp only [Int.toNat_natCast]
   rw [List.append_assoc, List.drop_left]
   cases sp with
   | true =>
     simp only [if_pos, List.cons_append, List.nil_append]
     rw [skipN, if_neg (by decide), if_pos (by decide), skipN, if_neg h37, if_neg (by rw [hs]; decide)]
   | false =>
     simp only [Bool.false_eq_true, if_false, List.nil_append]
     rw [skipN, if_neg h37, if_neg (by rw [hs]; decide)]
 rw [nextV_in last (by omega) (by simp; omega), hsk]
 have hd : (pre ++ (if sp then [32] else []) ++ c :: t).drop (pre.length + (if sp then 1 else 0)) = c :: t := by
   cases sp with
   | true => simp [List.drop_append]
   | false => simp
 rw [nextF_cons last hd, ht]
 simp only
 rw [if_pos trivial]
def NxS (last : Bool) (post : List UInt8) (x : Tk) (r : List UInt8) : Prop := (post = [] ∧ last = true ∧ x = { kind := 0 } ∧ r = []) ∨ ∃ (sp : Bool) (c : UInt8) (t : List UInt8), post = (if sp then [32] else []) ++ c :: t ∧ isSp c = false ∧ c ≠ 37 ∧ tokV last c t = (0, x, r)
theorem nx_next {last : Bool} {post r : List UInt8} {x : Tk} (h : NxS last post x r) (pre : List UInt8) : (nextV (pre ++ post) pre.length last).1 = x ∧ (nextV (pre ++ post) pre.length last).2.2.1 = ((pre ++ post).length : Int) - r.length ∧ (nextV (pre ++ post) pre.length last).2.2.2 = 0 := by
 rcases h with ⟨rfl, rfl, rfl, rfl⟩ | ⟨sp, c, t, rfl, h1, h2, h3⟩
 · rw [List.append_nil]
   have hs : skipV pre pre.length = pre.length := by unfold skipV; rw [if_neg (by omega), if_pos (Int.le_refl _)]
   rw [nextV_in true (by omega) (by omega), hs, nextF_nil true (by simp)]
   exact ⟨rfl, by simp, rfl⟩
 · have := next_at (pre := pre) (last := last) sp h1 h2 h3
   rw [← List.append_assoc, this]
   exact ⟨rfl, rfl, rfl⟩
def NotR (x : Tk) : Prop := ¬ (x.kind = 6 ∧ x.s = [82])
def firstT : PV → Tk
 | .mk k n s _ =>
   if k = 0 then { kind := 6, s := [110, 117, 108, 108] }
   else if k = 1 then { kind := 6, s := if n = 0 then [102, 97, 108, 115, 101] else [116, 114, 117, 101] }
   else if k = 2 ∨ k = 3 then { kind := 1, vk := k, vn := n }
   else if k = 4 then { kind := 1, vk := 4, vs := s }
   else if k = 5 then { kind := 1, vk := 5, vs := s }
   else if k = 8 then { kind := 1, vk := 2, vn := n }
   else if k = 6 then { kind := 2 } else { kind := 4 }
def restT : PV → List UInt8
 | .mk k _ _ l => if k = 8 then [32, 48, 32, 82] else if k = 6 then rowF l ++ [93] else if k = 7 then rowF l ++ [62, 62] else []
theorem dg_sp {c : UInt8} (h : isRg c = true) : isSp c = false ∧ c ≠ 37 := by
 unfold isRg at h
 simp only [Bool.and_eq_true, Bool.not_eq_true'] at h
 refine ⟨h.1, ?_⟩
 rintro rfl
 exact absurd h.2 (by decide)
theorem check_two {n : Int} (h1 : 1 ≤ n) (h2 : n ≤ 4096) : checkV 2 n true = 0 := by
 unfold checkV
 rw [if_pos ⟨rfl, .inl ⟨rfl, by omega, by omega⟩⟩]
def StopsL (last : Bool) (post : List UInt8) : Prop := StopsAt post ∧ (post = [] → last = true)
theorem word_tok {last : Bool} {c : UInt8} {w post : List UInt8} (hw : ∀ x ∈ c :: w, isRg x = true) (hd : ¬ (isDg c = true ∨ c = 43 ∨ c = 45 ∨ c = 46)) (hp : StopsL last post) : tokV last c (w ++ post) = (0, { kind := 6, s := c :: w }, post) := by
 rw [tok_run hw hp.1 hp.2, if_neg hd]
theorem stop_sp (last : Bool) (p : List UInt8) : StopsL last (32 :: p) := ⟨fun c t h => by cases h; decide, fun h => by cases h⟩
theorem form_first {last : Bool} {v : PV} (h : ownC v = 0) (post : List UInt8) (hp : StopsL last post ∨ v.kind = 7) : ∃ c t, formV v ++ post = c :: t ∧ isSp c = false ∧ c ≠ 37 ∧ tokV last c t = (0, firstT v, restT v ++ post) := by
 obtain ⟨k, n, s, l⟩ := v
 simp only [formV, firstT, restT]
 simp only [ownC] at h
 by_cases k0 : k = 0
 · subst k0
   exact ⟨110, [117, 108, 108] ++ post, rfl, by decide, by decide, word_tok (c := 110) (w := [117, 108, 108]) (by decide) (by decide) (hp.resolve_right (by simp [PV.kind]))⟩
 · simp only [if_neg k0] at h ⊢
   by_cases k1 : k = 1
   · subst k1
     simp only [if_pos] at h ⊢
     by_cases n0 : n = 0
     · simp only [if_pos n0]
       exact ⟨102, [97, 108, 115, 101] ++ post, rfl, by decide, by decide, word_tok (c := 102) (w := [97, 108, 115, 101]) (by decide) (by decide) (hp.resolve_right (by simp [PV.kind]))⟩
     · simp only [if_neg n0]
       exact ⟨116, [114, 117, 101] ++ post, rfl, by decide, by decide, word_tok (c := 116) (w := [114, 117, 101]) (by decide) (by decide) (hp.resolve_right (by simp [PV.kind]))⟩
   · simp only [if_neg k1] at h ⊢
     by_cases k23 : k = 2 ∨ k = 3
     · simp only [if_pos k23] at h ⊢
       have hc : checkV k n true = 0 := by
         split at h
         · exact h
         · cases h
       obtain ⟨c, w, e, hr, -⟩ := print_form hc
       obtain ⟨d1, d2⟩ := dg_sp (hr c (List.mem_cons_self))
       refine ⟨c, w ++ post, by rw [e]; rfl, d1, d2, ?_⟩
       rw [if_neg (by omega), if_neg (by omega), if_neg (by omega)]
       exact tok_num hc e (hp.resolve_right (by simp only [PV.kind]; omega)).1 (hp.resolve_right (by simp only [PV.kind]; omega)).2
     · simp only [if_neg k23] at h ⊢
       by_cases k4 : k = 4
       · subst k4
         obtain ⟨c, w, e, d1, d2, -, ht⟩ := tok_text (last := last) (s := s) (post := post)
         exact ⟨c, w ++ post, by simp only [if_pos]; rw [e]; rfl, d1, d2, ht⟩
       · simp only [if_neg k4] at h ⊢
         by_cases k5 : k = 5
         · subst k5
           simp only [if_pos] at h ⊢
           have hs : ¬ (127 < s.length ∨ (0 : UInt8) ∈ s) := by
             intro hn
             rw [if_pos hn] at h
             cases h
           exact ⟨47, _, rfl, by decide, by decide, tok_name hs (hp.resolve_right (by simp [PV.kind])).1 (hp.resolve_right (by simp [PV.kind])).2⟩
         · simp only [if_neg k5] at h ⊢
           by_cases k6 : k = 6
           · subst k6
             exact ⟨91, (rowF l ++ [93]) ++ post, rfl, by decide, by decide, rfl⟩
           · simp only [if_neg k6] at h ⊢
             by_cases k7 : k = 7
             · subst k7
               exact ⟨60, 60 :: (rowF l ++ [62, 62]) ++ post, rfl, by decide, by decide, rfl⟩
             · simp only [if_neg k7] at h ⊢
               by_cases k8 : k = 8
               · subst k8
                 simp only [if_pos] at h ⊢
                 have hn : 1 ≤ n ∧ n ≤ 4096 := by
                   split at h
                   · rename_i hq; exact ⟨hq.1, hq.2.1⟩
                   · cases h
                 have hc := check_two hn.1 hn.2
                 obtain ⟨c, w, e, hr, -⟩ := print_form hc
                 obtain ⟨d1, d2⟩ := dg_sp (hr c (List.mem_cons_self))
                 refine ⟨c, w ++ ([32, 48, 32, 82] ++ post), by rw [e]; simp, d1, d2, ?_⟩
                 exact tok_num hc e (stop_sp last _).1 (fun h => by cases h)
               · simp only [if_neg k8] at h
                 cases h
theorem first_notR {v : PV} : NotR (firstT v) := by
 obtain ⟨k, n, s, l⟩ := v
 unfold NotR
 simp only [firstT]
 split
 · decide
 · split
   · split <;> decide
   · split
     · rintro ⟨h, -⟩; cases h
     · split
       · rintro ⟨h, -⟩; cases h
       · split
         · rintro ⟨h, -⟩; cases h
         · split
           · rintro ⟨h, -⟩; cases h
           · split <;> (rintro ⟨h, -⟩; cases h)
theorem first_suffix (v : PV) (post : List UInt8) : ∃ u, formV v ++ post = u ++ (restT v ++ post) := by
 obtain ⟨k, n, s, l⟩ := v
 simp only [restT]
 by_cases k8 : k = 8
 · subst k8
   exact ⟨(printV 2 n true).1, by simp [formV]⟩
 · by_cases k6 : k = 6
   · subst k6
     exact ⟨[91], by simp [formV]⟩
   · by_cases k7 : k = 7
     · subst k7
       exact ⟨[60, 60], by simp [formV]⟩
     · rw [if_neg k8, if_neg k6, if_neg k7]
       exact ⟨_, rfl⟩
def NxS2 (last : Bool) (post : List UInt8) (x : Tk) (r : List UInt8) : Prop := NxS last post x r ∧ ∃ u, post = u ++ r
structure Good2 (last : Bool) (post : List UInt8) : Prop where
 stop : StopsL last post
 nx : ∃ x r, NxS2 last post x r ∧ NotR x ∧ (wholeV x = true → ∃ y q, NxS2 last r y q ∧ NotR y)
theorem good2_nil : Good2 true [] := ⟨⟨fun c t h => (by cases h), fun _ => rfl⟩, { kind := 0 }, [], ⟨.inl ⟨rfl, rfl, rfl, rfl⟩, [], rfl⟩, by unfold NotR; decide, fun h => by cases h⟩
theorem good2_close (last : Bool) (p : List UInt8) : Good2 last (93 :: p) := ⟨⟨fun c t h => (by cases h; decide), fun h => by cases h⟩, { kind := 3 }, p, ⟨.inr ⟨false, 93, p, rfl, by decide, by decide, rfl⟩, [93], rfl⟩, by unfold NotR; decide, fun h => by cases h⟩
theorem good2_close2 (last : Bool) (p : List UInt8) : Good2 last (62 :: 62 :: p) := ⟨⟨fun c t h => (by cases h; decide), fun h => by cases h⟩, { kind := 5 }, p, ⟨.inr ⟨false, 62, 62 :: p, rfl, by decide, by decide, rfl⟩, [62, 62], rfl⟩, by unfold NotR; decide, fun h => by cases h⟩
theorem print_zero : (printV 2 0 true).1 = [48] := by
 have h : checkV 2 0 true = 0 := by decide
 unfold printV
 rw [if_pos h]
 simp only [signL, absL]
 rw [if_neg (by decide), if_pos (by trivial)]
 show [] ++ decL 0 = [48]
 rw [decL_small (by decide)]
 rfl
theorem tok_zero (last : Bool) (p : List UInt8) : tokV last 48 (32 :: p) = (0, { kind := 1, vk := 2, vn := 0 }, 32 :: p) :=
 tok_num (k := 2) (n := 0) (w := []) (by decide) print_zero (stop_sp last p).1 (fun h => by cases h)
theorem nx_form {last : Bool} {v : PV} (h : ownC v = 0) {post : List UInt8} (hp : StopsL last post ∨ v.kind = 7) (sp : Bool) : NxS2 last ((if sp then [32] else []) ++ (formV v ++ post)) (firstT v) (restT v ++ post) := by
 obtain ⟨c, t, e, h1, h2, h3⟩ := form_first h post hp
 obtain ⟨u, hu⟩ := first_suffix v post
 exact ⟨.inr ⟨sp, c, t, by rw [e], h1, h2, h3⟩, (if sp then [32] else []) ++ u, by rw [hu, List.append_assoc]⟩
theorem own_of_first {v : PV} (h : firstC v = 0) : ownC v = 0 := by
 obtain ⟨k, n, s, l⟩ := v
 simp only [firstC] at h
 split at h
 · rename_i hn; exact absurd h hn
 · rename_i hn; simpa using hn
theorem whole_first {v : PV} (h : wholeV (firstT v) = true) : restT v = [] ∨ restT v = [32, 48, 32, 82] := by
 obtain ⟨k, n, s, l⟩ := v
 simp only [firstT, restT] at h ⊢
 by_cases k8 : k = 8
 · exact .inr (if_pos k8)
 · rw [if_neg k8]
   left
   by_cases k6 : k = 6
   · subst k6; exact absurd h (by simp [wholeV])
   · by_cases k7 : k = 7
     · subst k7; exact absurd h (by simp [wholeV])
     · rw [if_neg k6, if_neg k7]
theorem good_form {last : Bool} {v : PV} (h : ownC v = 0) {post : List UInt8} (hg : Good2 last post) (sp : Bool) (hs : StopsL last ((if sp then [32] else []) ++ (formV v ++ post))) : Good2 last ((if sp then [32] else []) ++ (formV v ++ post)) := by
 refine ⟨hs, firstT v, restT v ++ post, nx_form h (.inl hg.stop) sp, first_notR, fun hw => ?_⟩
 rcases whole_first hw with e | e
 · rw [e]
   obtain ⟨x, r, h1, h2, -⟩ := hg.nx
   exact ⟨x, r, h1, h2⟩
 · rw [e]
   refine ⟨{ kind := 1, vk := 2, vn := 0 }, 32 :: 82 :: post, ⟨.inr ⟨true, 48, 32 :: 82 :: post, rfl, by decide, by decide, tok_zero last _⟩, [32, 48], rfl⟩, by unfold NotR; decide⟩
theorem good_more {last : Bool} {close : List UInt8} (hc : Good2 last close) : ∀ l : List PV, (∀ x ∈ l, ownC x = 0) → Good2 last (moreF l ++ close)
 | [], _ => hc
 | x :: l, h => by
   have ih := good_more hc l fun y hy => h y (List.mem_cons_of_mem _ hy)
   have := good_form (h x (List.mem_cons_self)) ih true (by simp only [if_pos, List.cons_append, List.nil_append]; exact stop_sp last _)
   simpa [moreF] using this
theorem refD_no {last : Bool} {post : List UInt8} (hg : Good2 last post) (pre : List UInt8) (n : Int) : refD (pre ++ post) last pre.length n = (false, 0, 0) := by
 obtain ⟨x, r, ⟨h1, u, hu⟩, h2, h3⟩ := hg.nx
 obtain ⟨a1, a2, a3⟩ := nx_next h1 pre
 unfold refD
 simp only
 rw [a3, if_neg (by decide), a1]
 cases hw : wholeV x with
 | false => rw [if_pos (.inr rfl)]
 | true =>
   rw [if_neg (by simp)]
   obtain ⟨y, q, ⟨g1, -⟩, g2⟩ := h3 hw
   have hl : ((pre ++ post).length : Int) - r.length = ((pre ++ u).length : Int) := by rw [hu]; simp; omega
   have hb : pre ++ post = (pre ++ u) ++ r := by rw [hu, List.append_assoc]
   rw [a2, hl, hb]
   obtain ⟨b1, b2, b3⟩ := nx_next g1 (pre ++ u)
   rw [b3, if_neg (by decide), b1]
   rw [if_pos]
   right
   exact Decidable.byContradiction fun hn => g2 (by
     refine ⟨Decidable.byContradiction fun h => hn (.inl h), Decidable.byContradiction fun h => hn (.inr h)⟩)
theorem refD_yes {last : Bool} {post : List UInt8} (hp : StopsL last post) (pre : List UInt8) {n : Int} (h1 : 1 ≤ n) (h2 : n ≤ 4096) : refD (pre ++ ([32, 48, 32, 82] ++ post)) last pre.length n = (true, ((pre ++ ([32, 48, 32, 82] ++ post)).length : Int) - post.length, 0) := by
 have n1 : NxS last ([32, 48, 32, 82] ++ post) { kind := 1, vk := 2, vn := 0 } (32 :: 82 :: post) := .inr ⟨true, 48, 32 :: 82 :: post, rfl, by decide, by decide, tok_zero last _⟩
 have n2 : NxS last (32 :: 82 :: post) { kind := 6, s := [82] } post := .inr ⟨true, 82, post, rfl, by decide, by decide, word_tok (c := 82) (w := []) (by decide) (by decide) hp⟩
 obtain ⟨a1, a2, a3⟩ := nx_next n1 pre
 have hl : ((pre ++ ([32, 48, 32, 82] ++ post)).length : Int) - (32 :: 82 :: post).length = ((pre ++ [32, 48]).length : Int) := by simp; omega
 have hb : pre ++ ([32, 48, 32, 82] ++ post) = (pre ++ [32, 48]) ++ (32 :: 82 :: post) := by simp
 unfold refD
 simp only
 rw [a3, if_neg (by decide), a1, if_neg (by decide), a2, hl]
 obtain ⟨b1, b2, b3⟩ := nx_next n2 (pre ++ [32, 48])
 rw [← hb] at b1 b2 b3
 rw [b3, if_neg (by decide), b1, if_neg (by decide), b2, if_neg (by simp; omega)]
theorem depth_pos (v : PV) : 1 ≤ depthV v := by
 obtain ⟨k, n, s, l⟩ := v
 simp only [depthV]
 split <;> omega
theorem first_kind (v : PV) : (firstT v).kind ≠ 3 ∧ (firstT v).kind ≠ 5 ∧ (firstT v).kind ≠ 0 := by
 obtain ⟨k, n, s, l⟩ := v
 simp only [firstT]
 refine ⟨?_, ?_, ?_⟩ <;> (split; · decide
                          · split
                            · show (6 : Int) ≠ _; decide
                            · split
                              · show (1 : Int) ≠ _; decide
                              · split
                                · show (1 : Int) ≠ _; decide
                                · split
                                  · show (1 : Int) ≠ _; decide
                                  · split
                                    · show (1 : Int) ≠ _; decide
                                    · split
                                      · show (2 : Int) ≠ _; decide
                                      · show (4 : Int) ≠ _; decide)
def BackAt (last : Bool) (d : Nat) : Prop := ∀ v, firstC v = 0 → depthV v ≤ d → ∀ pre post, (Good2 last post ∨ v.kind = 7) →
 vlD (pre ++ (formV v ++ post)) last d (firstT v) (((pre ++ (formV v ++ post)).length : Int) - (restT v ++ post).length) = (v, ((pre ++ (formV v ++ post)).length : Int) - post.length, 0)
def rowS (sp : Bool) : List PV → List UInt8
 | [] => []
 | x :: l => (if sp then [32] else []) ++ (formV x ++ moreF l)
theorem rowS_row (l : List PV) : rowS false l = rowF l := by cases l <;> simp [rowS, rowF]
theorem rowS_more (l : List PV) : rowS true l = moreF l := by cases l <;> simp [rowS, moreF]
theorem arr_back {last : Bool} {d : Nat} (hb : BackAt last d) (bs post : List UInt8) : ∀ (l2 l1 : List PV) (sp : Bool) (pre : List UInt8) (r : Nat), (∀ x ∈ l2, firstC x = 0 ∧ depthV x ≤ d) → l2.length < r → bs = pre ++ (rowS sp l2 ++ (93 :: post)) →
   arrD bs last (vlD bs last d) r l1 pre.length = (.mk 6 0 [] (l1 ++ l2), (bs.length : Int) - post.length, 0)
 | _, _, _, _, 0, _, h, _ => by omega
 | [], l1, sp, pre, r + 1, _, _, he => by
   have hn : NxS last (93 :: post) { kind := 3 } post := .inr ⟨false, 93, post, rfl, by decide, by decide, rfl⟩
   obtain ⟨a1, a2, a3⟩ := nx_next hn pre
   have hbs : bs = pre ++ 93 :: post := he
   rw [← hbs] at a1 a2 a3
   simp only [arrD]
   rw [a3, if_neg (by decide), a1, if_pos rfl, a2, List.append_nil]
 | x :: l, l1, sp, pre, r + 1, h, hr, he => by
   obtain ⟨x1, x2⟩ := h x (List.mem_cons_self)
   have hown : ∀ y ∈ l, ownC y = 0 := fun y hy => own_of_first (h y (List.mem_cons_of_mem _ hy)).1
   have hg : Good2 last (moreF l ++ 93 :: post) := good_more (good2_close last post) l hown
   have hn := nx_form (own_of_first x1) (.inl hg.stop) sp
   have hbs : bs = pre ++ ((if sp then [32] else []) ++ (formV x ++ (moreF l ++ 93 :: post))) := by rw [he]; simp [rowS]
   obtain ⟨a1, a2, a3⟩ := nx_next hn.1 pre
   rw [← hbs] at a1 a2 a3
   have hbs2 : bs = (pre ++ (if sp then [32] else [])) ++ (formV x ++ (moreF l ++ 93 :: post)) := by rw [hbs]; simp
   have hv := hb x x1 x2 (pre ++ (if sp then [32] else [])) (moreF l ++ 93 :: post) (.inl hg)
   rw [← hbs2] at hv
   simp only [arrD]
   rw [a3, if_neg (by decide), a1, if_neg (first_kind x).1, a2, hv]
   simp only
   rw [if_neg (by decide)]
   have hk : (bs.length : Int) - (moreF l ++ 93 :: post).length = ((pre ++ (if sp then [32] else []) ++ formV x).length : Int) := by rw [hbs2]; simp; omega
   rw [hk]
   have ih := arr_back hb bs post l (l1 ++ [x]) true (pre ++ (if sp then [32] else []) ++ formV x) r (fun y hy => h y (List.mem_cons_of_mem _ hy)) (by simp at hr; omega) (by rw [rowS_more, hbs2]; simp)
   rw [ih]
   simp
theorem insK_end {x : PV × PV} : ∀ l, (∀ y ∈ l, sLt y.1.s x.1.s = true) → insK x l = l ++ [x]
 | [], _ => rfl
 | y :: l, h => by
   simp only [insK]
   rw [if_neg (by rw [sLt_as _ _ (h y (List.mem_cons_self))]; decide), insK_end l fun z hz => h z (List.mem_cons_of_mem _ hz)]
   rfl
theorem hasK_end {s : List UInt8} {l : List (PV × PV)} (h : ∀ y ∈ l, sLt y.1.s s = true) : hasK s l = false :=
 hasK_no.2 fun y hy e => by have := h y hy; rw [e, sLt_ir] at this; cases this
theorem dict_back {last : Bool} {d : Nat} (hd : d ≠ 0) (hb : BackAt last d) (bs post : List UInt8) : ∀ (p : List (PV × PV)) (ps : List (PV × PV)) (sp : Bool) (pre : List UInt8) (r : Nat),
   (∀ q ∈ p, firstC q.1 = 0 ∧ q.1.kind = 5 ∧ firstC q.2 = 0 ∧ depthV q.2 ≤ d) → ascP (ps ++ p) → p.length < r → bs = pre ++ (rowS sp (flatV p) ++ (62 :: 62 :: post)) →
   dictD bs last (vlD bs last d) d r ps false pre.length = (.mk 7 0 [] (flatV (ps ++ p)), (bs.length : Int) - post.length, 0)
 | _, _, _, _, 0, _, _, h, _ => by omega
 | [], ps, sp, pre, r + 1, _, _, _, he => by
   have hn : NxS last (62 :: 62 :: post) { kind := 5 } post := .inr ⟨false, 62, 62 :: post, rfl, by decide, by decide, rfl⟩
   obtain ⟨a1, a2, a3⟩ := nx_next hn pre
   have hbs : bs = pre ++ 62 :: 62 :: post := he
   rw [← hbs] at a1 a2 a3
   simp only [dictD]
   rw [a3, if_neg (by decide), a1, if_pos rfl, if_neg (by decide), a2, List.append_nil]
 | (a, x) :: p, ps, sp, pre, r + 1, h, hasc, hr, he => by
   obtain ⟨n1, n2, x1, x2⟩ := h (a, x) (List.mem_cons_self)
   have hflat : ∀ y ∈ flatV p, ownC y = 0 := fun y hy => by
     obtain ⟨q, hq, e⟩ := (flat_mem p).1 hy
     obtain ⟨g1, -, g3, -⟩ := h q (List.mem_cons_of_mem _ hq)
     rcases e with rfl | rfl
     · exact own_of_first g1
     · exact own_of_first g3
   have hg : Good2 last (moreF (flatV p) ++ 62 :: 62 :: post) := good_more (good2_close2 last post) _ hflat
   have hgx : Good2 last ((if true then [32] else []) ++ (formV x ++ (moreF (flatV p) ++ 62 :: 62 :: post))) := good_form (own_of_first x1) hg true (by simp only [if_pos, List.cons_append, List.nil_append]; exact stop_sp last _)
   have hna := nx_form (own_of_first n1) (.inl hgx.stop) sp
   have hbs : bs = pre ++ ((if sp then [32] else []) ++ (formV a ++ ((if true then [32] else []) ++ (formV x ++ (moreF (flatV p) ++ 62 :: 62 :: post))))) := by rw [he]; simp [rowS, flatV, moreF]
   obtain ⟨a1, a2, a3⟩ := nx_next hna.1 pre
   rw [← hbs] at a1 a2 a3
   obtain ⟨ka, na, sa, la⟩ := a
   simp only [PV.kind] at n2
   subst n2
   have hao : na = 0 ∧ la = [] := by
     have := own_of_first n1
     simp only [ownC] at this
     rw [if_neg (by decide), if_neg (by decide), if_neg (by decide), if_neg (by decide), if_pos (by trivial)] at this
     split at this
     · cases this
     · split at this
       · rename_i hq; exact hq
       · cases this
   obtain ⟨rfl, rfl⟩ := hao
   have hft : firstT (.mk 5 0 sa []) = { kind := 1, vk := 5, vs := sa } := by
     simp only [firstT]
     rw [if_neg (by decide), if_neg (by decide), if_neg (by decide), if_neg (by decide), if_pos (by trivial)]
   have hrt : restT (.mk 5 0 sa []) = [] := by
     simp only [restT]
     rw [if_neg (by decide), if_neg (by decide), if_neg (by decide)]
   rw [hft] at a1
   rw [hrt, List.nil_append] at a2
   have hnx := nx_form (own_of_first x1) (.inl hg.stop) true
   have hb2 : bs = (pre ++ (if sp then [32] else []) ++ formV (.mk 5 0 sa [])) ++ ((if true then [32] else []) ++ (formV x ++ (moreF (flatV p) ++ 62 :: 62 :: post))) := by rw [hbs]; simp
   have hk1 : (bs.length : Int) - ((if true then [32] else []) ++ (formV x ++ (moreF (flatV p) ++ 62 :: 62 :: post))).length = ((pre ++ (if sp then [32] else []) ++ formV (.mk 5 0 sa [])).length : Int) := by rw [hb2]; simp; omega
   obtain ⟨b1, b2, b3⟩ := nx_next hnx.1 (pre ++ (if sp then [32] else []) ++ formV (.mk 5 0 sa []))
   rw [← hb2] at b1 b2 b3
   have hb3 : bs = (pre ++ (if sp then [32] else []) ++ formV (.mk 5 0 sa []) ++ [32]) ++ (formV x ++ (moreF (flatV p) ++ 62 :: 62 :: post)) := by rw [hb2]; simp
   have hv := hb x x1 x2 (pre ++ (if sp then [32] else []) ++ formV (.mk 5 0 sa []) ++ [32]) _ (.inl hg)
   rw [← hb3] at hv
   have hlt : ∀ y ∈ ps, sLt y.1.s sa = true := fun y hy => by
     have : ∀ (l m : List (PV × PV)) (z : PV × PV), ascP (l ++ z :: m) → ∀ y ∈ l, sLt y.1.s z.1.s = true := by
       intro l
       induction l with
       | nil => intro m z _ y hy; cases hy
       | cons w l ih =>
         intro m z hz y hy
         rcases List.mem_cons.1 hy with rfl | hy
         · exact hz.1 z (List.mem_append_right _ (List.mem_cons_self))
         · exact ih m z hz.2 y hy
     exact this ps p _ hasc y hy
   have hput : putK (.mk 5 0 sa [], x) ps = ps ++ [(.mk 5 0 sa [], x)] := by
     unfold putK
     rw [show hasK (PV.mk 5 0 sa [], x).1.s ps = false from hasK_end hlt, if_neg (by decide)]
     exact insK_end ps hlt
   simp only [dictD]
   rw [a3, if_neg (by decide), a1, if_neg (by simp), if_neg (by simp), if_neg (by simp), if_neg hd, a2, hk1, b3, if_neg (by decide), b1, b2, hv]
   simp only
   rw [if_neg (by decide), hput, hasK_end hlt]
   have hk2 : (bs.length : Int) - (moreF (flatV p) ++ 62 :: 62 :: post).length = ((pre ++ (if sp then [32] else []) ++ formV (.mk 5 0 sa []) ++ [32] ++ formV x).length : Int) := by rw [hb3]; simp; omega
   rw [hk2]
   have ih := dict_back hd hb bs post p (ps ++ [(.mk 5 0 sa [], x)]) true (pre ++ (if sp then [32] else []) ++ formV (.mk 5 0 sa []) ++ [32] ++ formV x) r (fun q hq => h q (List.mem_cons_of_mem _ hq)) (by simpa using hasc) (by simp at hr; omega) (by rw [rowS_more, hb3]; simp)
   simp only [Bool.false_or]
   rw [ih]
   simp
theorem first_all {l : List PV} : firstL l = 0 → ∀ x ∈ l, firstC x = 0 := by
 induction l with
 | nil => intro _ x hx; cases hx
 | cons y l ih =>
   intro h x hx
   simp only [firstL] at h
   split at h
   · rename_i hn; exact absurd h hn
   · rename_i hn
     rcases List.mem_cons.1 hx with rfl | hx
     · simpa using hn
     · exact ih h x hx
theorem depth_all {l : List PV} {n : Nat} : depthL l ≤ n → ∀ x ∈ l, depthV x ≤ n := by
 induction l with
 | nil => intro _ x hx; cases hx
 | cons y l ih =>
   intro h x hx
   simp only [depthL] at h
   rcases List.mem_cons.1 hx with rfl | hx
   · omega
   · exact ih (by omega) x hx
theorem asc_back : ∀ l : List (PV × PV), ascV l = true → ascP l
 | [], _ => trivial
 | [x], _ => ⟨fun y hy => (by cases hy), trivial⟩
 | x :: y :: l, h => by
   simp only [ascV, Bool.and_eq_true] at h
   have hr := asc_back (y :: l) h.2
   refine ⟨fun z hz => ?_, hr⟩
   rcases List.mem_cons.1 hz with rfl | hz
   · exact h.1
   · exact sLt_tr _ _ _ h.1 (hr.1 z hz)
theorem more_len : ∀ l : List PV, l.length ≤ (moreF l).length
 | [] => Nat.le_refl _
 | x :: l => by have := more_len l; simp [moreF]; omega
theorem form_pos {v : PV} (h : ownC v = 0) : 1 ≤ (formV v).length := by
 obtain ⟨c, t, e, -⟩ := form_first (last := true) h [] (.inl ⟨fun c t h => (by cases h), fun _ => rfl⟩)
 rw [List.append_nil] at e
 rw [e]
 simp
theorem row_len {l : List PV} (h : ∀ x ∈ l, ownC x = 0) : l.length ≤ (rowF l).length := by
 cases l with
 | nil => exact Nat.le_refl _
 | cons x l =>
   have := more_len l
   have := form_pos (h x (List.mem_cons_self))
   simp [rowF]; omega
theorem back_all (last : Bool) : ∀ d, BackAt last d
 | 0 => fun v _ hd => by have := depth_pos v; omega
 | d + 1 => fun v hf hdp pre post hg => by
   have hown := own_of_first hf
   obtain ⟨k, n, s, l⟩ := v
   by_cases k6 : k = 6
   · subst k6
     have ho := hown
     simp only [ownC] at ho
     rw [if_neg (by decide), if_neg (by decide), if_neg (by decide), if_neg (by decide), if_neg (by decide), if_pos (by trivial)] at ho
     have hns : n = 0 ∧ s = [] := by
       split at ho
       · rename_i h; exact h
       · cases ho
     obtain ⟨rfl, rfl⟩ := hns
     simp only [firstC] at hf
     rw [if_neg (by simp [hown]), if_pos (by simp)] at hf
     simp only [depthV] at hdp
     rw [if_pos (by simp)] at hdp
     have hx : ∀ x ∈ l, firstC x = 0 ∧ depthV x ≤ d := fun x hx => ⟨first_all hf x hx, depth_all (by omega) x hx⟩
     have hft : firstT (.mk 6 0 [] l) = { kind := 2 } := by simp [firstT]
     have hrt : restT (.mk 6 0 [] l) = rowF l ++ [93] := by simp [restT]
     have hb : pre ++ (formV (.mk 6 0 [] l) ++ post) = (pre ++ [91]) ++ (rowS false l ++ (93 :: post)) := by rw [rowS_row]; simp [formV]
     have hk : ((pre ++ (formV (.mk 6 0 [] l) ++ post)).length : Int) - (restT (.mk 6 0 [] l) ++ post).length = ((pre ++ [91]).length : Int) := by rw [hb, hrt, rowS_row]; simp; omega
     rw [hk, hft]
     have hl := row_len (l := l) fun x hx2 => own_of_first (hx x hx2).1
     have ha := arr_back (back_all last d) (pre ++ (formV (.mk 6 0 [] l) ++ post)) post l [] false (pre ++ [91]) ((pre ++ (formV (.mk 6 0 [] l) ++ post)).length + 1) hx (by rw [hb, rowS_row]; simp; omega) hb
     simp only [vlD]
     rw [if_neg (by decide), if_pos (by trivial), ha]
     rfl
   · by_cases k7 : k = 7
     · subst k7
       have ho := hown
       simp only [ownC] at ho
       rw [if_neg (by decide), if_neg (by decide), if_neg (by decide), if_neg (by decide), if_neg (by decide), if_neg (by decide), if_pos (by trivial)] at ho
       have hns : n = 0 ∧ s = [] ∧ l.length % 2 = 0 ∧ evenN l = true ∧ ascV (twoV l) = true := by
         split at ho
         · cases ho
         · rename_i h1
           split at ho
           · cases ho
           · rename_i h2
             split at ho
             · rename_i h3
               exact ⟨Decidable.byContradiction fun h => h1 (.inl h), Decidable.byContradiction fun h => h1 (.inr (.inl h)), Decidable.byContradiction fun h => h1 (.inr (.inr h)), by simpa using h2, h3⟩
             · cases ho
       obtain ⟨rfl, rfl, hev, hnm, hasc⟩ := hns
       simp only [firstC] at hf
       rw [if_neg (by simp [hown]), if_pos (by simp)] at hf
       simp only [depthV] at hdp
       rw [if_pos (by simp)] at hdp
       have hfl := two_flat l hev
       have hnm2 := evenN_flat (twoV l)
       rw [hfl, hnm] at hnm2
       have hx : ∀ q ∈ twoV l, firstC q.1 = 0 ∧ q.1.kind = 5 ∧ firstC q.2 = 0 ∧ depthV q.2 ≤ d := fun q hq => by
         have m1 : q.1 ∈ l := by rw [← hfl]; exact (flat_mem _).2 ⟨q, hq, .inl rfl⟩
         have m2 : q.2 ∈ l := by rw [← hfl]; exact (flat_mem _).2 ⟨q, hq, .inr rfl⟩
         have m3 := List.all_eq_true.1 hnm2.symm q hq
         exact ⟨first_all hf _ m1, by simpa using m3, first_all hf _ m2, depth_all (by omega) _ m2⟩
       have hft : firstT (.mk 7 0 [] l) = { kind := 4 } := by simp [firstT]
       have hrt : restT (.mk 7 0 [] l) = rowF l ++ [62, 62] := by simp [restT]
       have hb : pre ++ (formV (.mk 7 0 [] l) ++ post) = (pre ++ [60, 60]) ++ (rowS false (flatV (twoV l)) ++ (62 :: 62 :: post)) := by rw [hfl, rowS_row]; simp [formV]
       have hk : ((pre ++ (formV (.mk 7 0 [] l) ++ post)).length : Int) - (restT (.mk 7 0 [] l) ++ post).length = ((pre ++ [60, 60]).length : Int) := by rw [hb, hrt, hfl, rowS_row]; simp; omega
       rw [hk, hft]
       have hl := row_len (l := l) fun x hx2 => own_of_first (first_all hf x hx2)
       have h2 : (twoV l).length ≤ l.length := by
         have : (flatV (twoV l)).length = 2 * (twoV l).length := by
           generalize twoV l = p
           induction p with
           | nil => rfl
           | cons q p ih => obtain ⟨a, b⟩ := q; simp [flatV, ih]; omega
         rw [hfl] at this
         omega
       by_cases hd0 : d = 0
       · subst hd0
         cases l with
         | nil =>
           simp only [vlD]
           rw [if_neg (by decide), if_neg (by decide), if_pos (by trivial)]
           have hn : NxS last (62 :: 62 :: post) { kind := 5 } post := .inr ⟨false, 62, 62 :: post, rfl, by decide, by decide, rfl⟩
           obtain ⟨a1, a2, a3⟩ := nx_next hn (pre ++ [60, 60])
           have hb3 : pre ++ (formV (.mk 7 0 [] []) ++ post) = (pre ++ [60, 60]) ++ 62 :: 62 :: post := hb
           rw [← hb3] at a1 a2 a3
           simp only [dictD]
           rw [a3, if_neg (by decide), a1, if_pos rfl, if_neg (by decide), a2]
           rfl
         | cons x l =>
           have := depth_pos x
           simp only [depthL] at hdp
           omega
       · have ha := dict_back hd0 (back_all last d) (pre ++ (formV (.mk 7 0 [] l) ++ post)) post (twoV l) [] false (pre ++ [60, 60]) ((pre ++ (formV (.mk 7 0 [] l) ++ post)).length + 1) hx (asc_back _ hasc) (by rw [hb, hfl, rowS_row]; simp; omega) hb
         simp only [vlD]
         rw [if_neg (by decide), if_neg (by decide), if_pos (by trivial), ha, List.nil_append, hfl]
     · have hg2 : Good2 last post := hg.resolve_right (by simpa [PV.kind] using k7)
       have hvl : ∀ t : Tk, t.kind = 6 ∨ t.kind = 1 → ∀ tb : Int, vlD (pre ++ (formV (.mk k n s l) ++ post)) last (d + 1) t tb = singD (pre ++ (formV (.mk k n s l) ++ post)) last t tb := fun t ht tb => by
         simp only [vlD]
         rw [if_neg (by omega), if_neg (by omega), if_neg (by omega), if_neg (by omega)]
       have hb : pre ++ (formV (.mk k n s l) ++ post) = (pre ++ formV (.mk k n s l)) ++ post := by rw [List.append_assoc]
       have ho := hown
       simp only [ownC] at ho
       by_cases k8 : k = 8
       · subst k8
         rw [if_neg (by decide), if_neg (by decide), if_neg (by decide), if_neg (by decide), if_neg (by decide), if_neg (by decide), if_neg (by decide), if_pos (by trivial)] at ho
         have hq : 1 ≤ n ∧ n ≤ 4096 ∧ s = [] ∧ l = [] := by
           split at ho
           · rename_i h; exact h
           · cases ho
         obtain ⟨n1, n2, rfl, rfl⟩ := hq
         have hft : firstT (.mk 8 n [] []) = { kind := 1, vk := 2, vn := n } := by simp [firstT]
         have hrt : restT (.mk 8 n [] []) = [32, 48, 32, 82] := by simp [restT]
         have hf8 : formV (.mk 8 n [] []) = (printV 2 n true).1 ++ [32, 48, 32, 82] := by simp [formV]
         rw [hft, hvl _ (.inr rfl), hrt, hf8]
         have hb2 : pre ++ ((printV 2 n true).1 ++ [32, 48, 32, 82] ++ post) = (pre ++ (printV 2 n true).1) ++ ([32, 48, 32, 82] ++ post) := by simp
         have hk : ((pre ++ ((printV 2 n true).1 ++ [32, 48, 32, 82] ++ post)).length : Int) - ([32, 48, 32, 82] ++ post).length = ((pre ++ (printV 2 n true).1).length : Int) := by rw [hb2]; simp; omega
         have hr := refD_yes hg2.stop (pre ++ (printV 2 n true).1) n1 n2
         rw [← hb2] at hr
         rw [hk]
         unfold singD
         rw [if_neg (by simp), if_pos (by simp [wholeV])]
         simp only [hr]
         rw [if_neg (by decide), if_pos (by trivial)]
       · have hrt : restT (.mk k n s l) = [] := by
           simp only [restT]
           rw [if_neg k8, if_neg k6, if_neg k7]
         rw [hrt, List.nil_append]
         have hk : ((pre ++ (formV (.mk k n s l) ++ post)).length : Int) - post.length = ((pre ++ formV (.mk k n s l)).length : Int) := by rw [hb]; simp; omega
         by_cases k0 : k = 0
         · subst k0
           rw [if_pos (by trivial)] at ho
           have hq : n = 0 ∧ s = [] ∧ l = [] := by
             split at ho
             · rename_i h; exact h
             · cases ho
           obtain ⟨rfl, rfl, rfl⟩ := hq
           have hft : firstT (.mk 0 0 [] []) = { kind := 6, s := [110, 117, 108, 108] } := by simp [firstT]
           rw [hft, hvl _ (.inl rfl)]
           unfold singD
           rw [if_pos rfl]
           rfl
         · rw [if_neg k0] at ho
           by_cases k1 : k = 1
           · subst k1
             rw [if_pos (by trivial)] at ho
             have hq : (n = 0 ∨ n = 1) ∧ s = [] ∧ l = [] := by
               split at ho
               · rename_i h; exact h
               · cases ho
             obtain ⟨hn, rfl, rfl⟩ := hq
             rcases hn with rfl | rfl
             · have hft : firstT (.mk 1 0 [] []) = { kind := 6, s := [102, 97, 108, 115, 101] } := by simp [firstT]
               rw [hft, hvl _ (.inl rfl)]
               unfold singD
               rw [if_pos rfl]
               rfl
             · have hft : firstT (.mk 1 1 [] []) = { kind := 6, s := [116, 114, 117, 101] } := by simp [firstT]
               rw [hft, hvl _ (.inl rfl)]
               unfold singD
               rw [if_pos rfl]
               rfl
           · rw [if_neg k1] at ho
             by_cases k23 : k = 2 ∨ k = 3
             · rw [if_pos k23] at ho
               have hq : s = [] ∧ l = [] := by
                 split at ho
                 · rename_i h; exact h
                 · cases ho
               obtain ⟨rfl, rfl⟩ := hq
               have hft : firstT (.mk k n [] []) = { kind := 1, vk := k, vn := n } := by
                 simp only [firstT]
                 rw [if_neg k0, if_neg k1, if_pos k23]
               rw [hft, hvl _ (.inr rfl)]
               unfold singD
               rw [if_neg (by simp)]
               by_cases k2 : k = 2
               · subst k2
                 rw [if_pos (by simp [wholeV]), hk]
                 have hr := refD_no hg2 (pre ++ formV (.mk 2 n [] [])) n
                 rw [← hb] at hr
                 simp only [hr]
                 rw [if_neg (by decide), if_neg (by decide)]
                 rfl
               · rw [if_neg (by simp [wholeV]; omega)]
                 rfl
             · rw [if_neg k23] at ho
               by_cases k4 : k = 4
               · subst k4
                 rw [if_pos (by trivial)] at ho
                 have hq : n = 0 ∧ l = [] := by
                   split at ho
                   · rename_i h; exact h
                   · cases ho
                 obtain ⟨rfl, rfl⟩ := hq
                 have hft : firstT (.mk 4 0 s []) = { kind := 1, vk := 4, vs := s } := by simp [firstT]
                 rw [hft, hvl _ (.inr rfl)]
                 unfold singD
                 rw [if_neg (by simp), if_neg (by simp [wholeV])]
                 rfl
               · rw [if_neg k4] at ho
                 by_cases k5 : k = 5
                 · subst k5
                   rw [if_pos (by trivial)] at ho
                   have hq : n = 0 ∧ l = [] := by
                     split at ho
                     · cases ho
                     · split at ho
                       · rename_i h; exact h
                       · cases ho
                   obtain ⟨rfl, rfl⟩ := hq
                   have hft : firstT (.mk 5 0 s []) = { kind := 1, vk := 5, vs := s } := by simp [firstT]
                   rw [hft, hvl _ (.inr rfl)]
                   unfold singD
                   rw [if_neg (by simp), if_neg (by simp [wholeV])]
                   rfl
                 · rw [if_neg k5, if_neg k6, if_neg k7, if_neg k8] at ho
                   cases ho
theorem show_back {v : PV} (h : checkC v = 0) : wholeD (formV v) true 0 = (v, ((formV v).length : Int), 0) ∧ nextV (formV v) (formV v).length true = ({ kind := 0 }, ((formV v).length : Int), ((formV v).length : Int), 0) := by
 have hd : depthV v ≤ 64 ∧ firstC v = 0 := by
   unfold checkC at h
   split at h
   · cases h
   · exact ⟨by omega, h⟩
 refine ⟨?_, ?_⟩
 · have hb := back_all true 64 v hd.2 hd.1 [] [] (.inl good2_nil)
   have hn := nx_form (own_of_first hd.2) (.inl good2_nil.stop) false
   obtain ⟨a1, a2, a3⟩ := nx_next hn.1 []
   simp only [List.nil_append, List.append_nil, Bool.false_eq_true, if_false, List.length_nil] at hb a1 a2 a3
   unfold wholeD
   have e0 : (((0 : Nat) : Int)) = (0 : Int) := rfl
   rw [e0] at a1 a2 a3
   rw [a3, if_neg (by decide), a1, a2, hb]
   simp
 · have hs : skipV (formV v) (formV v).length = (formV v).length := by unfold skipV; rw [if_neg (by omega), if_pos (Int.le_refl _)]
   rw [nextV_in true (by omega) (by omega), hs, nextF_nil true (by simp)]
   rfl
end Go.Proofs.YtnkodejgiabamaaGreatDoor
namespace Go.Proofs.YtnkodejgiabamaaGreatDoor
open Go.RowKit
def sgB : ByteArray := ⟨#[48, 49, 50, 51, 52, 53, 54, 55, 56, 57, 97, 98, 99, 100, 101, 102]⟩
theorem sg_at : ∀ (k : Nat) (h : k < sgB.size), (sgB[k]'h).toNat = (hexG k).toNat := by
 have : ∀ d : Fin 16, (sgB[d.1]'d.2).toNat = (hexG d.1).toNat := by decide
 exact fun k h => this ⟨k, h⟩
theorem sgI (x : Int) (k : Nat) (hx : x.toNat = k) {h : x.toNat < (⟨#[48, 49, 50, 51, 52, 53, 54, 55, 56, 57, 97, 98, 99, 100, 101, 102]⟩ : ByteArray).size} :
   (((⟨#[48, 49, 50, 51, 52, 53, 54, 55, 56, 57, 97, 98, 99, 100, 101, 102]⟩ : ByteArray)[x.toNat]'h).toNat : Int) = ((hexG k).toNat : Int) := by subst hx; exact congrArg Int.ofNat (sg_at _ h)
theorem u8_and15 (n : Nat) (_h : n < 256) : bits .and .u8 (n : Int) 15 = ((n % 16 : Nat) : Int) := by
 have h7 : (BitVec.ofInt 8 15).toNat = 2 ^ 4 - 1 := by decide
 have key : (BitVec.ofInt 8 (n : Int) &&& BitVec.ofInt 8 15).toNat = ((n : Int) % ((2 ^ 8 : Nat) : Int)).toNat % 2 ^ 4 := by
   rw [BitVec.toNat_and, BitVec.toNat_ofInt, h7, Nat.and_two_pow_sub_one_eq_mod]
 show IntKind.u8.wrap ((BitVec.ofInt 8 (n : Int) &&& BitVec.ofInt 8 15).toNat : Nat) = _
 rw [key, IntKind.wrap_u8]
 omega
theorem sg_n (q : Nat) {h : q < (⟨#[48, 49, 50, 51, 52, 53, 54, 55, 56, 57, 97, 98, 99, 100, 101, 102]⟩ : ByteArray).size} :
   (((⟨#[48, 49, 50, 51, 52, 53, 54, 55, 56, 57, 97, 98, 99, 100, 101, 102]⟩ : ByteArray)[q]'h).toNat : Int) = ((hexG q).toNat : Int) := congrArg Int.ofNat (sg_at q h)
theorem hexW {w : World} {S : Nat → Prop} {p : Nat} {out : List UInt8} (h : WrQ w S p out) (c : UInt8) (hl : out.length + 2 ≤ 10000000) :
   Calls Tryz.prog 55 #[.pointer (some ⟨p, 0, none⟩), .int .u8 c.toNat] w fun e w' => e = .returned (.tuple #[]) ∧ WrNext w S p (out ++ hexB c) w' := by
 obtain ⟨q, hq⟩ : ∃ q, q = c.toNat / 16 := ⟨_, rfl⟩
 obtain ⟨r, hr⟩ : ∃ r, r = c.toNat % 16 := ⟨_, rfl⟩
 have hc := c.toNat_lt
 have hx : hexB c = [hexG q, hexG r] := by rw [hq, hr]; rfl
 rw [hx]
 have HA := Lib.hid (fun (W : World) (hb : Below w.heap.size w W) (x : Int) (hx : x = ((hexG q).toNat : Int)) => writeByteW (h.keep hb) _ x hx (by omega))
 obtain ⟨n, hn⟩ : ∃ n, n = c.toNat := ⟨_, rfl⟩
 rw [← hn] at hq hr hc ⊢
 have e1 : (n : Int) / 16 = (q : Int) := by omega
 have e2 : (n : Int) % 16 = (r : Int) := by omega
 have e3 : n / 16 = q := hq.symm
 have e4 : n % 16 = r := hr.symm
 have hb1 : (0 : Int) ≤ (q : Int) := by omega
 have hb2 : (q : Int) < 16 := by omega
 have hb3 : q < 16 := by omega
 have hb4 : (0 : Int) ≤ (r : Int) := by omega
 have hb5 : (r : Int) < 16 := by omega
 have hb6 : r < 16 := by omega
 have hand : ((0 : Int) ≤ (n : Int) / 16 ∧ (n : Int) / 16 < 16) = True := eq_true ⟨by omega, by omega⟩
 have HQ := Lib.hid (show ((n : Int) / 16).toNat = q by omega)
 have hand2 : bits .and .u8 (n : Int) 15 = (r : Int) := by rw [u8_and15 n hc, hr]
 clear h hx hn hq hr e1 e2 e3 e4
 go_enter Tryz.func55, Tryz.ntmps55
 go_wp2
 go_region_with ((go_at_call 35; refine (HA.out _ (Below.refl _ _).drew _ (sgI _ _ HQ.out)).mono ?_; rintro e w1 ⟨rfl, hN1⟩))
 have HB := Lib.hid (fun (S1 : Nat → Prop) (W : World) (h : WrQ W S1 p (out ++ [hexG q])) (x : Int) (hx : x = ((hexG r).toNat : Int)) => writeByteW h _ x hx (by simp; omega))
 obtain ⟨S1, hq1, hk1, hs1⟩ := hN1
 go_wp2
 go_region_with ((go_at_call 35; refine (HB.out S1 _ (hq1.keep (Below.refl _ _).drew) _ (sg_n r)).mono ?_; rintro e w2 ⟨rfl, hN2⟩))
 go_wp2
 go_end0
 refine ⟨rfl, ?_⟩
 have h2 : WrNext w1 S1 p (out ++ [hexG q, hexG r]) w2 := by
   have h3 := WrNext.above (Below.refl _ _).drew hN2
   rwa [List.append_assoc] at h3
 exact WrNext.above (Below.refl _ _).drew (WrNext.trans hk1 hs1 h2)
def chF (c : UInt8) : List UInt8 := if c.toNat < 33 ∨ 126 < c.toNat ∨ c = 35 ∨ isDl c = true then 35 :: hexB c else [c]
theorem nameF_take : ∀ {l : List UInt8} {k : Nat} {c : UInt8}, l[k]? = some c → nameF (l.take (k + 1)) = nameF (l.take k) ++ chF c
 | [], _, _, h => by cases h
 | x :: l, 0, c, h => by
   have e : x = c := by simpa using h
   subst e
   simp [nameF, chF]
 | x :: l, k + 1, c, h => by
   have := nameF_take (l := l) (k := k) (c := c) (by simpa using h)
   simp only [List.take_succ_cons, nameF, this, List.append_assoc]
theorem nameF_len : ∀ l : List UInt8, (nameF l).length ≤ 3 * l.length
 | [] => Nat.le_refl _
 | c :: l => by
   have := nameF_len l
   simp only [nameF, List.length_append, List.length_cons]
   split
   · simp [hexB]; omega
   · simp; omega
theorem hexF_take : ∀ {l : List UInt8} {k : Nat} {c : UInt8}, l[k]? = some c → hexF (l.take (k + 1)) = hexF (l.take k) ++ hexB c
 | [], _, _, h => by cases h
 | x :: l, 0, c, h => by
   have e : x = c := by simpa using h
   subst e
   simp [hexF]
 | x :: l, k + 1, c, h => by
   have := hexF_take (l := l) (k := k) (c := c) (by simpa using h)
   simp only [List.take_succ_cons, hexF, this, List.append_assoc]
theorem hexF_len : ∀ l : List UInt8, (hexF l).length = 2 * l.length
 | [] => rfl
 | c :: l => by have := hexF_len l; simp [hexF, hexB, this]; omega
def brF (c : UInt8) : List UInt8 := if c = 40 ∨ c = 41 ∨ c = 92 then [92, c] else [c]
theorem bareF_take : ∀ {l : List UInt8} {k : Nat} {c : UInt8}, l[k]? = some c → bareF (l.take (k + 1)) = bareF (l.take k) ++ brF c
 | [], _, _, h => by cases h
 | x :: l, 0, c, h => by
   have e : x = c := by simpa using h
   subst e
   simp [bareF, brF]
 | x :: l, k + 1, c, h => by
   have := bareF_take (l := l) (k := k) (c := c) (by simpa using h)
   simp only [List.take_succ_cons, bareF, this, List.append_assoc]
theorem bareF_len : ∀ l : List UInt8, (bareF l).length ≤ 2 * l.length
 | [] => Nat.le_refl _
 | c :: l => by
   have := bareF_len l
   simp only [bareF, List.length_append, List.length_cons]
   split <;> (simp; omega)
theorem at_mkB {s : List UInt8} {k : Nat} (h : k < s.length) (h2 : k < (mkB s).size) : ((mkB s)[k]'h2).toNat = (s[k]'h).toNat := rfl
theorem eq35 {c : UInt8} : c = 35 ↔ c.toNat = 35 := by constructor <;> intro h; (subst h; rfl); (exact UInt8.toNat_inj.1 h)
theorem nameW {w : World} {S : Nat → Prop} {p : Nat} {out : List UInt8} (h : WrQ w S p out) (s : List UInt8) (hl : out.length + 3 * s.length + 1 ≤ 10000000) :
   Calls Tryz.prog 34 #[.pointer (some ⟨p, 0, none⟩), .string (mkB s)] w fun e w' => e = .returned (.tuple #[]) ∧ WrNext w S p (out ++ 47 :: nameF s) w' := by
 have HA := Lib.hid (writeByteW h 47 47 rfl (by omega))
 have hsz : (mkB s).size = s.length := mkB_size s
 have hszi : ((mkB s).size : Int) = s.length := by rw [hsz]
 have HSZ := Lib.hid hsz
 have hm : (s.length : Int) ≤ 10000000 := by omega
 go_enter Tryz.func34, Tryz.ntmps34
 go_wp2_with fail
 refine HA.out.mono ?_
 rintro e w1 ⟨rfl, hN1⟩
 have HN1 := Lib.hid hN1
 clear hN1 HA
 go_wp2
 go_loopw [12] (fun vk wr => ∃ k : Nat, vk = .int .i64 k ∧ k ≤ s.length ∧ Hid (WrNext w S p ((out ++ [47]) ++ nameF (s.take k)) wr)) (fun vk _ => s.length - (intOf vk).toNat)
 case atStart => exact ⟨0, rfl, Nat.zero_le _, Lib.hid (by rw [List.take_zero]; simpa [nameF] using HN1.out)⟩
 case round =>
   obtain ⟨k, rfl, hk, HN⟩ := hrel
   by_cases q1 : k < s.length
   case neg =>
     have hd1 : decide (k < s.length) = false := decide_eq_false q1
     have hd2 : decide ((k : Int) < (s.length : Int)) = false := decide_eq_false (by omega)
     have hq2 : ¬ (k : Int) < (s.length : Int) := by omega
     have HE := Lib.hid (show WrNext w S p (out ++ 47 :: nameF s) wr by
       have h2 := HN.out
       rw [List.take_of_length_le (by omega), List.append_assoc] at h2
       exact h2)
     clear HN HN1
     go_wp2
     go_end0
     exact ⟨rfl, HE.out⟩
   have hd1 : decide (k < s.length) = true := decide_eq_true q1
   have hd2 : decide ((k : Int) < (s.length : Int)) = true := decide_eq_true (by omega)
   have hk0 : (0 : Int) ≤ (k : Int) := by omega
   have hk1 : (k : Int) < (s.length : Int) := by omega
   have hk2 : k < (mkB s).size := by omega
   obtain ⟨c, hc⟩ : ∃ c, c = s[k]'q1 := ⟨_, rfl⟩
   have hcs : s[k]? = some c := by rw [hc]; exact List.getElem?_eq_getElem q1
   have hT := nameF_take hcs
   have hlen : (nameF (s.take k)).length ≤ 3 * k := by
     have h1 := nameF_len (s.take k)
     rw [List.length_take] at h1
     omega
   have hol : ((out ++ [47]) ++ nameF (s.take k)).length + 3 ≤ 10000000 := by simp; omega
   obtain ⟨n, hn⟩ : ∃ n, n = c.toNat := ⟨_, rfl⟩
   have hat : ((mkB s)[k]'hk2).toNat = n := by rw [hn, hc]; exact at_mkB q1 hk2
   have HD := Lib.hid (fun W => delim_any c W)
   have HH := Lib.hid (fun (S1 : Nat → Prop) (W : World) (o : List UInt8) (hq : WrQ W S1 p o) (ho : o.length + 2 ≤ 10000000) => hexW hq c ho)
   have hdl : dlI (c.toNat : Int) = isDl c := (dlI_eq c).symm
   have hch : chF c = if n < 33 ∨ 126 < n ∨ n = 35 ∨ dlI (n : Int) = true then 35 :: hexB c else [c] := by
     unfold chF; rw [hn, hdl]; simp only [eq35]
   rw [← hn] at HD HH
   have HT := Lib.hid hT
   have HOL := Lib.hid hol
   have HNC := Lib.hid hn
   have HCH := Lib.hid hch
   clear hT hol hn hc hcs hdl hch hlen
   generalize dlI (n : Int) = d at *
   obtain ⟨S1, hq1, hk1', hs1⟩ := HN.out
   have HQ1 := Lib.hid hq1
   have HK1 := Lib.hid hk1'
   have HS1 := Lib.hid hs1
   clear hq1 hk1' hs1 HN HN1
   by_cases h1 : n < 33
   · have b1 : decide (n < 33) = true := decide_eq_true h1
     have b1' : decide ((n : Int) < 33) = true := decide_eq_true (by omega)
     have HCB := Lib.hid (show chF c = 35 :: hexB c by rw [HCH.out, if_pos (.inl h1)])
     clear HCH h1
     go_wp2_with (fail)
     refine (writeByteW HQ1.out 35 35 rfl (by have := HOL.out; omega)).mono ?_
     rintro e w2 ⟨rfl, hN2⟩
     obtain ⟨S2, hq2, hk2', hs2⟩ := hN2
     have HH2 := Lib.hid (HH.out S2 w2 _ hq2 (by have := HOL.out; simp at this ⊢; omega))
     clear hq2
     go_wp2_with fail
     refine HH2.out.mono ?_
     rintro e w3 ⟨rfl, hN3⟩
     have HN3 := Lib.hid (show WrNext w S p ((out ++ [47]) ++ nameF (s.take (k + 1))) w3 by
       rw [HT.out, HCB.out]
       have h3 := WrNext.trans HK1.out HS1.out (WrNext.trans hk2' hs2 hN3)
       rw [List.append_assoc _ [35]] at h3
       rw [← List.append_assoc (out ++ [47])]
       exact h3)
     clear hN3 hk2' hs2 HH2 HCB
     go_wp2
     go_roundw
     case rel => exact ⟨k + 1, by go_num, by omega, HN3⟩
     case measure => simp [intOf]; omega
   have b1 : decide (n < 33) = false := decide_eq_false h1
   have b1' : decide ((n : Int) < 33) = false := decide_eq_false (by omega)
   by_cases h2 : 126 < n
   · have b2 : decide (126 < n) = true := decide_eq_true h2
     have b2' : decide ((126 : Int) < (n : Int)) = true := decide_eq_true (by omega)
     have HCB := Lib.hid (show chF c = 35 :: hexB c by rw [HCH.out, if_pos (.inr (.inl h2))])
     clear HCH h1 h2
     go_wp2_with (fail)
     refine (writeByteW HQ1.out 35 35 rfl (by have := HOL.out; omega)).mono ?_
     rintro e w2 ⟨rfl, hN2⟩
     obtain ⟨S2, hq2, hk2', hs2⟩ := hN2
     have HH2 := Lib.hid (HH.out S2 w2 _ hq2 (by have := HOL.out; simp at this ⊢; omega))
     clear hq2
     go_wp2_with fail
     refine HH2.out.mono ?_
     rintro e w3 ⟨rfl, hN3⟩
     have HN3 := Lib.hid (show WrNext w S p ((out ++ [47]) ++ nameF (s.take (k + 1))) w3 by
       rw [HT.out, HCB.out]
       have h3 := WrNext.trans HK1.out HS1.out (WrNext.trans hk2' hs2 hN3)
       rw [List.append_assoc _ [35]] at h3
       rw [← List.append_assoc (out ++ [47])]
       exact h3)
     clear hN3 hk2' hs2 HH2 HCB
     go_wp2
     go_roundw
     case rel => exact ⟨k + 1, by go_num, by omega, HN3⟩
     case measure => simp [intOf]; omega
   have b2 : decide (126 < n) = false := decide_eq_false h2
   have b2' : decide ((126 : Int) < (n : Int)) = false := decide_eq_false (by omega)
   by_cases h3 : n = 35
   · have b3 : (n == 35) = true := by rw [h3]; rfl
     have b3' : ((n : Int) == 35) = true := by rw [h3]; rfl
     have HCB := Lib.hid (show chF c = 35 :: hexB c by rw [HCH.out, if_pos (.inr (.inr (.inl h3)))])
     clear HCH h1 h2
     have H3 := Lib.hid h3
     clear h3
     go_wp2_with (fail)
     refine (writeByteW HQ1.out 35 35 rfl (by have := HOL.out; omega)).mono ?_
     rintro e w2 ⟨rfl, hN2⟩
     obtain ⟨S2, hq2, hk2', hs2⟩ := hN2
     have HH2 := Lib.hid (HH.out S2 w2 _ hq2 (by have := HOL.out; simp at this ⊢; omega))
     clear hq2
     go_wp2_with fail
     refine HH2.out.mono ?_
     rintro e w3 ⟨rfl, hN3⟩
     have HN3 := Lib.hid (show WrNext w S p ((out ++ [47]) ++ nameF (s.take (k + 1))) w3 by
       rw [HT.out, HCB.out]
       have h3 := WrNext.trans HK1.out HS1.out (WrNext.trans hk2' hs2 hN3)
       rw [List.append_assoc _ [35]] at h3
       rw [← List.append_assoc (out ++ [47])]
       exact h3)
     clear hN3 hk2' hs2 HH2 HCB
     go_wp2
     go_roundw
     case rel => exact ⟨k + 1, by go_num, by omega, HN3⟩
     case measure => simp [intOf]; omega
   have b3 : (n == 35) = false := by rw [beq_eq_false_iff_ne]; exact h3
   have b3' : ((n : Int) == 35) = false := by rw [beq_eq_false_iff_ne]; omega
   cases d with
   | true =>
     have HCB := Lib.hid (show chF c = 35 :: hexB c by rw [HCH.out, if_pos (.inr (.inr (.inr rfl)))])
     clear HCH h1 h2 h3
     go_wp2_with (go_at_call 64; refine (HD.out _).mono ?_; rintro e w' ⟨rfl, rfl⟩)
     refine (writeByteW HQ1.out 35 35 rfl (by have := HOL.out; omega)).mono ?_
     rintro e w2 ⟨rfl, hN2⟩
     obtain ⟨S2, hq2, hk2', hs2⟩ := hN2
     have HH2 := Lib.hid (HH.out S2 w2 _ hq2 (by have := HOL.out; simp at this ⊢; omega))
     clear hq2
     go_wp2_with fail
     refine HH2.out.mono ?_
     rintro e w3 ⟨rfl, hN3⟩
     have HN3 := Lib.hid (show WrNext w S p ((out ++ [47]) ++ nameF (s.take (k + 1))) w3 by
       rw [HT.out, HCB.out]
       have h3 := WrNext.trans HK1.out HS1.out (WrNext.trans hk2' hs2 hN3)
       rw [List.append_assoc _ [35]] at h3
       rw [← List.append_assoc (out ++ [47])]
       exact h3)
     clear hN3 hk2' hs2 HH2 HCB
     go_wp2
     go_roundw
     case rel => exact ⟨k + 1, by go_num, by omega, HN3⟩
     case measure => simp [intOf]; omega
   | false =>
     have HCB := Lib.hid (show chF c = [c] by rw [HCH.out, if_neg (by rintro (h | h | h | h); exact h1 h; exact h2 h; exact h3 h; cases h)])
     clear HCH h1 h2 h3
     have HWB := Lib.hid (writeByteW HQ1.out c n (by rw [HNC.out]) (by have := HOL.out; omega))
     go_wp2_with (go_at_call 64; refine (HD.out _).mono ?_; rintro e w' ⟨rfl, rfl⟩)
     refine HWB.out.mono ?_
     rintro e w2 ⟨rfl, hN2⟩
     have HN3 := Lib.hid (show WrNext w S p ((out ++ [47]) ++ nameF (s.take (k + 1))) w2 by
       rw [HT.out, HCB.out, ← List.append_assoc (out ++ [47])]
       exact WrNext.trans HK1.out HS1.out hN2)
     clear hN2 HCB HWB
     go_wp2
     go_roundw
     case rel => exact ⟨k + 1, by go_num, by omega, HN3⟩
     case measure => simp [intOf]; omega
mutual
def fewV : PV → Int → Int
 | .mk _ _ _ l, n => fewL l (n - 1)
def fewL : List PV → Int → Int
 | [], n => n
 | x :: l, n => if n < 0 then n else fewL l (fewV x n)
end
mutual
def nodeV : PV → Nat
 | .mk _ _ _ l => 1 + nodeL l
def nodeL : List PV → Nat
 | [] => 0
 | x :: l => nodeV x + nodeL l
end
mutual
def txV : PV → Bool
 | .mk _ _ s l => txL l && decide (s.length ≤ 300)
def txL : List PV → Bool
 | [] => true
 | x :: l => txV x && txL l
end
theorem fewL_neg (l : List PV) {n : Int} (h : n < 0) : fewL l n = n := by cases l with
 | nil => rfl
 | cons x l => simp only [fewL]; rw [if_pos h]
mutual
theorem fewV_bd : ∀ (v : PV) (n : Int), 0 ≤ n → -1 ≤ fewV v n ∧ fewV v n ≤ n ∧ (0 ≤ fewV v n → fewV v n = n - nodeV v)
 | .mk k m s l, n, h => by
   simp only [fewV, nodeV]
   by_cases h1 : n - 1 < 0
   · rw [fewL_neg l h1]; omega
   · have := fewL_bd l (n - 1) (by omega)
     omega
theorem fewL_bd : ∀ (l : List PV) (n : Int), 0 ≤ n → -1 ≤ fewL l n ∧ fewL l n ≤ n ∧ (0 ≤ fewL l n → fewL l n = n - nodeL l)
 | [], n, h => by simp only [fewL, nodeL]; omega
 | x :: l, n, h => by
   simp only [fewL, nodeL]
   rw [if_neg (by omega)]
   have h1 := fewV_bd x n h
   by_cases h2 : fewV x n < 0
   · rw [fewL_neg l h2]; omega
   · have := fewL_bd l (fewV x n) (by omega)
     omega
end
theorem fewV_is (v : PV) (n : Int) : fewV v n = fewL v.l (n - 1) := by obtain ⟨_, _, _, _⟩ := v; rfl
theorem txV_is (v : PV) : txV v = (txL v.l && decide (v.s.length ≤ 300)) := by obtain ⟨_, _, _, _⟩ := v; rfl
theorem few_any : ∀ (N : Nat) (v : PV) (sl : Value) (w : World) (n : Int), SizeOf.sizeOf v ≤ N → 0 ≤ n → n ≤ 1000 → IsV w anyF v sl →
   Calls Tryz.prog 10 #[pvA v sl, .int .i64 n] w fun e w' => e = .returned (.int .i64 (fewV v n)) ∧ Below w.heap.size w w' := by
 intro N
 induction N with
 | zero => intro v sl w n h; obtain ⟨_, _, _, _⟩ := v; simp at h
 | succ N ih =>
 intro v sl w n hN h0 h1 hv
 obtain ⟨a1, cap1, e1, g1, g2, g3⟩ := hv.len
 subst e1
 have HA := Lib.hid hv
 have HIH := Lib.hid ih
 have HN := Lib.hid hN
 have HSA := Lib.hid (fun (k : Nat) (x : PV) (h : v.l[k]? = some x) => sizeOf_mem h)
 have m1 : (v.l.length : Int) ≤ 9223372036854775807 := by unfold maxLen at g2; omega
 obtain ⟨R, hR⟩ : ∃ R, R = fewV v n := ⟨_, rfl⟩
 rw [← hR]
 rw [fewV_is] at hR
 unfold pvA
 clear ih hN hv g2 g3
 obtain ⟨la, hla⟩ : ∃ la, la = v.l := ⟨_, rfl⟩
 have HLA := Lib.hid hla
 rw [← hla] at hR HA HSA m1 g1 ⊢
 clear hla
 have HR := Lib.hid hR
 clear hR
 generalize v.kind = k0 at *
 generalize v.n = n0 at *
 generalize mkB v.s = s0 at *
 have hw0 : IntKind.i64.wrap (n - 1) = n - 1 := IntWalk.i64_in _ (by omega)
 go_enter Tryz.func10, Tryz.ntmps10
 obtain ⟨B, hB⟩ : ∃ B, B = w.heap.size := ⟨_, rfl⟩
 have HX1 := Lib.hid (heapA_new (w := w) (b := B) (.cells #[.int .i64 k0, .int .i64 n0, .string s0, .slice a1 la.length cap1] 24) hB)
 have HW := Lib.hid (belowA w (.cells #[.int .i64 k0, .int .i64 n0, .string s0, .slice a1 la.length cap1] 24))
 go_upto_region 1 with fail
 rw [← hB]
 clear hB
 generalize w.alloc _ = W1 at *
 go_wp2
 go_loopw [1, 5] (fun vm vk wr => ∃ (k : Nat) (m : Int), vk = .int .i64 k ∧ vm = .int .i64 m ∧ -1 ≤ m ∧ m ≤ 1000 ∧ k ≤ la.length ∧ Hid (Below W1.heap.size W1 wr) ∧ Hid (R = fewL (la.drop k) m)) (fun _ vk _ => la.length - (intOf vk).toNat)
 case atStart => exact ⟨0, n - 1, rfl, rfl, by omega, by omega, Nat.zero_le _, Below.refl _ _, HR⟩
 case round =>
   obtain ⟨k, m, rfl, rfl, hm0, hm1, hk, HWR1, HV⟩ := hrel
   have HWR := Lib.hid (HW.out.trans (HWR1.out.mono HW.out.size))
   obtain ⟨⟨c0, c1, c2, c3⟩, -⟩ := cells4 (block_keep HWR1.out HX1.out)
   by_cases q1 : k < la.length
   case neg =>
     have hkl : k = la.length := by omega
     subst hkl
     have hv := HV.out
     rw [List.drop_length] at hv
     obtain rfl : R = m := hv
     have hd1 : decide (la.length < la.length) = false := by simp
     clear HV HA HIH HN HSA HR
     go_wp2
     go_ret
     exact ⟨rfl, HWR.out⟩
   have hd1 : decide (k < la.length) = true := decide_eq_true q1
   have hd2 : decide ((k : Int) < (la.length : Int)) = true := decide_eq_true (by omega)
   by_cases q2 : 0 ≤ m
   case neg =>
     have hd3 : decide (0 ≤ m) = false := decide_eq_false q2
     have hv := HV.out
     rw [fewL_neg _ (by omega)] at hv
     obtain rfl : R = m := hv
     clear HV HA HIH HN HSA HR
     go_wp2
     go_ret
     exact ⟨rfl, HWR.out⟩
   have hd3 : decide (0 ≤ m) = true := decide_eq_true q2
   obtain ⟨x, hx⟩ : ∃ x, la[k]? = some x := ⟨_, List.getElem?_eq_getElem q1⟩
   obtain ⟨-, -, -, b1, o1, rfl, -, -, hax⟩ := (HA.out.below HWR.out).at (by omega)
   rw [← HLA.out] at hax
   obtain ⟨sx, hsx, x0, x1, x2, x3⟩ := hax k x hx
   have hlt : SizeOf.sizeOf x < SizeOf.sizeOf v := HSA.out k x hx
   have hN := HN.out
   have hfb := fewV_bd x m q2
   have hv : R = fewL (la.drop (k + 1)) (fewV x m) := by
     rw [HV.out, List.drop_eq_getElem_cons q1]
     have he : la[k] = x := by rw [List.getElem?_eq_getElem q1] at hx; exact Option.some.inj hx
     rw [he]
     simp only [fewL]
     rw [if_neg (by omega)]
   have HV2 := Lib.hid hv
   obtain ⟨sa', sc', rfl, -, -, -⟩ := hsx.len
   have HCALL := Lib.hid (HIH.out x _ wr m (by omega) q2 hm1 hsx)
   simp only [pvA] at HCALL
   have hb1 : -1 ≤ fewV x m := hfb.1
   have hb2 : fewV x m ≤ 1000 := by omega
   clear hv hsx hlt hN hax hx HA HIH HV HSA HLA HN hfb HR
   generalize fewV x m = m2 at *
   have hkl : (0 : Int) ≤ (k : Int) := by omega
   have hki : (k : Int) < (la.length : Int) := by omega
   generalize x.kind = xk at *
   generalize x.n = xn at *
   generalize mkB x.s = xs at *
   generalize x.l.length = xl at *
   go_wp2_with fail
   refine HCALL.out.mono ?_
   rintro e w5 ⟨rfl, hb5⟩
   have HW5 := Lib.hid (HWR1.out.trans (hb5.mono HWR1.out.size))
   clear hb5 x0 x1 x2 x3 HCALL c0 c1 c2 c3
   go_wp2
   go_roundw
   case rel => exact ⟨k + 1, m2, by go_num, rfl, hb1, hb2, by omega, HW5, HV2⟩
   case measure => simp [intOf]; omega
theorem txL_take {l : List PV} {k : Nat} {x : PV} (hx : l[k]? = some x) : txL (l.take (k + 1)) = (txL (l.take k) && txV x) := by
 induction l generalizing k with
 | nil => cases hx
 | cons y l ih =>
   cases k with
   | zero =>
     have : y = x := by simpa using hx
     subst this
     simp [txL]
   | succ k =>
     rw [List.take_succ_cons, List.take_succ_cons]
     simp only [txL]
     rw [ih (by simpa using hx), Bool.and_assoc]
theorem txL_bad {l : List PV} {k : Nat} {x : PV} (hx : l[k]? = some x) (h : txV x = false) : txL l = false := by
 induction l generalizing k with
 | nil => cases hx
 | cons y l ih =>
   simp only [txL]
   cases k with
   | zero =>
     have : y = x := by simpa using hx
     subst this
     rw [h, Bool.false_and]
   | succ k => rw [ih (by simpa using hx), Bool.and_false]
theorem texts_any : ∀ (N : Nat) (v : PV) (sl : Value) (w : World), SizeOf.sizeOf v ≤ N → IsV w anyF v sl →
   Calls Tryz.prog 11 #[pvA v sl] w fun e w' => e = .returned (.bool (txV v)) ∧ Below w.heap.size w w' := by
 intro N
 induction N with
 | zero => intro v sl w h; obtain ⟨_, _, _, _⟩ := v; simp at h
 | succ N ih =>
 intro v sl w hN hv
 obtain ⟨a1, cap1, e1, g1, g2, g3⟩ := hv.len
 subst e1
 have HA := Lib.hid hv
 have HIH := Lib.hid ih
 have HN := Lib.hid hN
 have HSA := Lib.hid (fun (k : Nat) (x : PV) (h : v.l[k]? = some x) => sizeOf_mem h)
 have m1 : (v.l.length : Int) ≤ 9223372036854775807 := by unfold maxLen at g2; omega
 obtain ⟨R, hR⟩ : ∃ R, R = txV v := ⟨_, rfl⟩
 rw [← hR]
 rw [txV_is] at hR
 unfold pvA
 clear ih hN hv g2 g3
 obtain ⟨la, hla⟩ : ∃ la, la = v.l := ⟨_, rfl⟩
 have HLA := Lib.hid hla
 rw [← hla] at hR HA HSA m1 g1 ⊢
 clear hla
 have HR := Lib.hid hR
 clear hR
 have hsz : (mkB v.s).size = v.s.length := mkB_size _
 have hszi : ((mkB v.s).size : Int) = v.s.length := by rw [hsz]
 generalize v.kind = k0 at *
 generalize v.n = n0 at *
 generalize mkB v.s = s0 at *
 generalize v.s.length = ns at *
 go_enter Tryz.func11, Tryz.ntmps11
 obtain ⟨B, hB⟩ : ∃ B, B = w.heap.size := ⟨_, rfl⟩
 have HX1 := Lib.hid (heapA_new (w := w) (b := B) (.cells #[.int .i64 k0, .int .i64 n0, .string s0, .slice a1 la.length cap1] 24) hB)
 have HW := Lib.hid (belowA w (.cells #[.int .i64 k0, .int .i64 n0, .string s0, .slice a1 la.length cap1] 24))
 go_upto_region 1 with fail
 rw [← hB]
 clear hB
 generalize w.alloc _ = W1 at *
 go_wp2
 go_loopw [3] (fun vk wr => ∃ (k : Nat), vk = .int .i64 k ∧ k ≤ la.length ∧ Hid (Below W1.heap.size W1 wr) ∧ Hid (txL (la.take k) = true)) (fun vk _ => la.length - (intOf vk).toNat)
 case atStart => exact ⟨0, rfl, Nat.zero_le _, Below.refl _ _, Lib.hid rfl⟩
 case round =>
   obtain ⟨k, rfl, hk, HWR1, HV⟩ := hrel
   have HWR := Lib.hid (HW.out.trans (HWR1.out.mono HW.out.size))
   obtain ⟨⟨c0, c1, c2, c3⟩, -⟩ := cells4 (block_keep HWR1.out HX1.out)
   by_cases q1 : k < la.length
   case neg =>
     have hkl : k = la.length := by omega
     subst hkl
     have hv := HV.out
     rw [List.take_length] at hv
     have hr := HR.out
     rw [hv, Bool.true_and] at hr
     have hd1 : decide (la.length < la.length) = false := by simp
     clear HV HA HIH HN HSA HR hv
     by_cases h3 : ns ≤ 300
     · have b1 : decide (ns ≤ 300) = true := decide_eq_true h3
       have b2 : decide ((ns : Int) ≤ 300) = true := decide_eq_true (by omega)
       rw [b1] at hr
       subst hr
       go_wp2
       go_ret
       exact ⟨rfl, HWR.out⟩
     · have b1 : decide (ns ≤ 300) = false := decide_eq_false h3
       have b2 : decide ((ns : Int) ≤ 300) = false := decide_eq_false (by omega)
       rw [b1] at hr
       subst hr
       go_wp2
       go_ret
       exact ⟨rfl, HWR.out⟩
   have hd1 : decide (k < la.length) = true := decide_eq_true q1
   have hd2 : decide ((k : Int) < (la.length : Int)) = true := decide_eq_true (by omega)
   obtain ⟨x, hx⟩ : ∃ x, la[k]? = some x := ⟨_, List.getElem?_eq_getElem q1⟩
   obtain ⟨-, -, -, b1, o1, rfl, -, -, hax⟩ := (HA.out.below HWR.out).at (by omega)
   rw [← HLA.out] at hax
   obtain ⟨sx, hsx, x0, x1, x2, x3⟩ := hax k x hx
   have hlt : SizeOf.sizeOf x < SizeOf.sizeOf v := HSA.out k x hx
   have hN := HN.out
   obtain ⟨sa', sc', rfl, -, -, -⟩ := hsx.len
   have HCALL := Lib.hid (HIH.out x _ wr (by omega) hsx)
   simp only [pvA] at HCALL
   have HT := Lib.hid (txL_take hx)
   have HTB := Lib.hid (fun (h : txV x = false) => txL_bad hx h)
   clear hsx hlt hN hax hx HA HIH HSA HLA HN
   generalize txV x = tx at *
   have hkl : (0 : Int) ≤ (k : Int) := by omega
   have hki : (k : Int) < (la.length : Int) := by omega
   generalize x.kind = xk at *
   generalize x.n = xn at *
   generalize mkB x.s = xs at *
   generalize x.l.length = xl at *
   go_wp2_with fail
   refine HCALL.out.mono ?_
   rintro e w5 ⟨rfl, hb5⟩
   have HW5 := Lib.hid (HWR1.out.trans (hb5.mono HWR1.out.size))
   clear hb5 x0 x1 x2 x3 HCALL c0 c1 c2 c3
   cases tx with
   | false =>
     have hr := HR.out
     rw [HTB.out rfl, Bool.false_and] at hr
     subst hr
     clear HR HT HTB HV
     go_wp2
     go_ret
     exact ⟨rfl, HW.out.trans (HW5.out.mono HW.out.size)⟩
   | true =>
     have HV2 := Lib.hid (show txL (la.take (k + 1)) = true by rw [HT.out, HV.out]; rfl)
     clear HT HTB HV HR
     go_wp2
     go_roundw
     case rel => exact ⟨k + 1, by go_num, by omega, HW5, HV2⟩
     case measure => simp [intOf]; omega
end Go.Proofs.YtnkodejgiabamaaGreatDoor
