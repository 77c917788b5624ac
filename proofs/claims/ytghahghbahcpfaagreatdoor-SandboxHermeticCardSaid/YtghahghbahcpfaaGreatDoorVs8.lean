/- What stays of an execution behind a write to its log. -/
import Derived.Test.YtghahghbahcpfaaGreatDoorVs3
import Derived.Test.YtghahghbahcpfaaGreatDoorVs2
import Derived.Test.YtghahghbahcpfaaGreatDoorSg8
namespace Go.Proofs.YtghahghbahcpfaaGreatDoor
open Go.RowKit

theorem own_keep {α : Type} {E : ElemK α} {e : TypeId} {base : Nat} {w w1 : World} {L : List α} {v : Value} (h : E.Own e base noB w L v) (hs : w.heap.size ≤ w1.heap.size) (hb : ∀ b, v.ownBlock = some b → w1.heap[b]? = w.heap[b]?) : E.Own e base noB w1 L v := by
  obtain ⟨css, h1, h2, h3⟩ := h
  refine ⟨css, h1, fun k a b => E.keep (h2 k a b) hs (fun b hb _ => hb.1.elim), h3.1, ?_⟩
  rcases h3.2 with h4 | ⟨g, cap, cur, rfl, h5, h6, h7⟩
  · exact .inl h4
  · exact .inr ⟨g, cap, cur, rfl, h5, (hb g rfl).trans h6, h7⟩
section
variable {xb : Nat} {c : Nat → Value} {x : StM} {cs : Array Value} {p l r o t s : Value} {w w1 : World}
theorem XAt.bldc (h : XAt xb c x cs p l r o t s w) : cs[50]? = some (.pointer none) ∨ cs[50]? = some (bP xb) :=
  h.bld.elim (fun e => .inl (by rw [h.c50, e])) (fun e => .inr (by rw [h.c50, e]))
theorem grew_block (h : XAt xb c x cs p l r o t s w) (hg : Grew xb l w w1) {T : TypeId} (h5 : (5 : TypeId) ≠ T) (hX : tX ≠ T) (k : Nat) (cur : Array Value) (fr : Nat × Nat) (e : w.heap[k]? = some (.cells cur T fr)) : w1.heap[k]? = w.heap[k]? := by
  refine hg.block k (Array.getElem?_eq_some_iff.1 e).1 (fun ek => ?_) fun ek => ?_
  · rw [ek, h.blk] at e
    injection e with e
    injection e with _ e _
    exact hX e
  · obtain ⟨cur2, fr2, q⟩ := h.tyL k ek
    rw [q] at e
    injection e with e
    injection e with _ e _
    exact h5 e
theorem grew_row (h : XAt xb c x cs p l r o t s w) (hg : Grew xb l w w1) {T : TypeId} (h5 : (5 : TypeId) ≠ T) (hX : tX ≠ T) {u : Value} (hu : TyAt w u T) (b : Nat) (e : u.ownBlock = some b) : w1.heap[b]? = w.heap[b]? := by
  obtain ⟨cur, fr, q⟩ := hu b e
  exact grew_block h hg h5 hX b cur fr q
theorem XAt.logged (h : XAt xb c x cs p l r o t s w) (v' : Value) (add : List UInt8) (hk : w1.heap[xb]? = some (.cells ((cs.setIfInBounds 50 (bP xb)).setIfInBounds 51 v') tX (0, 0))) (hl : LogOwn xb (x.log ++ add) v' w1) (hg : Grew xb l w w1) :
    XAt xb c { x with log := x.log ++ add } ((cs.setIfInBounds 50 (bP xb)).setIfInBounds 51 v') (bP xb) v' r o t s w1 ∧ BS xb w w1 := by
  have hs := h.size
  have g : ∀ j, j ≠ 50 → j ≠ 51 → ((cs.setIfInBounds 50 (bP xb)).setIfInBounds 51 v')[j]? = cs[j]? := fun j hj hj2 => by
    rw [Array.getElem?_setIfInBounds_ne (fun e => hj2 e.symm), Array.getElem?_setIfInBounds_ne (fun e => hj e.symm)]
  have g50 : ((cs.setIfInBounds 50 (bP xb)).setIfInBounds 51 v')[50]? = some (bP xb) := by
    rw [Array.getElem?_setIfInBounds_ne (by decide), Array.getElem?_setIfInBounds, if_pos rfl, if_pos (by omega)]
  have g51 : ((cs.setIfInBounds 50 (bP xb)).setIfInBounds 51 v')[51]? = some v' := by
    rw [Array.getElem?_setIfInBounds, if_pos rfl, if_pos (by rw [Array.size_setIfInBounds]; omega)]
  refine ⟨⟨hk, by rw [Array.size_setIfInBounds, Array.size_setIfInBounds]; exact hs, fun k hk => by rw [g k (by omega) (by omega)]; exact h.jv k hk, by rw [g 48 (by decide) (by decide)]; exact h.c48, h.acc, by rw [g 49 (by decide) (by decide)]; exact h.c49, h.time, g50, .inr rfl, g51, hl, by rw [g 52 (by decide) (by decide)]; exact h.c52, ?_, by rw [g 53 (by decide) (by decide)]; exact h.c53, ?_, by rw [g 54 (by decide) (by decide)]; exact h.c54, ?_, by rw [g 55 (by decide) (by decide)]; exact h.c55, ?_, by rw [g 56 (by decide) (by decide)]; exact h.c56⟩, ⟨⟨hg.os, hg.tape, hg.output, hg.size, fun k hk => ?_⟩, fun k cur fr e => grew_block h hg (by decide) (by decide) k cur fr e⟩⟩
  · exact h.reads.keep hg.size (grew_row h hg (by decide) (by decide) h.reads.ty)
  · exact h.outs.keep hg.size (grew_row h hg (by decide) (by decide) h.outs.ty)
  · exact own_keep h.tests hg.size (grew_row h hg (by decide) (by decide) h.tyT)
  · exact own_keep h.saves hg.size (grew_row h hg (by decide) (by decide) h.tyS)
  · have hx := h.lt
    refine hg.block k (by omega) (by omega) fun e => ?_
    have := (h.log.lt k e).1
    omega
theorem kept1_row (h : XAt xb c x cs p l r o t s w) (hk : Kept1 l w w1) {T : TypeId} (h5 : (5 : TypeId) ≠ T) {u : Value} (hu : TyAt w u T) (b : Nat) (e : u.ownBlock = some b) : w1.heap[b]? = w.heap[b]? := by
  obtain ⟨cur, fr, q⟩ := hu b e
  refine hk.block b (Array.getElem?_eq_some_iff.1 q).1 fun el => ?_
  rcases tyAt_ne h.tyL hu h5 with h1 | h1
  · rw [h1] at el; cases el
  · exact h1 (el.trans e.symm)
theorem XAt.kept1 (h : XAt xb c x cs p l r o t s w) (hk : Kept1 l w w1) : w1.heap[xb]? = some (.cells cs tX (0, 0)) ∧ ETst.Own 135 (xb + 1) noB w1 x.tests t ∧ EEnt.Own 76 (xb + 1) noB w1 x.saves s :=
  ⟨(hk.block xb h.lt (fun e => by have := (h.log.lt _ e).1; omega)).trans h.blk, own_keep h.tests hk.size (kept1_row h hk (by decide) h.tyT), own_keep h.saves hk.size (kept1_row h hk (by decide) h.tyS)⟩
end
theorem bs_add (a b : ByteArray) : (a ++ b).data.toList = bs a ++ bs b := by simp [bs]
end Go.Proofs.YtghahghbahcpfaaGreatDoor
/- The walk over the execution's perform, but for emit. -/
namespace Go.Proofs.YtghahghbahcpfaaGreatDoor
open Go.RowKit

def PfPost (xb : Nat) (c : Nat → Value) (x : StM) (v : ViewM) (s : StepM) (w : World) (e : Ending) (w' : World) : Prop := e = .returned (.int .i64 (performF v x s).2) ∧ XSt xb c (performF v x s).1 w' ∧ Below xb w w'
set_option maxRecDepth 100000 in
set_option maxHeartbeats 6400000 in
theorem perform_rest (xb : Nat) (c : Nat → Value) (x : StM) (v : ViewM) (op : Int) (nm tx : ByteArray) (n : Int) (h5 : ((op : Int) == 5) = false) (h6 : ((op : Int) == 6) = false) (h7 : ((op : Int) == 7) = false) (h8 : ((op : Int) == 8) = false) (h9 : ((op : Int) == 9) = false) (h11 : ((op : Int) == 11) = false) (hok : OkS v ⟨op, nm, tx, n⟩) (hrl : x.reads.length ≤ 900) (hsv : x.saves.length ≤ 10000) (hB : VB v) (w : World) (hst : XSt xb c x w) (hv : VAt xb c v w) :
    Calls Tryz.prog 62 #[.pointer (some ⟨xb, 0, none⟩), stepV ⟨op, nm, tx, n⟩] w (PfPost xb c x v ⟨op, nm, tx, n⟩ w) := by
  have HPF : Hid (performF v x ⟨op, nm, tx, n⟩ = (takeF v x ⟨op, nm, tx, n⟩, 0)) := by
    unfold Hid performF
    dsimp only
    rw [if_neg (by simpa using h5), if_neg (by simpa using h6), if_neg (by simpa using h7), if_neg (by simpa using h8), if_neg (by simpa using h9), if_neg (by simpa using h11)]
  have hlt := hst.lt
  obtain ⟨w1, hw1⟩ : ∃ w1, w.alloc (.cells #[.int .i64 op, .string nm, .string tx, .int .i64 n] tStep (0, 0)) = w1 := ⟨_, rfl⟩
  have hk1 : w1.heap[w.heap.size]? = some (.cells #[.int .i64 op, .string nm, .string tx, .int .i64 n] tStep (0, 0)) := by rw [← hw1]; exact hp_new rfl
  have hb1 : Below w.heap.size w w1 := by rw [← hw1]; exact (Below.refl _ w).alloc (Nat.le_refl _) _
  have TK := Lib.hid (xtake_any xb c x v ⟨op, nm, tx, n⟩ hok hrl hsv hB w1 (hst.grow hb1) (hv.below (hb1.mono (Nat.le_of_lt hlt))))
  have s0 : w1.cell? ⟨w.heap.size, 0, none⟩ = some (.int .i64 op) := cell_of_blk hk1 0
  have s1 : w1.cell? ⟨w.heap.size, 1, none⟩ = some (.string nm) := cell_of_blk hk1 1
  have s2 : w1.cell? ⟨w.heap.size, 2, none⟩ = some (.string tx) := cell_of_blk hk1 2
  have s3 : w1.cell? ⟨w.heap.size, 3, none⟩ = some (.int .i64 n) := cell_of_blk hk1 3
  have HK1 := Lib.hid hk1
  have HB1 : Hid (BS xb w w1) := BS.of_below hb1 (Nat.le_of_lt hlt)
  have HW1 := Lib.hid hw1
  have HVW : Hid (∀ W, Below xb w W → VAt xb c v W) := fun W hb => hv.below hb
  have HLT : Hid (xb < w.heap.size) := hlt
  clear hst hv hk1 hb1 hw1 hok
  go_enter Tryz.func62, Tryz.ntmps62
  go_upto_region 1 with fail
  rw [HW1.out]
  clear HW1
  go_wp2_with fail
  refine TK.out.mono ?_
  rintro e w2 ⟨rfl, hx2, hb2⟩
  have HK2 : Hid (w2.heap[w.heap.size]? = some (.cells #[.int .i64 op, .string nm, .string tx, .int .i64 n] tStep (0, 0))) := (hb2.st _ _ _ HK1.out).trans HK1.out
  have HX2 := Lib.hid hx2
  have HB2 := Lib.hid (HB1.out.trans hb2)
  have z2 : w.heap.size < w2.heap.size := (Array.getElem?_eq_some_iff.1 HK2.out).1
  clear hx2 hb2 TK s0 s1 s2 s3
  have s0 : w2.cell? ⟨w.heap.size, 0, none⟩ = some (.int .i64 op) := cell_of_blk HK2.out 0
  clear hB hrl hsv
  go_wp2_with fail
  go_ret
  unfold PfPost
  rw [HPF.out]
  exact ⟨rfl, HX2.out, HB2.out.bel⟩
set_option maxRecDepth 100000 in
set_option maxHeartbeats 6400000 in
theorem perform_child (xb : Nat) (c : Nat → Value) (x : StM) (v : ViewM) (nm tx : ByteArray) (n : Int)  (hok : OkS v ⟨11, nm, tx, n⟩) (hrl : x.reads.length ≤ 900) (hsv : x.saves.length ≤ 10000) (hB : VB v) (w : World) (hst : XSt xb c x w) (hv : VAt xb c v w) :
    Calls Tryz.prog 62 #[.pointer (some ⟨xb, 0, none⟩), stepV ⟨11, nm, tx, n⟩] w (PfPost xb c x v ⟨11, nm, tx, n⟩ w) := by
  have HT0 : Hid (takeF v x ⟨11, nm, tx, n⟩ = x) := by
    unfold Hid takeF
    dsimp only
    rw [if_neg (by decide), if_neg (by decide), if_neg (by decide), if_neg (by decide)]
  have HPF : Hid (performF v x ⟨11, nm, tx, n⟩ = ({ x with child := tx }, 0)) := by
    unfold Hid performF
    dsimp only
    rw [if_neg (by decide), if_neg (by decide), if_neg (by decide), if_neg (by decide), if_neg (by decide), if_pos rfl]
    rw [HT0.out]
  have hlt := hst.lt
  obtain ⟨w1, hw1⟩ : ∃ w1, w.alloc (.cells #[.int .i64 11, .string nm, .string tx, .int .i64 n] tStep (0, 0)) = w1 := ⟨_, rfl⟩
  have hk1 : w1.heap[w.heap.size]? = some (.cells #[.int .i64 11, .string nm, .string tx, .int .i64 n] tStep (0, 0)) := by rw [← hw1]; exact hp_new rfl
  have hb1 : Below w.heap.size w w1 := by rw [← hw1]; exact (Below.refl _ w).alloc (Nat.le_refl _) _
  have TK := Lib.hid (xtake_any xb c x v ⟨11, nm, tx, n⟩ hok hrl hsv hB w1 (hst.grow hb1) (hv.below (hb1.mono (Nat.le_of_lt hlt))))
  have s0 : w1.cell? ⟨w.heap.size, 0, none⟩ = some (.int .i64 11) := cell_of_blk hk1 0
  have s1 : w1.cell? ⟨w.heap.size, 1, none⟩ = some (.string nm) := cell_of_blk hk1 1
  have s2 : w1.cell? ⟨w.heap.size, 2, none⟩ = some (.string tx) := cell_of_blk hk1 2
  have s3 : w1.cell? ⟨w.heap.size, 3, none⟩ = some (.int .i64 n) := cell_of_blk hk1 3
  have HK1 := Lib.hid hk1
  have HB1 : Hid (BS xb w w1) := BS.of_below hb1 (Nat.le_of_lt hlt)
  have HW1 := Lib.hid hw1
  have HVW : Hid (∀ W, Below xb w W → VAt xb c v W) := fun W hb => hv.below hb
  have HLT : Hid (xb < w.heap.size) := hlt
  clear hst hv hk1 hb1 hw1 hok
  go_enter Tryz.func62, Tryz.ntmps62
  go_upto_region 1 with fail
  rw [HW1.out]
  clear HW1
  go_wp2_with fail
  refine TK.out.mono ?_
  rintro e w2 ⟨rfl, hx2, hb2⟩
  have HK2 : Hid (w2.heap[w.heap.size]? = some (.cells #[.int .i64 11, .string nm, .string tx, .int .i64 n] tStep (0, 0))) := (hb2.st _ _ _ HK1.out).trans HK1.out
  have HX2 := Lib.hid hx2
  have HB2 := Lib.hid (HB1.out.trans hb2)
  have z2 : w.heap.size < w2.heap.size := (Array.getElem?_eq_some_iff.1 HK2.out).1
  clear hx2 hb2 TK s0 s1 s2 s3
  have s0 : w2.cell? ⟨w.heap.size, 0, none⟩ = some (.int .i64 11) := cell_of_blk HK2.out 0
  rw [HT0.out] at HX2
  obtain ⟨cs, p, l, r, o, t, sv, hx2⟩ := HX2.out
  have HXA := Lib.hid hx2
  clear hx2 hB hrl hsv
  have s2 : w2.cell? ⟨w.heap.size, 2, none⟩ = some (.string tx) := cell_of_blk HK2.out 2
  have c56 : w2.cell? ⟨xb, 56, none⟩ = some (.string x.child) := (cell_of_blk HXA.out.blk 56).trans HXA.out.c56
  have f56 := free_of_blk HXA.out.blk 56
  have HP := Lib.hid (HXA.out.put 56 (.string tx) { x with child := tx } (Or.inr (Or.inr rfl)) rfl HXA.out.acc rfl HXA.out.time rfl ⟨rfl, rfl, rfl, rfl, rfl⟩)
  go_wp2_with fail
  go_ret
  unfold PfPost
  rw [HPF.out]
  exact ⟨rfl, ⟨_, _, _, _, _, _, _, HP.out.1⟩, HB2.out.bel.trans HP.out.2⟩
set_option maxRecDepth 100000 in
set_option maxHeartbeats 6400000 in
theorem perform_fail (xb : Nat) (c : Nat → Value) (x : StM) (v : ViewM) (nm tx : ByteArray) (n : Int)  (hok : OkS v ⟨9, nm, tx, n⟩) (hrl : x.reads.length ≤ 900) (hsv : x.saves.length ≤ 10000) (hB : VB v) (w : World) (hst : XSt xb c x w) (hv : VAt xb c v w) :
    Calls Tryz.prog 62 #[.pointer (some ⟨xb, 0, none⟩), stepV ⟨9, nm, tx, n⟩] w (PfPost xb c x v ⟨9, nm, tx, n⟩ w) := by
  have HT0 : Hid (takeF v x ⟨9, nm, tx, n⟩ = x) := by
    unfold Hid takeF
    dsimp only
    rw [if_neg (by decide), if_neg (by decide), if_neg (by decide), if_neg (by decide)]
  have HPF : Hid (performF v x ⟨9, nm, tx, n⟩ = (x, classF (decide (n ≠ 0) && decide (n ≤ v.attempt)) 1)) := by
    unfold Hid performF
    dsimp only
    rw [if_neg (by decide), if_neg (by decide), if_neg (by decide), if_neg (by decide), if_pos rfl]
    rw [HT0.out]
  have hlt := hst.lt
  obtain ⟨w1, hw1⟩ : ∃ w1, w.alloc (.cells #[.int .i64 9, .string nm, .string tx, .int .i64 n] tStep (0, 0)) = w1 := ⟨_, rfl⟩
  have hk1 : w1.heap[w.heap.size]? = some (.cells #[.int .i64 9, .string nm, .string tx, .int .i64 n] tStep (0, 0)) := by rw [← hw1]; exact hp_new rfl
  have hb1 : Below w.heap.size w w1 := by rw [← hw1]; exact (Below.refl _ w).alloc (Nat.le_refl _) _
  have TK := Lib.hid (xtake_any xb c x v ⟨9, nm, tx, n⟩ hok hrl hsv hB w1 (hst.grow hb1) (hv.below (hb1.mono (Nat.le_of_lt hlt))))
  have s0 : w1.cell? ⟨w.heap.size, 0, none⟩ = some (.int .i64 9) := cell_of_blk hk1 0
  have s1 : w1.cell? ⟨w.heap.size, 1, none⟩ = some (.string nm) := cell_of_blk hk1 1
  have s2 : w1.cell? ⟨w.heap.size, 2, none⟩ = some (.string tx) := cell_of_blk hk1 2
  have s3 : w1.cell? ⟨w.heap.size, 3, none⟩ = some (.int .i64 n) := cell_of_blk hk1 3
  have HK1 := Lib.hid hk1
  have HB1 : Hid (BS xb w w1) := BS.of_below hb1 (Nat.le_of_lt hlt)
  have HW1 := Lib.hid hw1
  have HVW : Hid (∀ W, Below xb w W → VAt xb c v W) := fun W hb => hv.below hb
  have HLT : Hid (xb < w.heap.size) := hlt
  clear hst hv hk1 hb1 hw1 hok
  go_enter Tryz.func62, Tryz.ntmps62
  go_upto_region 1 with fail
  rw [HW1.out]
  clear HW1
  go_wp2_with fail
  refine TK.out.mono ?_
  rintro e w2 ⟨rfl, hx2, hb2⟩
  have HK2 : Hid (w2.heap[w.heap.size]? = some (.cells #[.int .i64 9, .string nm, .string tx, .int .i64 n] tStep (0, 0))) := (hb2.st _ _ _ HK1.out).trans HK1.out
  have HX2 := Lib.hid hx2
  have HB2 := Lib.hid (HB1.out.trans hb2)
  have z2 : w.heap.size < w2.heap.size := (Array.getElem?_eq_some_iff.1 HK2.out).1
  clear hx2 hb2 TK s0 s1 s2 s3
  have s0 : w2.cell? ⟨w.heap.size, 0, none⟩ = some (.int .i64 9) := cell_of_blk HK2.out 0
  rw [HT0.out] at HX2
  have c47 : w2.cell? ⟨xb, 47, none⟩ = some (.int .i64 v.attempt) := by rw [← (HVW.out w2 HB2.out.bel).att]; exact HX2.out.cell (by decide)
  clear hB hrl hsv
  have hS : Hid (∀ W, Below w2.heap.size w2 W → W.cell? ⟨w.heap.size, 3, none⟩ = some (.int .i64 n) ∧ W.cell? ⟨xb, 47, none⟩ = some (.int .i64 v.attempt)) := fun W' hb => ⟨cell_of_blk ((hb.block _ z2).trans HK2.out) 3, (hb.cell (p := ⟨xb, 47, none⟩) HX2.out.lt).trans c47⟩
  have HDR : Hid (Below w2.heap.size w2 w2.drew) := (Below.refl _ _).drew
  have hx2l := HX2.out.lt
  clear c47 HT0
  by_cases h0 : n = 0
  · subst h0
    have HR : Hid (classF (decide ((0 : Int) ≠ 0) && decide (0 ≤ v.attempt)) 1 = classF false 1) := rfl
    go_upto_region 14 with fail
    refine wp_region_Z (S := fun W' : World => W'.cell? ⟨w.heap.size, 3, none⟩ = some (.int .i64 0) ∧ W'.cell? ⟨xb, 47, none⟩ = some (.int .i64 v.attempt)) 14 (by kernel_rfl) (hS.out _ HDR.out) (fun hHeld => ?_)
    refine ztk 0 ?_
    try simp only [Act.put, zA, zB, zC]
    refine ztk 1 ?_
    try simp only [Act.put, zA, zB, zC]
    refine ztk 2 ?_
    try simp only [Act.put, zA, zB, zC]
    refine ztk 3 ?_
    try simp only [Act.put, zA, zB, zC]
    refine wpAnyZ_takeD (i := 4) (v := undef) rfl (by kernel_rfl) (by kernel_rfl) (by kernel_rfl) (by kernel_rfl) (fun _ _ _ h => h) (Or.inr ⟨by rfl, rfl⟩) (by assumption) ?_
    try simp only [Act.put, zA, zB, zC]
    refine wpAnyZ_takeD (i := 5) (v := undef) rfl (by kernel_rfl) (by kernel_rfl) (by kernel_rfl) (by kernel_rfl) (fun _ _ _ h => h) (Or.inr ⟨by rfl, rfl⟩) (by assumption) ?_
    try simp only [Act.put, zA, zB, zC]
    refine wpAnyZ_takeD (i := 6) (v := undef) rfl (by kernel_rfl) (by kernel_rfl) (by kernel_rfl) (by kernel_rfl) (fun _ _ _ h => h) (Or.inr ⟨by rfl, rfl⟩) (by assumption) ?_
    try simp only [Act.put, zA, zB, zC]
    refine wpAnyZ_takeD (i := 7) (v := undef) rfl (by kernel_rfl) (by kernel_rfl) (by kernel_rfl) (by kernel_rfl) (fun _ _ _ h => h) (Or.inr ⟨by rfl, rfl⟩) (by assumption) ?_
    try simp only [Act.put, zA, zB, zC]
    refine wpAnyZ_takeD (i := 8) (v := undef) rfl (by kernel_rfl) (by kernel_rfl) (by kernel_rfl) (by kernel_rfl) (fun _ _ _ h => h) (Or.inr ⟨by rfl, rfl⟩) (by assumption) ?_
    try simp only [Act.put, zA, zB, zC]
    refine wpAnyZ_takeD (i := 9) (v := undef) rfl (by kernel_rfl) (by kernel_rfl) (by kernel_rfl) (by kernel_rfl) (fun _ _ _ h => h) (Or.inr ⟨by rfl, rfl⟩) (by assumption) ?_
    try simp only [Act.put, zA, zB, zC]
    refine wpAnyZ_takeD (i := 10) (v := undef) rfl (by kernel_rfl) (by kernel_rfl) (by kernel_rfl) (by kernel_rfl) (fun _ _ _ h => h) (Or.inr ⟨by rfl, rfl⟩) (by assumption) ?_
    try simp only [Act.put, zA, zB, zC]
    refine wpAnyZ_takeD (i := 11) (v := undef) rfl (by kernel_rfl) (by kernel_rfl) (by kernel_rfl) (by kernel_rfl) (fun _ _ _ h => h) (Or.inr ⟨by rfl, rfl⟩) (by assumption) ?_
    try simp only [Act.put, zA, zB, zC]
    refine ztk 12 ?_
    try simp only [Act.put, zA, zB, zC]
    refine wpAnyZ_oneL (i := 13) (by kernel_rfl) rfl (fun K hK => ?_)
    go_simp
    go_at_call 82
    refine (class_any false 1 _).mono ?_
    rintro e w5 ⟨rfl, hw5⟩
    rw [hw5]
    clear hw5 w5
    refine hK.out _ _ (fun _ => hS.out _ HDR.out) (fun hHeld => ?_)
    replace hHeld := hHeld (by decide)
    clear hK K
    try simp only [Act.put, zA, zB, zC]
    refine wpAnyZ_oneL (i := 14) (by kernel_rfl) rfl (fun K hK => ?_)
    go_simp
    refine hK.out _ _ (fun h => absurd h (by decide)) (fun _ => ?_)
    clear hK K
    try simp only [Act.put, zA, zB, zC]
    refine wpAnyZ_done (by kernel_rfl) ?_ _
    clear hHeld
    go_wp2_with fail
    go_ret
    unfold PfPost
    rw [HPF.out, HR.out]
    exact ⟨rfl, HX2.out.grow HDR.out, HB2.out.bel.trans (HDR.out.mono (Nat.le_of_lt hx2l))⟩
  · have e0 : ((n : Int) != 0) = true := by simp [h0]
    have e0b : decide (n = 0) = false := decide_eq_false h0
    by_cases hd : n ≤ v.attempt
    · have HR : Hid (classF (decide (n ≠ 0) && decide (n ≤ v.attempt)) 1 = classF true 1) := by unfold Hid; rw [decide_eq_true h0, decide_eq_true hd]; rfl
      have d0 : decide (n ≤ v.attempt) = true := decide_eq_true hd
      clear h0
      go_upto_region 14 with fail
      refine wp_region_Z (S := fun W' : World => W'.cell? ⟨w.heap.size, 3, none⟩ = some (.int .i64 n) ∧ W'.cell? ⟨xb, 47, none⟩ = some (.int .i64 v.attempt)) 14 (by kernel_rfl) (hS.out _ HDR.out) (fun hHeld => ?_)
      refine ztk 0 ?_
      try simp only [Act.put, zA, zB, zC]
      refine ztk 1 ?_
      try simp only [Act.put, zA, zB, zC]
      refine ztk 2 ?_
      try simp only [Act.put, zA, zB, zC]
      refine ztk 3 ?_
      try simp only [Act.put, zA, zB, zC]
      refine ztk 4 ?_
      try simp only [Act.put, zA, zB, zC]
      refine ztk 5 ?_
      try simp only [Act.put, zA, zB, zC]
      refine ztk 6 ?_
      try simp only [Act.put, zA, zB, zC]
      refine ztk 7 ?_
      try simp only [Act.put, zA, zB, zC]
      refine ztk 8 ?_
      try simp only [Act.put, zA, zB, zC]
      refine ztk 9 ?_
      try simp only [Act.put, zA, zB, zC]
      refine ztk 10 ?_
      try simp only [Act.put, zA, zB, zC]
      refine ztk 11 ?_
      try simp only [Act.put, zA, zB, zC]
      refine ztk 12 ?_
      try simp only [Act.put, zA, zB, zC]
      refine wpAnyZ_oneL (i := 13) (by kernel_rfl) rfl (fun K hK => ?_)
      go_simp
      go_at_call 82
      refine (class_any true 1 _).mono ?_
      rintro e w5 ⟨rfl, hw5⟩
      rw [hw5]
      clear hw5 w5
      refine hK.out _ _ (fun _ => hS.out _ HDR.out) (fun hHeld => ?_)
      replace hHeld := hHeld (by decide)
      clear hK K
      try simp only [Act.put, zA, zB, zC]
      refine wpAnyZ_oneL (i := 14) (by kernel_rfl) rfl (fun K hK => ?_)
      go_simp
      refine hK.out _ _ (fun h => absurd h (by decide)) (fun _ => ?_)
      clear hK K
      try simp only [Act.put, zA, zB, zC]
      refine wpAnyZ_done (by kernel_rfl) ?_ _
      clear hHeld
      go_wp2_with fail
      go_ret
      unfold PfPost
      rw [HPF.out, HR.out]
      exact ⟨rfl, HX2.out.grow HDR.out, HB2.out.bel.trans (HDR.out.mono (Nat.le_of_lt hx2l))⟩
    · have HR : Hid (classF (decide (n ≠ 0) && decide (n ≤ v.attempt)) 1 = classF false 1) := by unfold Hid; rw [decide_eq_true h0, decide_eq_false hd]; rfl
      have d0 : decide (n ≤ v.attempt) = false := decide_eq_false hd
      clear h0 hd
      go_upto_region 14 with fail
      refine wp_region_Z (S := fun W' : World => W'.cell? ⟨w.heap.size, 3, none⟩ = some (.int .i64 n) ∧ W'.cell? ⟨xb, 47, none⟩ = some (.int .i64 v.attempt)) 14 (by kernel_rfl) (hS.out _ HDR.out) (fun hHeld => ?_)
      refine ztk 0 ?_
      try simp only [Act.put, zA, zB, zC]
      refine ztk 1 ?_
      try simp only [Act.put, zA, zB, zC]
      refine ztk 2 ?_
      try simp only [Act.put, zA, zB, zC]
      refine ztk 3 ?_
      try simp only [Act.put, zA, zB, zC]
      refine ztk 4 ?_
      try simp only [Act.put, zA, zB, zC]
      refine ztk 5 ?_
      try simp only [Act.put, zA, zB, zC]
      refine ztk 6 ?_
      try simp only [Act.put, zA, zB, zC]
      refine ztk 7 ?_
      try simp only [Act.put, zA, zB, zC]
      refine ztk 8 ?_
      try simp only [Act.put, zA, zB, zC]
      refine ztk 9 ?_
      try simp only [Act.put, zA, zB, zC]
      refine ztk 10 ?_
      try simp only [Act.put, zA, zB, zC]
      refine ztk 11 ?_
      try simp only [Act.put, zA, zB, zC]
      refine ztk 12 ?_
      try simp only [Act.put, zA, zB, zC]
      refine wpAnyZ_oneL (i := 13) (by kernel_rfl) rfl (fun K hK => ?_)
      go_simp
      go_at_call 82
      refine (class_any false 1 _).mono ?_
      rintro e w5 ⟨rfl, hw5⟩
      rw [hw5]
      clear hw5 w5
      refine hK.out _ _ (fun _ => hS.out _ HDR.out) (fun hHeld => ?_)
      replace hHeld := hHeld (by decide)
      clear hK K
      try simp only [Act.put, zA, zB, zC]
      refine wpAnyZ_oneL (i := 14) (by kernel_rfl) rfl (fun K hK => ?_)
      go_simp
      refine hK.out _ _ (fun h => absurd h (by decide)) (fun _ => ?_)
      clear hK K
      try simp only [Act.put, zA, zB, zC]
      refine wpAnyZ_done (by kernel_rfl) ?_ _
      clear hHeld
      go_wp2_with fail
      go_ret
      unfold PfPost
      rw [HPF.out, HR.out]
      exact ⟨rfl, HX2.out.grow HDR.out, HB2.out.bel.trans (HDR.out.mono (Nat.le_of_lt hx2l))⟩
set_option maxRecDepth 100000 in
set_option maxHeartbeats 6400000 in
theorem perform_log (xb : Nat) (c : Nat → Value) (x : StM) (v : ViewM) (nm tx : ByteArray) (n : Int) (htx : tx.size ≤ 100000) (hlg : x.log.length ≤ 100000000) (hok : OkS v ⟨6, nm, tx, n⟩) (hrl : x.reads.length ≤ 900) (hsv : x.saves.length ≤ 10000) (hB : VB v) (w : World) (hst : XSt xb c x w) (hv : VAt xb c v w) :
    Calls Tryz.prog 62 #[.pointer (some ⟨xb, 0, none⟩), stepV ⟨6, nm, tx, n⟩] w (PfPost xb c x v ⟨6, nm, tx, n⟩ w) := by
  have HT0 : Hid (takeF v x ⟨6, nm, tx, n⟩ = x) := by
    unfold Hid takeF
    dsimp only
    rw [if_neg (by decide), if_neg (by decide), if_neg (by decide), if_neg (by decide)]
  have HPF : Hid (performF v x ⟨6, nm, tx, n⟩ = ({ x with log := x.log ++ (bs tx ++ [10]) }, 0)) := by
    unfold Hid performF
    dsimp only
    rw [if_neg (by decide), if_pos rfl]
    rw [HT0.out]
  have hlt := hst.lt
  obtain ⟨w1, hw1⟩ : ∃ w1, w.alloc (.cells #[.int .i64 6, .string nm, .string tx, .int .i64 n] tStep (0, 0)) = w1 := ⟨_, rfl⟩
  have hk1 : w1.heap[w.heap.size]? = some (.cells #[.int .i64 6, .string nm, .string tx, .int .i64 n] tStep (0, 0)) := by rw [← hw1]; exact hp_new rfl
  have hb1 : Below w.heap.size w w1 := by rw [← hw1]; exact (Below.refl _ w).alloc (Nat.le_refl _) _
  have TK := Lib.hid (xtake_any xb c x v ⟨6, nm, tx, n⟩ hok hrl hsv hB w1 (hst.grow hb1) (hv.below (hb1.mono (Nat.le_of_lt hlt))))
  have s0 : w1.cell? ⟨w.heap.size, 0, none⟩ = some (.int .i64 6) := cell_of_blk hk1 0
  have s1 : w1.cell? ⟨w.heap.size, 1, none⟩ = some (.string nm) := cell_of_blk hk1 1
  have s2 : w1.cell? ⟨w.heap.size, 2, none⟩ = some (.string tx) := cell_of_blk hk1 2
  have s3 : w1.cell? ⟨w.heap.size, 3, none⟩ = some (.int .i64 n) := cell_of_blk hk1 3
  have HK1 := Lib.hid hk1
  have HB1 : Hid (BS xb w w1) := BS.of_below hb1 (Nat.le_of_lt hlt)
  have HW1 := Lib.hid hw1
  have HVW : Hid (∀ W, Below xb w W → VAt xb c v W) := fun W hb => hv.below hb
  have HLT : Hid (xb < w.heap.size) := hlt
  clear hst hv hk1 hb1 hw1 hok
  go_enter Tryz.func62, Tryz.ntmps62
  go_upto_region 1 with fail
  rw [HW1.out]
  clear HW1
  go_wp2_with fail
  refine TK.out.mono ?_
  rintro e w2 ⟨rfl, hx2, hb2⟩
  have HK2 : Hid (w2.heap[w.heap.size]? = some (.cells #[.int .i64 6, .string nm, .string tx, .int .i64 n] tStep (0, 0))) := (hb2.st _ _ _ HK1.out).trans HK1.out
  have HX2 := Lib.hid hx2
  have HB2 := Lib.hid (HB1.out.trans hb2)
  have z2 : w.heap.size < w2.heap.size := (Array.getElem?_eq_some_iff.1 HK2.out).1
  clear hx2 hb2 TK s0 s1 s2 s3
  have s0 : w2.cell? ⟨w.heap.size, 0, none⟩ = some (.int .i64 6) := cell_of_blk HK2.out 0
  rw [HT0.out] at HX2
  obtain ⟨cs, p, l, r, o, t, sv, hx2⟩ := HX2.out
  have hx3 := hx2.grow (Below.refl _ w2).drew
  have s2 : w2.cell? ⟨w.heap.size, 2, none⟩ = some (.string tx) := cell_of_blk HK2.out 2
  have hsz : ¬ (9223372036854775807 < tx.size + 1) := by omega
  have hne : (tx ++ (⟨#[10]⟩ : ByteArray)).size = tx.size + 1 := by simp [ByteArray.size_append]; rfl
  have BW := Lib.hid (bwrite_any xb cs x.log l (tx ++ (⟨#[10]⟩ : ByteArray)) w2.drew hx3.blk hx3.size hx3.bldc hx3.c51 hx3.log (by rw [hne]; omega))
  have HX3 := Lib.hid hx3
  have HDR : Hid (BS xb w2 w2.drew) := BS.of_below (Below.refl _ _).drew (Nat.le_of_lt hx2.lt)
  have HBA : Hid ((tx ++ (⟨#[10]⟩ : ByteArray)).data.toList = bs tx ++ [10]) := bs_add _ _
  clear hx2 hx3 hB hrl hsv hne hlg htx
  go_upto_region 7 with fail
  go_still_tail 6, (by kernel_rfl)
  change wpList _ _ _ _ _ (World.drew _)
  go_wp2_with fail
  refine BW.out.mono ?_
  rintro e w3 ⟨v', rfl, hk, hl, hg⟩
  rw [HBA.out] at hl
  have HL := Lib.hid (HX3.out.logged v' _ hk hl hg)
  clear hk hl hg BW
  go_wp2_with fail
  go_ret
  unfold PfPost
  rw [HPF.out]
  exact ⟨rfl, ⟨_, _, _, _, _, _, _, HL.out.1⟩, ((HB2.out.trans HDR.out).trans HL.out.2).bel⟩
set_option maxRecDepth 100000 in
set_option maxHeartbeats 6400000 in
theorem perform_echo (xb : Nat) (c : Nat → Value) (x : StM) (v : ViewM) (nm tx : ByteArray) (n : Int) (hlg : x.log.length ≤ 100000000) (hok : OkS v ⟨7, nm, tx, n⟩) (hrl : x.reads.length ≤ 900) (hsv : x.saves.length ≤ 10000) (hB : VB v) (w : World) (hst : XSt xb c x w) (hv : VAt xb c v w) :
    Calls Tryz.prog 62 #[.pointer (some ⟨xb, 0, none⟩), stepV ⟨7, nm, tx, n⟩] w (PfPost xb c x v ⟨7, nm, tx, n⟩ w) := by
  have HT0 : Hid (takeF v x ⟨7, nm, tx, n⟩ = x) := by
    unfold Hid takeF
    dsimp only
    rw [if_neg (by decide), if_neg (by decide), if_neg (by decide), if_neg (by decide)]
  have HPF : Hid (performF v x ⟨7, nm, tx, n⟩ = ({ x with log := x.log ++ (bs (txtF (secF v nm)) ++ [10]) }, 0)) := by
    unfold Hid performF txtF
    dsimp only
    rw [if_neg (by decide), if_neg (by decide), if_pos rfl]
    rw [HT0.out]
    cases secF v nm <;> rfl
  have htx : (txtF (secF v nm)).size ≤ 10000 := by
    unfold txtF
    cases hf : secF v nm with
    | none => exact Nat.zero_le _
    | some f => exact hB.secN f (List.mem_of_find?_eq_some hf)
  have hsl := hB.secs
  have hlt := hst.lt
  obtain ⟨w1, hw1⟩ : ∃ w1, w.alloc (.cells #[.int .i64 7, .string nm, .string tx, .int .i64 n] tStep (0, 0)) = w1 := ⟨_, rfl⟩
  have hk1 : w1.heap[w.heap.size]? = some (.cells #[.int .i64 7, .string nm, .string tx, .int .i64 n] tStep (0, 0)) := by rw [← hw1]; exact hp_new rfl
  have hb1 : Below w.heap.size w w1 := by rw [← hw1]; exact (Below.refl _ w).alloc (Nat.le_refl _) _
  have TK := Lib.hid (xtake_any xb c x v ⟨7, nm, tx, n⟩ hok hrl hsv hB w1 (hst.grow hb1) (hv.below (hb1.mono (Nat.le_of_lt hlt))))
  have s0 : w1.cell? ⟨w.heap.size, 0, none⟩ = some (.int .i64 7) := cell_of_blk hk1 0
  have s1 : w1.cell? ⟨w.heap.size, 1, none⟩ = some (.string nm) := cell_of_blk hk1 1
  have s2 : w1.cell? ⟨w.heap.size, 2, none⟩ = some (.string tx) := cell_of_blk hk1 2
  have s3 : w1.cell? ⟨w.heap.size, 3, none⟩ = some (.int .i64 n) := cell_of_blk hk1 3
  have HK1 := Lib.hid hk1
  have HB1 : Hid (BS xb w w1) := BS.of_below hb1 (Nat.le_of_lt hlt)
  have HW1 := Lib.hid hw1
  have HVW : Hid (∀ W, Below xb w W → VAt xb c v W) := fun W hb => hv.below hb
  have HLT : Hid (xb < w.heap.size) := hlt
  clear hst hv hk1 hb1 hw1 hok
  go_enter Tryz.func62, Tryz.ntmps62
  go_upto_region 1 with fail
  rw [HW1.out]
  clear HW1
  go_wp2_with fail
  refine TK.out.mono ?_
  rintro e w2 ⟨rfl, hx2, hb2⟩
  have HK2 : Hid (w2.heap[w.heap.size]? = some (.cells #[.int .i64 7, .string nm, .string tx, .int .i64 n] tStep (0, 0))) := (hb2.st _ _ _ HK1.out).trans HK1.out
  have HX2 := Lib.hid hx2
  have HB2 := Lib.hid (HB1.out.trans hb2)
  have z2 : w.heap.size < w2.heap.size := (Array.getElem?_eq_some_iff.1 HK2.out).1
  clear hx2 hb2 TK s0 s1 s2 s3
  have s0 : w2.cell? ⟨w.heap.size, 0, none⟩ = some (.int .i64 7) := cell_of_blk HK2.out 0
  rw [HT0.out] at HX2
  have s1 : w2.cell? ⟨w.heap.size, 1, none⟩ = some (.string nm) := cell_of_blk HK2.out 1
  have FA := Lib.hid (text_any nm xb v.secs (c 41) _ (by omega) w2 (HX2.out.cell (by decide)) (HVW.out w2 HB2.out.bel).secs)
  have HTX : Hid (txtF (v.secs.find? (fun y => decide (y.name = nm))) = txtF (secF v nm)) := rfl
  rw [HTX.out] at FA
  generalize txtF (secF v nm) = tt at *
  generalize (v.secs.find? (fun y => decide (y.name = nm))).isSome = bb at *
  clear hB hrl hsv hsl HTX
  go_wp2_with fail
  refine FA.out.mono ?_
  rintro e w3 ⟨rfl, hb⟩
  have HX3 := Lib.hid (HX2.out.grow hb)
  have HB3 := Lib.hid (HB2.out.trans (BS.of_below hb (Nat.le_of_lt HX2.out.lt)))
  clear hb FA
  obtain ⟨cs, p, l, r, o, t, sv, hx3⟩ := HX3.out
  have hsz : ¬ (9223372036854775807 < tt.size + 1) := by omega
  have hne : (tt ++ (⟨#[10]⟩ : ByteArray)).size = tt.size + 1 := by simp [ByteArray.size_append]; rfl
  have BW := Lib.hid (bwrite_any xb cs x.log l (tt ++ (⟨#[10]⟩ : ByteArray)) w3 hx3.blk hx3.size hx3.bldc hx3.c51 hx3.log (by rw [hne]; omega))
  have HX4 := Lib.hid hx3
  have HBA : Hid ((tt ++ (⟨#[10]⟩ : ByteArray)).data.toList = bs tt ++ [10]) := bs_add _ _
  clear hx3 hne hlg htx
  go_wp2_with fail
  refine BW.out.mono ?_
  rintro e w4 ⟨v', rfl, hk, hl, hg⟩
  rw [HBA.out] at hl
  have HL := Lib.hid (HX4.out.logged v' _ hk hl hg)
  clear hk hl hg BW
  go_wp2_with fail
  go_ret
  unfold PfPost
  rw [HPF.out]
  exact ⟨rfl, ⟨_, _, _, _, _, _, _, HL.out.1⟩, (HB3.out.trans HL.out.2).bel⟩
set_option maxRecDepth 100000 in
set_option maxHeartbeats 6400000 in
theorem perform_test (xb : Nat) (c : Nat → Value) (x : StM) (v : ViewM) (nm tx : ByteArray) (n : Int) (htx : tx.size ≤ 100000) (m : Int) (hok : OkS v ⟨8, nm, tx, n⟩) (hrl : x.reads.length ≤ 900) (hsv : x.saves.length ≤ 10000) (hB : VB v) (w : World) (hst : XSt xb c x w) (hv : VAt xb c v w) (hm : w.cell? ⟨0, 0, none⟩ = some (.int .i64 m)) (h00 : 0 < xb):
    Calls Tryz.prog 62 #[.pointer (some ⟨xb, 0, none⟩), stepV ⟨8, nm, tx, n⟩] w (PfPost xb c x v ⟨8, nm, tx, n⟩ w) := by
  have HT0 : Hid (takeF v x ⟨8, nm, tx, n⟩ = x) := by
    unfold Hid takeF
    dsimp only
    rw [if_neg (by decide), if_neg (by decide), if_neg (by decide), if_neg (by decide)]
  have HPF : Hid (performF v x ⟨8, nm, tx, n⟩ = ({ x with tests := v.tests.map (tstM v ⟨8, nm, tx, n⟩) }, outZ v ⟨8, nm, tx, n⟩ v.tests)) := by
    unfold Hid performF
    dsimp only
    rw [if_neg (by decide), if_neg (by decide), if_neg (by decide), if_pos rfl]
    rw [HT0.out]
    rfl
  have HM := Lib.hid hm
  have HBV := Lib.hid hB
  clear hm
  have hlt := hst.lt
  obtain ⟨w1, hw1⟩ : ∃ w1, w.alloc (.cells #[.int .i64 8, .string nm, .string tx, .int .i64 n] tStep (0, 0)) = w1 := ⟨_, rfl⟩
  have hk1 : w1.heap[w.heap.size]? = some (.cells #[.int .i64 8, .string nm, .string tx, .int .i64 n] tStep (0, 0)) := by rw [← hw1]; exact hp_new rfl
  have hb1 : Below w.heap.size w w1 := by rw [← hw1]; exact (Below.refl _ w).alloc (Nat.le_refl _) _
  have TK := Lib.hid (xtake_any xb c x v ⟨8, nm, tx, n⟩ hok hrl hsv hB w1 (hst.grow hb1) (hv.below (hb1.mono (Nat.le_of_lt hlt))))
  have s0 : w1.cell? ⟨w.heap.size, 0, none⟩ = some (.int .i64 8) := cell_of_blk hk1 0
  have s1 : w1.cell? ⟨w.heap.size, 1, none⟩ = some (.string nm) := cell_of_blk hk1 1
  have s2 : w1.cell? ⟨w.heap.size, 2, none⟩ = some (.string tx) := cell_of_blk hk1 2
  have s3 : w1.cell? ⟨w.heap.size, 3, none⟩ = some (.int .i64 n) := cell_of_blk hk1 3
  have HK1 := Lib.hid hk1
  have HB1 : Hid (BS xb w w1) := BS.of_below hb1 (Nat.le_of_lt hlt)
  have HW1 := Lib.hid hw1
  have HVW : Hid (∀ W, Below xb w W → VAt xb c v W) := fun W hb => hv.below hb
  have HLT : Hid (xb < w.heap.size) := hlt
  clear hst hv hk1 hb1 hw1 hok
  go_enter Tryz.func62, Tryz.ntmps62
  go_upto_region 1 with fail
  rw [HW1.out]
  clear HW1
  go_wp2_with fail
  refine TK.out.mono ?_
  rintro e w2 ⟨rfl, hx2, hb2⟩
  have HK2 : Hid (w2.heap[w.heap.size]? = some (.cells #[.int .i64 8, .string nm, .string tx, .int .i64 n] tStep (0, 0))) := (hb2.st _ _ _ HK1.out).trans HK1.out
  have HX2 := Lib.hid hx2
  have HB2 := Lib.hid (HB1.out.trans hb2)
  have z2 : w.heap.size < w2.heap.size := (Array.getElem?_eq_some_iff.1 HK2.out).1
  clear hx2 hb2 TK s0 s1 s2 s3
  have s0 : w2.cell? ⟨w.heap.size, 0, none⟩ = some (.int .i64 8) := cell_of_blk HK2.out 0
  rw [HT0.out] at HX2
  have s1 : w2.cell? ⟨w.heap.size, 1, none⟩ = some (.string nm) := cell_of_blk HK2.out 1
  have s2 : w2.cell? ⟨w.heap.size, 2, none⟩ = some (.string tx) := cell_of_blk HK2.out 2
  have s3 : w2.cell? ⟨w.heap.size, 3, none⟩ = some (.int .i64 n) := cell_of_blk HK2.out 3
  have TS := Lib.hid (test_any xb c x v ⟨8, nm, tx, n⟩ htx HBV.out m w2 (((HB2.out.bel).cell (p := ⟨0, 0, none⟩) h00).trans HM.out) HX2.out (HVW.out w2 HB2.out.bel))
  clear hB hrl hsv htx h00
  go_wp2_with fail
  refine TS.out.mono ?_
  rintro e w3 ⟨rfl, hx3, hb⟩
  have HX3 := Lib.hid hx3
  have HB3 := Lib.hid (HB2.out.bel.trans hb)
  clear hx3 hb TS
  go_wp2_with fail
  go_ret
  unfold PfPost
  rw [HPF.out]
  exact ⟨rfl, HX3.out, HB3.out⟩
end Go.Proofs.YtghahghbahcpfaaGreatDoor
/- The walk over the execution's perform: emit; perform whole. -/
namespace Go.Proofs.YtghahghbahcpfaaGreatDoor
open Go.RowKit

theorem Tryz.built_out3 (k : ByteArray) (d z : Int) : Tryz.prog.built tOut [(0, .string k), (1, .int .u64 d), (2, .int .i64 z)] = some #[.string k, .int .u64 d, .int .i64 z] := by kernel_rfl
set_option maxRecDepth 100000 in
set_option maxHeartbeats 6400000 in
theorem perform_emit (xb : Nat) (c : Nat → Value) (x : StM) (v : ViewM) (nm tx : ByteArray) (n : Int) (hnm : nm.size ≤ 100000) (hol : x.outs.length ≤ 900) (hok : OkS v ⟨5, nm, tx, n⟩) (hrl : x.reads.length ≤ 900) (hsv : x.saves.length ≤ 10000) (hB : VB v) (w : World) (hst : XSt xb c x w) (hv : VAt xb c v w) :
    Calls Tryz.prog 62 #[.pointer (some ⟨xb, 0, none⟩), stepV ⟨5, nm, tx, n⟩] w (PfPost xb c x v ⟨5, nm, tx, n⟩ w) := by
  have HT0 : Hid (takeF v x ⟨5, nm, tx, n⟩ = x) := by
    unfold Hid takeF
    dsimp only
    rw [if_neg (by decide), if_neg (by decide), if_neg (by decide), if_neg (by decide)]
  have HPF : Hid (performF v x ⟨5, nm, tx, n⟩ = ({ x with outs := putF x.outs ⟨nm, ofN [111, 117, 116] [sumS nm, x.acc], sizeF (ofN [111, 117, 116] [sumS nm, x.acc])⟩ }, 0)) := by
    unfold Hid performF
    dsimp only
    rw [if_pos rfl]
    rw [HT0.out]
  have SUM := Lib.hid (fun w => sum_any nm (by omega) w)
  have hsm64 : sumS nm < 18446744073709551616 := sumN_lt _
  have hlt := hst.lt
  obtain ⟨w1, hw1⟩ : ∃ w1, w.alloc (.cells #[.int .i64 5, .string nm, .string tx, .int .i64 n] tStep (0, 0)) = w1 := ⟨_, rfl⟩
  have hk1 : w1.heap[w.heap.size]? = some (.cells #[.int .i64 5, .string nm, .string tx, .int .i64 n] tStep (0, 0)) := by rw [← hw1]; exact hp_new rfl
  have hb1 : Below w.heap.size w w1 := by rw [← hw1]; exact (Below.refl _ w).alloc (Nat.le_refl _) _
  have TK := Lib.hid (xtake_any xb c x v ⟨5, nm, tx, n⟩ hok hrl hsv hB w1 (hst.grow hb1) (hv.below (hb1.mono (Nat.le_of_lt hlt))))
  have s0 : w1.cell? ⟨w.heap.size, 0, none⟩ = some (.int .i64 5) := cell_of_blk hk1 0
  have s1 : w1.cell? ⟨w.heap.size, 1, none⟩ = some (.string nm) := cell_of_blk hk1 1
  have s2 : w1.cell? ⟨w.heap.size, 2, none⟩ = some (.string tx) := cell_of_blk hk1 2
  have s3 : w1.cell? ⟨w.heap.size, 3, none⟩ = some (.int .i64 n) := cell_of_blk hk1 3
  have HK1 := Lib.hid hk1
  have HB1 : Hid (BS xb w w1) := BS.of_below hb1 (Nat.le_of_lt hlt)
  have HW1 := Lib.hid hw1
  have HVW : Hid (∀ W, Below xb w W → VAt xb c v W) := fun W hb => hv.below hb
  have HLT : Hid (xb < w.heap.size) := hlt
  clear hst hv hk1 hb1 hw1 hok
  go_enter Tryz.func62, Tryz.ntmps62
  go_upto_region 1 with fail
  rw [HW1.out]
  clear HW1
  go_wp2_with fail
  refine TK.out.mono ?_
  rintro e w2 ⟨rfl, hx2, hb2⟩
  have HK2 : Hid (w2.heap[w.heap.size]? = some (.cells #[.int .i64 5, .string nm, .string tx, .int .i64 n] tStep (0, 0))) := (hb2.st _ _ _ HK1.out).trans HK1.out
  have HX2 := Lib.hid hx2
  have HB2 := Lib.hid (HB1.out.trans hb2)
  have z2 : w.heap.size < w2.heap.size := (Array.getElem?_eq_some_iff.1 HK2.out).1
  clear hx2 hb2 TK s0 s1 s2 s3
  have s0 : w2.cell? ⟨w.heap.size, 0, none⟩ = some (.int .i64 5) := cell_of_blk HK2.out 0
  rw [HT0.out] at HX2
  obtain ⟨cs, p, l, r, o, t, sv, hx2⟩ := HX2.out
  have HXA := Lib.hid hx2
  have HDS : Hid (∀ d ∈ [sumS nm, x.acc], d < 18446744073709551616) := fun d hd => by
    rcases List.mem_cons.1 hd with rfl | hd
    · exact hsm64
    · rw [List.mem_singleton.1 hd]; exact HXA.out.acc
  generalize sumS nm = sm at *
  have OF := Lib.hid (fun (W : World) (v2 : Value) (h : EDig.Row (fun _ => True) W [sm, x.acc] v2) => of_any ⟨#[111, 117, 116]⟩ [sm, x.acc] v2 _ (by decide) (by show 2 ≤ 1000000; decide) HDS.out W h)
  have HOL : Hid (x.outs.length ≤ 900) := hol
  have hx2l := hx2.lt
  have HS4 : Hid (∀ W' : World, Below w2.heap.size w2 W' → W'.cell? ⟨w.heap.size, 1, none⟩ = some (.string nm) ∧ W'.cell? ⟨xb, 48, none⟩ = some (.int .u64 (x.acc : Nat))) := fun W' hb => ⟨cell_of_blk ((hb.block _ z2).trans HK2.out) 1, (cell_of_blk (HXA.out.grow hb).blk 48).trans (HXA.out.grow hb).c48⟩
  have HDR : Hid (Below w2.heap.size w2 w2.drew) := (Below.refl _ _).drew
  clear hx2 hB hrl hsv hsm64 hnm hol HX2
  go_upto_region 4 with fail
  refine wp_region_Z (S := fun W' : World => W'.cell? ⟨w.heap.size, 1, none⟩ = some (.string nm) ∧ W'.cell? ⟨xb, 48, none⟩ = some (.int .u64 (x.acc : Nat))) 9 (by kernel_rfl) (HS4.out _ HDR.out) (fun hHeld => ?_)
  refine ztk 0 ?_
  try simp only [Act.put, zA, zB, zC]
  refine ztk 1 ?_
  try simp only [Act.put, zA, zB, zC]
  refine ztk 3 ?_
  try simp only [Act.put, zA, zB, zC]
  refine ztk 4 ?_
  try simp only [Act.put, zA, zB, zC]
  refine ztk 5 ?_
  try simp only [Act.put, zA, zB, zC]
  refine ztk 6 ?_
  try simp only [Act.put, zA, zB, zC]
  refine wpAnyZ_oneL (i := 2) (by kernel_rfl) rfl (fun K hK => ?_)
  go_simp
  go_at_call 39
  refine (SUM.out _).mono ?_
  rintro e w3 ⟨rfl, hb3⟩
  have HB3 := Lib.hid (HDR.out.trans (hb3.mono HDR.out.size))
  clear hb3
  refine hK.out _ _ (fun _ => HS4.out _ HB3.out) (fun hHeld => ?_)
  replace hHeld := hHeld (by decide)
  clear hK K
  try simp only [Act.put, zA, zB, zC]
  refine wpAnyZ_oneL (i := 7) (by kernel_rfl) rfl (fun K hK => ?_)
  go_simp
  obtain ⟨w4, hw4⟩ : ∃ w4, w3.alloc (.cells #[.int .u64 (sm : Nat), .int .u64 (x.acc : Nat)] 58) = w4 := ⟨_, rfl⟩
  have hk4 : w4.heap[w3.heap.size]? = some (.cells #[.int .u64 (sm : Nat), .int .u64 (x.acc : Nat)] 58 (0, 0)) := by rw [← hw4]; exact hp_new rfl
  have HB4 : Hid (Below w2.heap.size w2 w4) := by unfold Hid; rw [← hw4]; exact HB3.out.alloc HB3.out.size _
  rw [hw4]
  clear hw4
  have OF4 := Lib.hid (OF.out w4 _ (ed_two hk4))
  clear hk4
  refine hK.out _ _ (fun _ => HS4.out _ HB4.out) (fun hHeld => ?_)
  replace hHeld := hHeld (by decide)
  clear hK K
  try simp only [Act.put, zA, zB, zC]
  refine wpAnyZ_oneL (i := 8) (by kernel_rfl) rfl (fun K hK => ?_)
  go_simp
  go_at_call 38
  refine OF4.out.mono ?_
  rintro e w5 ⟨rfl, hb5⟩
  have HB5 := Lib.hid (HB4.out.trans (hb5.mono HB4.out.size))
  clear hb5 OF4
  refine hK.out _ _ (fun _ => HS4.out _ HB5.out) (fun hHeld => ?_)
  replace hHeld := hHeld (by decide)
  clear hK K
  try simp only [Act.put, zA, zB, zC]
  refine wpAnyZ_oneL (i := 9) (by kernel_rfl) rfl (fun K hK => ?_)
  go_simp
  refine hK.out _ _ (fun h => absurd h (by decide)) (fun _ => ?_)
  clear hK K
  try simp only [Act.put, zA, zB, zC]
  refine wpAnyZ_done (by kernel_rfl) ?_ _
  clear hHeld
  obtain ⟨d, hd⟩ : ∃ d, ofN [111, 117, 116] [sm, x.acc] = d := ⟨_, rfl⟩
  have HPF2 : Hid (performF v x ⟨5, nm, tx, n⟩ = ({ x with outs := putF x.outs ⟨nm, d, sizeF d⟩ }, 0)) := by unfold Hid; rw [HPF.out, hd]
  rw [hd]
  have HX5 := Lib.hid (HXA.out.grow HB5.out)
  have hz5 := HB5.out.size
  have HS5 : Hid (∀ W' : World, Below w5.heap.size w5 W' → W'.cell? ⟨xb, 53, none⟩ = some o ∧ W'.cell? ⟨w.heap.size, 1, none⟩ = some (.string nm)) := fun W' hb => ⟨(cell_of_blk (HX5.out.grow hb).blk 53).trans (HX5.out.grow hb).c53, cell_of_blk (((HB5.out.trans (hb.mono HB5.out.size)).block _ z2).trans HK2.out) 1⟩
  have HDR2 : Hid (Below w5.heap.size w5 w5.drew) := (Below.refl _ _).drew
  have PT : Hid (∀ W, Below w5.heap.size w5 W → Calls Tryz.prog 91 #[o, .agg #[.string nm, .int .u64 (d : Nat), .int .i64 (sizeF d)]] W fun e w' => ∃ r', e = .returned r' ∧ OutAt xb w' (putF x.outs ⟨nm, d, sizeF d⟩) r' ∧ Below W.heap.size W w') := fun W hb => xput_any xb x.outs o ⟨nm, d, sizeF d⟩ _ (by have := HOL.out; omega) W (HX5.out.grow hb).lt (HX5.out.grow hb).outs.row
  clear hd HPF OF HS4 HDS SUM
  go_upto_region 5 with fail
  refine wp_region_Z (S := fun W' : World => W'.cell? ⟨xb, 53, none⟩ = some o ∧ W'.cell? ⟨w.heap.size, 1, none⟩ = some (.string nm)) 14 (by kernel_rfl) (HS5.out _ HDR2.out) (fun hHeld => ?_)
  refine ztk 0 ?_
  try simp only [Act.put, zA, zB, zC]
  refine ztk 1 ?_
  try simp only [Act.put, zA, zB, zC]
  refine ztk 2 ?_
  try simp only [Act.put, zA, zB, zC]
  refine ztk 3 ?_
  try simp only [Act.put, zA, zB, zC]
  refine ztk 4 ?_
  try simp only [Act.put, zA, zB, zC]
  refine ztk 5 ?_
  try simp only [Act.put, zA, zB, zC]
  refine ztk 6 ?_
  try simp only [Act.put, zA, zB, zC]
  refine ztk 7 ?_
  try simp only [Act.put, zA, zB, zC]
  refine ztk 8 ?_
  try simp only [Act.put, zA, zB, zC]
  refine wpAnyZ_oneL (i := 9) (by kernel_rfl) rfl (fun K hK => ?_)
  go_simp
  go_at_call 22
  refine (size_any d _).mono ?_
  rintro e w6 ⟨rfl, hw6⟩
  rw [hw6]
  clear hw6 w6
  refine hK.out _ _ (fun _ => HS5.out _ HDR2.out) (fun hHeld => ?_)
  replace hHeld := hHeld (by decide)
  clear hK K
  try simp only [Act.put, zA, zB, zC]
  refine wpAnyZ_oneL (i := 10) (by kernel_rfl) rfl (fun K hK => ?_)
  rw [if_pos (by rfl)]
  refine wp_build3M tOut (.tmp 30) (.tmp 31) (.tmp 33) rfl _ _ _ rfl rfl rfl #[.string nm, .int .u64 (d : Nat), .int .i64 (sizeF d)] (Tryz.built_out3 _ _ _) ?_
  refine hK.out _ _ (fun _ => HS5.out _ HDR2.out) (fun hHeld => ?_)
  replace hHeld := hHeld (by decide)
  clear hK K
  try simp only [Act.put, zA, zB, zC]
  refine wpAnyZ_oneL (i := 11) (by kernel_rfl) rfl (fun K hK => ?_)
  go_simp
  go_at_call 91
  refine (PT.out _ HDR2.out).mono ?_
  rintro e w8 ⟨r8, rfl, hr8, hb8⟩
  obtain ⟨g8, p8, hv8⟩ := hr8.row.form
  subst hv8
  have HB8 := Lib.hid (HDR2.out.trans (hb8.mono HDR2.out.size))
  have hx8 := HX5.out.grow HB8.out
  have f853 := free_of_blk hx8.blk 53
  have c853 := (HS5.out _ HB8.out).1
  have hp := hx8.putRow 53 _ ⟨by decide, by decide⟩ { x with outs := putF x.outs ⟨nm, d, sizeF d⟩ } ⟨rfl, rfl, rfl, rfl⟩ hx8.reads hr8 hx8.tests hx8.saves
  have HP := Lib.hid hp
  clear hr8 hb8 hx8 hp
  refine hK.out _ _ (fun _ => HS5.out _ HB8.out) (fun hHeld => ?_)
  replace hHeld := hHeld (by decide)
  clear hK K
  try simp only [Act.put, zA, zB, zC]
  refine ztk 12 ?_
  try simp only [Act.put, zA, zB, zC]
  refine ztk 13 ?_
  try simp only [Act.put, zA, zB, zC]
  refine wpAnyZ_oneL (i := 14) (by kernel_rfl) rfl (fun K hK => ?_)
  go_simp
  refine hK.out _ _ (fun h => absurd h (by decide)) (fun _ => ?_)
  clear hK K
  try simp only [Act.put, zA, zB, zC]
  refine wpAnyZ_done (by kernel_rfl) ?_ _
  clear hHeld
  go_wp2_with fail
  go_ret
  unfold PfPost
  rw [HPF2.out]
  exact ⟨rfl, ⟨_, _, _, _, _, _, _, HP.out.1⟩, HB2.out.bel.trans ((HB5.out.mono (Nat.le_of_lt hx2l)).trans ((HB8.out.mono (Nat.le_of_lt HX5.out.lt)).trans HP.out.2))⟩
theorem perform_any (xb : Nat) (c : Nat → Value) (x : StM) (v : ViewM) (s : StepM) (hok : OkS v s) (hnm : s.name.size ≤ 100000) (htx : s.text.size ≤ 100000) (hlg : x.log.length ≤ 100000000) (hrl : x.reads.length ≤ 900) (hol : x.outs.length ≤ 900) (hsv : x.saves.length ≤ 10000) (hB : VB v) (m : Int) (w : World) (hm : w.cell? ⟨0, 0, none⟩ = some (.int .i64 m)) (h00 : 0 < xb) (hst : XSt xb c x w) (hv : VAt xb c v w) :
    Calls Tryz.prog 62 #[.pointer (some ⟨xb, 0, none⟩), stepV s] w (PfPost xb c x v s w) := by
  obtain ⟨op, nm, tx, n⟩ := s
  dsimp only at hnm htx
  by_cases h5 : op = 5
  · subst h5; exact perform_emit xb c x v nm tx n hnm hol hok hrl hsv hB w hst hv
  by_cases h6 : op = 6
  · subst h6; exact perform_log xb c x v nm tx n htx hlg hok hrl hsv hB w hst hv
  by_cases h7 : op = 7
  · subst h7; exact perform_echo xb c x v nm tx n hlg hok hrl hsv hB w hst hv
  by_cases h8 : op = 8
  · subst h8; exact perform_test xb c x v nm tx n htx m hok hrl hsv hB w hst hv hm h00
  by_cases h9 : op = 9
  · subst h9; exact perform_fail xb c x v nm tx n hok hrl hsv hB w hst hv
  by_cases h11 : op = 11
  · subst h11; exact perform_child xb c x v nm tx n hok hrl hsv hB w hst hv
  · exact perform_rest xb c x v op nm tx n (by simpa using h5) (by simpa using h6) (by simpa using h7) (by simpa using h8) (by simpa using h9) (by simpa using h11) hok hrl hsv hB w hst hv
end Go.Proofs.YtghahghbahcpfaaGreatDoor
