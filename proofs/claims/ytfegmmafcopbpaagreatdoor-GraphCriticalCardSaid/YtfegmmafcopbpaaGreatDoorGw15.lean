/- The walk over Critical of package graph, whole. -/
import Derived.Test.YtfegmmafcopbpaaGreatDoorGw14
import Derived.Test.YtfegmmafcopbpaaGreatDoorGr
import Derived.Test.YtfegmmafcopbpaaGreatDoorGb2
namespace Go.Proofs.YtfegmmafcopbpaaGreatDoor
open Go.RowKit Go.Shelf

attribute [local go_sem] Oper.semAt_some

/-- a cost as a number -/
def costN (cs : List Int) : Nat → Nat := fun k => (cs.getD k 0).toNat

/-- what lies while the loops run -/
structure CrAt (W : World) (nv cv : Value) (ns : List Nd) (cs : List Int) (cx tg tb bb g mb : Nat) (V : Nat → Value) : Prop where
  nd : NdAt W nv ns
  g0 : W.cell? ⟨g, 0, none⟩ = some nv
  g3 : W.cell? ⟨g, 3, none⟩ = some (.slice (some ⟨mb, 0, none⟩) ns.length ns.length)
  gl : g < W.heap.size
  row : W.rowIs mb 40 ns.length V
  ints : ∀ r, r < ns.length → IntsAt W (V r) (be (grO ns) r)
  cost : ZsAt W cv cs
  cx : W.cell? ⟨cx, 0, none⟩ = some cv
  tg : W.cell? ⟨tg, 0, none⟩ = some (.pointer (some ⟨g, 0, none⟩))
  tb : W.cell? ⟨tb, 0, none⟩ = some (.slice (some ⟨bb, 0, none⟩) ns.length ns.length)

/-- within a round: some of what needs the node is seen -/
def CrIn (W : World) (R n bb i : Nat) (ks : List Nat) (B : Nat → Nat) (t63 : Value) (wr : World) : Prop :=
  ∃ j : Nat, t63 = .int .i64 (j : Nat) ∧ j ≤ ks.length ∧ Kp R (· = bb) W wr ∧ KeepsOthers W wr ∧ wr.rowIs bb 3 n (oV ((ks.take j).foldl (innQ i) B))
theorem innQ_fold (i : Nat) {ks : List Nat} {j : Nat} (hj : j < ks.length) (B : Nat → Nat) : (ks.take (j + 1)).foldl (innQ i) B = innQ i ((ks.take j).foldl (innQ i) B) (ks.getD j 0) := by
  rw [List.take_add_one, List.getElem?_eq_getElem hj, List.foldl_append, List.getD, List.getElem?_eq_getElem hj]
  rfl

theorem maxZ_from (B : Nat → Nat) : ∀ (ks : List Nat) (a : Nat), (ks.map fun k => ((B k : Nat) : Int)).foldl max ((a : Nat) : Int) = ((ks.foldl (fun a k => max a (B k)) a : Nat) : Int)
  | [], a => rfl
  | k :: ks, a => by
    rw [List.map_cons, List.foldl_cons, List.foldl_cons, ← maxZ_from B ks]
    congr 1
    omega
theorem maxZ (B : Nat → Nat) {n : Nat} (h : 0 < n) : Lib.maxOf (((List.range n).map fun k => ((B k : Nat) : Int)).take n) = ((maxQ B (List.range n) : Nat) : Int) := by
  rw [List.take_of_length_le (by simp)]
  obtain ⟨m, rfl⟩ : ∃ m, n = m + 1 := ⟨n - 1, by omega⟩
  unfold Lib.maxOf
  rw [List.range_succ_eq_map, List.map_cons, List.headD_cons, List.foldl_cons, show max ((B 0 : Nat) : Int) ((B 0 : Nat) : Int) = ((B 0 : Nat) : Int) by omega, maxZ_from, maxQ_from, maxQ_cons]
theorem bwd_rev {n : Nat} {L : List Nat} (hl : L.length = n) {zf : Nat → { k : Nat // k < n }} (hz : ∀ j, j < n → (zf j).1 = L.getD j 0) : (upto (bwd zf n) n).map (fun x => x.2.1) = L.reverse := by
  refine List.ext_getElem (by simp [upto, hl]) fun j h1 h2 => ?_
  have hj : j < n := by simpa [upto] using h1
  simp only [upto, List.getElem_map, List.getElem_range, bwd, List.getElem_reverse]
  rw [hz _ (by omega), List.getD, List.getElem?_eq_getElem (by omega)]
  simp only [Option.getD_some, hl]

def StRel (w1 : World) (n M : Nat) (B : Nat → Nat) (f : Nat) (t97 t15 : Value) (wr : World) : Prop :=
  ∃ k : Nat, t97 = .int .i64 (k : Nat) ∧ k ≤ n ∧ f = n - k ∧ Below w1.heap.size w1 wr ∧ IRow wr w1.heap.size t15 ((List.range k).filter fun j => decide (B j = M))
theorem st_succ (B : Nat → Nat) (M k : Nat) : ((List.range (k + 1)).filter fun j => decide (B j = M)) = ((List.range k).filter fun j => decide (B j = M)) ++ if B k = M then [k] else [] := by
  rw [List.range_succ, List.filter_append]
  by_cases h : B k = M <;> simp [h]
def PaRel (w1 : World) (G : Gr) (n s : Nat) (B C : Nat → Nat) (f : Nat) (t17 t18 : Value) (wr : World) : Prop :=
  ∃ (i : Nat) (acc : List ByteArray), t18 = .int .i64 (i : Nat) ∧ i < n ∧ f = n - acc.length ∧ acc.length ≤ (ordG G).idxOf i ∧ acc.map (·.data.toList) ++ pathQ G B C (n - acc.length) i = pathQ G B C n s ∧
    wr.ownsRow w1.heap.size 9 1 t17 acc.length (acc.map Value.string) ∧ Below w1.heap.size w1 wr
def NqRel (w1 : World) (B : Nat → Nat) (ks : List Nat) (d : Nat) (f : Nat) (t141 t19 : Value) (wr : World) : Prop :=
  ∃ j : Nat, t141 = .int .i64 (j : Nat) ∧ j ≤ ks.length ∧ f = ks.length - j ∧ Below w1.heap.size w1 wr ∧ IRow wr w1.heap.size t19 ((ks.take j).filter fun k => decide (B k = d))

set_option maxRecDepth 100000 in
set_option maxHeartbeats 6400000 in
theorem critical_go (nv cv : Value) (ns : List Nd) (cs : List Int) (m : Int) (hlen : 40 * ns.length ≤ 281474976710656) (hcl : cs.length ≤ 1000000000) (w : World) (hN : NdAt w nv ns) (hC : ZsAt w cv cs) (hm : w.cell? ⟨0, 0, none⟩ = some (.int .i64 m)) (hml : 0 < w.heap.size)
    (hv : validF (grO ns) = 0) (hcn : cs.length = ns.length) (hbad : cs.any badZ = false) (hpos : ns.length ≠ 0) :
    Calls Tryz.prog 27 #[nv, cv] w fun e w' => ∃ sv ss, e = .returned (.tuple #[intV (critF (grO ns) (costN cs)).1, sv]) ∧ StrsAt w' sv ss ∧ ss.map (·.data.toList) = (critF (grO ns) (costN cs)).2 ∧ Below w.heap.size w w' := by
  obtain ⟨nao, ncap, rfl⟩ := hN.sl.form
  obtain ⟨cao, ccap, rfl⟩ := hC.form
  have VA : ∀ W, Below w.heap.size w W → Hid (Calls Tryz.prog 16 #[.slice nao ns.length ncap] W fun e w' => e = .returned (.int .i64 (validF (grO ns) : Nat)) ∧ Below W.heap.size W w') := fun W hW => valid_any _ ns m hlen W (hN.below hW) ((hW.cell (p := ⟨0, 0, none⟩) hml).trans hm) (Nat.lt_of_lt_of_le hml hW.size)
  have CK : ∀ W, Below w.heap.size w W → Hid (Calls Tryz.prog 34 #[.slice nao ns.length ncap] W (CheckPost ns (.slice nao ns.length ncap) W)) := fun W hW => check_any _ ns m hlen W (hN.below hW) ((hW.cell (p := ⟨0, 0, none⟩) hml).trans hm) (Nat.lt_of_lt_of_le hml hW.size)
  have BA : ∀ W, Below w.heap.size w W → Hid (Calls Tryz.prog 55 #[.slice cao cs.length ccap, .func (.func 54) #[] #[]] W fun e w' => e = .returned (.bool (cs.any badZ)) ∧ ∃ q, w' = W.drewN q) := fun W hW => bads_any _ cs hcl W (SlAt.below hC hW)
  rw [hbad] at BA
  rw [hv] at VA
  have hff : formedF (grO ns) = 0 := by
    unfold validF at hv
    by_cases h : formedF (grO ns) = 0
    · exact h
    · rw [if_pos h] at hv; exact absurd hv h
  have HFU : Hid ((ordG (grO ns)).length = (grO ns).length) := by
    have h1 := (ordG_listed (grO ns)).len
    unfold validF at hv
    rw [if_neg (by simp [hff])] at hv
    by_cases h : (ordG (grO ns)).length < (grO ns).length
    · rw [if_pos h] at hv; cases hv
    · unfold Hid; omega
  have hS := formed_sound hff
  have hln : ns.length ≤ 1024 := by have := hS.len; rwa [grO_len] at this
  have HBAD : Hid (∀ c ∈ cs, badZ c = false) := fun c hc => by
    have := List.any_eq_false.1 hbad c hc
    simpa using this
  have HSO := Lib.hid hS
  have HFF := Lib.hid hff
  have HCN := Lib.hid hcn
  have hpi : (((ns.length : Nat) : Int) == 0) = false := by rw [beq_eq_false_iff_ne]; omega
  have hci : (((cs.length : Nat) : Int) != ((ns.length : Nat) : Int)) = false := by rw [hcn]; simp
  have HN := Lib.hid hN
  have HC := Lib.hid hC
  have hmk := run_make_row' (P := Tryz.prog) 40 3 (.int .i64 0) 8 Tryz.underlying40 Tryz.info3 rfl .i64 .i64 ns.length (by omega) (by omega)
  obtain ⟨O, hO⟩ : ∃ O, O = Obj.cells (madeCells #[.int .i64 0] ns.length) 3 (0, 0) := ⟨_, rfl⟩
  have hmk2 : ∀ W : World, (Instr.makeSlice 40 (.int .i64 (ns.length : Int)) (.int .i64 (ns.length : Int))).run Tryz.prog W = .ok (.slice (some ⟨W.heap.size, 0, none⟩) ns.length ns.length) (W.alloc O) := fun W => by rw [hO]; exact hmk W
  have HO := Lib.hid hO
  clear hmk hO
  have HB0 : Hid (Below w.heap.size w (w.alloc (.cells #[.slice cao cs.length ccap] 40 (0, 0)))) := (Below.refl _ w).alloc (Nat.le_refl _) _
  clear hN hC hm hv hbad hcn hff hS
  refine (callsIn_wide (n := 10)).1 (callsIn_of_wp_marks Tryz.func27 rfl trivial (wpIn_wide.2 ?_))
  simp only [Tryz.ntmps27, List.size_toArray, List.length_cons, List.length_nil, Nat.reduceAdd, Nat.reduceSub, Array.replicate_succ, Array.replicate_zero, List.push_toArray, List.append_toArray, List.nil_append, List.cons_append]
  go_wp2_with fail
  refine (VA _ HB0.out).out.mono ?_
  rintro e w1 ⟨rfl, hb⟩
  have HB1 := Lib.hid (HB0.out.trans (hb.mono HB0.out.size))
  have hs01 := HB1.out.size
  have hcbx : w1.cell? ⟨w.heap.size, 0, none⟩ = some (.slice cao cs.length ccap) := (hb.cell (p := ⟨w.heap.size, 0, none⟩) (by simp)).trans (by rw [cell_of_blk (hp_new rfl)]; rfl)
  have hwl : w.heap.size < w1.heap.size := by have := hb.size; simp at this; omega
  clear hb VA
  go_wp2_with fail
  refine (BA _ HB1.out).out.mono ?_
  rintro e w2 ⟨rfl, q, hq⟩
  have HB2 : Hid (Below w.heap.size w w2) := by unfold Hid; rw [hq]; exact ((Kp.of_below (X := fun _ => False) HB1.out).drewN q).below (Nat.le_refl _) (fun _ _ => id)
  have hcb2 : w2.cell? ⟨w.heap.size, 0, none⟩ = some (.slice cao cs.length ccap) := by rw [hq]; exact hcbx
  have hwl2 : w.heap.size < w2.heap.size := by rw [hq]; exact hwl
  clear hcbx hwl HB1 hs01 BA hq
  go_wp2_with fail
  refine (CK _ HB2.out).out.mono ?_
  rintro e w3 ⟨p, rfl, hb3, h0, _⟩
  obtain ⟨g, rfl, hnet⟩ := h0 HFF.out
  rw [HFF.out]
  have HB3 := Lib.hid (HB2.out.trans (hb3.mono HB2.out.size))
  have hcb3 : w3.cell? ⟨w.heap.size, 0, none⟩ = some (.slice cao cs.length ccap) := (hb3.cell (p := ⟨w.heap.size, 0, none⟩) hwl2).trans hcb2
  have hwl3 : w.heap.size < w3.heap.size := Nat.lt_of_lt_of_le hwl2 hb3.size
  have HNET := Lib.hid hnet
  have OR : ∀ W, Below w3.heap.size w3 W → Hid (Calls Tryz.prog 35 #[.pointer (some ⟨g, 0, none⟩)] W fun e w' => ∃ v, e = .returned v ∧ IRow w' W.heap.size v (ordG (grO ns)) ∧ Below W.heap.size W w') := fun W hW => order_any g _ ns W (hnet.below hW) HSO.out
  have hs03 := HB3.out.size
  clear hb3 h0 hnet hcb2 hwl2 CK HB2
  have hT7 : Below w3.heap.size w3 (w3.alloc (.cells #[.pointer (some ⟨g, 0, none⟩)] 55)) := (Below.refl _ _).alloc (Nat.le_refl _) _
  have hT8 : Below w3.heap.size w3 ((w3.alloc (.cells #[.pointer (some ⟨g, 0, none⟩)] 55)).alloc O) := hT7.alloc hT7.size _
  have hT9 : Below w3.heap.size w3 (((w3.alloc (.cells #[.pointer (some ⟨g, 0, none⟩)] 55)).alloc O).alloc (.cells #[.slice (some ⟨w3.heap.size + 1, 0, none⟩) ns.length ns.length] 40)) := hT8.alloc hT8.size _
  have OR9 := OR _ hT9
  have hb9 : (((w3.alloc (.cells #[.pointer (some ⟨g, 0, none⟩)] 55)).alloc O).alloc (.cells #[.slice (some ⟨w3.heap.size + 1, 0, none⟩) ns.length ns.length] 40)).rowIs (w3.heap.size + 1) 3 ns.length (oV fun _ => 0) := by
    refine World.rowIs.alloc ?_ _
    rw [HO.out, show w3.heap.size + 1 = (w3.alloc (.cells #[.pointer (some ⟨g, 0, none⟩)] 55)).heap.size by simp]
    exact World.rowIs_made _ (.int .i64 0) ns.length 3
  have hc9 : (((w3.alloc (.cells #[.pointer (some ⟨g, 0, none⟩)] 55)).alloc O).alloc (.cells #[.slice (some ⟨w3.heap.size + 1, 0, none⟩) ns.length ns.length] 40)).cell? ⟨w3.heap.size, 0, none⟩ = some (.pointer (some ⟨g, 0, none⟩)) := by
    rw [cell_of_blk ((hp_old (by simp; omega)).trans ((hp_old (by simp)).trans (hp_new rfl)))]; rfl
  have hd9 : (((w3.alloc (.cells #[.pointer (some ⟨g, 0, none⟩)] 55)).alloc O).alloc (.cells #[.slice (some ⟨w3.heap.size + 1, 0, none⟩) ns.length ns.length] 40)).cell? ⟨w3.heap.size + 1 + 1, 0, none⟩ = some (.slice (some ⟨w3.heap.size + 1, 0, none⟩) ns.length ns.length) := by
    rw [cell_of_blk (hp_new (by simp))]; rfl
  have hsz9 : (((w3.alloc (.cells #[.pointer (some ⟨g, 0, none⟩)] 55)).alloc O).alloc (.cells #[.slice (some ⟨w3.heap.size + 1, 0, none⟩) ns.length ns.length] 40)).heap.size = w3.heap.size + 3 := by simp
  go_wp2_with fail
  clear hT7 hT8 OR
  generalize (((w3.alloc (.cells #[.pointer (some ⟨g, 0, none⟩)] 55)).alloc O).alloc (.cells #[.slice (some ⟨w3.heap.size + 1, 0, none⟩) ns.length ns.length] 40)) = w4 at *
  refine OR9.out.mono ?_
  rintro e w5 ⟨lv, rfl, hlv, hb5⟩
  rw [hsz9] at hlv
  have hs45 := hb5.size
  have hb35 : Below w3.heap.size w3 w5 := hT9.trans (hb5.mono hT9.size)
  obtain ⟨bm, av, bv, hgc, hgn, _, _, ⟨mb, V, rfl, hrV, hV⟩⟩ := HNET.out
  have HG := Lib.hid hgc
  have HGN := Lib.hid hgn
  have HRV := Lib.hid hrV
  have HVV := Lib.hid hV
  clear hgc hgn hrV hV
  have EN5 : Hid (w5.cell? ⟨w3.heap.size, 0, none⟩ = some (.pointer (some ⟨g, 0, none⟩)) ∧ w5.cell? ⟨w3.heap.size + 1 + 1, 0, none⟩ = some (.slice (some ⟨w3.heap.size + 1, 0, none⟩) ns.length ns.length)) := ⟨(hb5.cell (p := ⟨w3.heap.size, 0, none⟩) (by show _ < w4.heap.size; rw [hsz9]; simp)).trans hc9, (hb5.cell (p := ⟨w3.heap.size + 1 + 1, 0, none⟩) (by show _ < w4.heap.size; rw [hsz9]; simp)).trans hd9⟩
  have HR5 : Hid (w5.rowIs (w3.heap.size + 1) 3 ns.length (oV fun _ => 0)) := hb9.of_block (hb5.block _ hb9.lt)
  have HB5 := Lib.hid (HB3.out.trans (hb35.mono hs03))
  have hs35 : w3.heap.size + 3 ≤ w5.heap.size := by rw [← hsz9]; exact hs45
  have HNL := Lib.hid (grO_len ns)
  have hol : (ordG (grO ns)).length = ns.length := by rw [HFU.out, HNL.out]
  obtain ⟨lb, lcap, rfl, hlb, hlb2⟩ := IRow.some hlv (by intro h; rw [h] at hol; exact hpos hol.symm)
  rw [hol]
  have HLI := Lib.hid hlv.at
  have HOL := Lib.hid hol
  have HB35 := Lib.hid hb35
  have HCB3 := Lib.hid hcb3
  clear hb5 hb35 hb9 hc9 hd9 hcb3 hT9 OR9 hs45 hlv hol
  go_wp2_with fail
  refine (back_any _ _ _ _).mono ?_
  rintro e w6' ⟨rfl, rfl⟩
  go_wp2_with fail
  have hs56 : (w5.alloc (.cells #[.slice (some ⟨lb, 0, none⟩) ns.length lcap] 40)).heap.size = w5.heap.size + 1 := by simp
  have hb56 : Below w5.heap.size w5 (w5.alloc (.cells #[.slice (some ⟨lb, 0, none⟩) ns.length lcap] 40)) := (Below.refl _ _).alloc (Nat.le_refl _) _
  have hcl6 : (w5.alloc (.cells #[.slice (some ⟨lb, 0, none⟩) ns.length lcap] 40)).cell? ⟨w5.heap.size, 0, none⟩ = some (.slice (some ⟨lb, 0, none⟩) ns.length lcap) := by rw [cell_of_blk (hp_new rfl)]; rfl
  have EN6 : Hid (∀ W, Kp (w5.heap.size + 1) (· = w3.heap.size + 1) (w5.alloc (.cells #[.slice (some ⟨lb, 0, none⟩) ns.length lcap] 40)) W → CrAt W (.slice nao ns.length ncap) (.slice cao cs.length ccap) ns cs w.heap.size w3.heap.size (w3.heap.size + 1 + 1) (w3.heap.size + 1) g mb V) := by
    intro W hW
    have hB3W : Below w3.heap.size w3 W := (HB35.out.trans (hb56.mono (by omega))).trans (hW.below (by omega) (fun k hk h => by omega))
    have hgl := (Array.getElem?_eq_some_iff.1 HG.out).1
    have hgb := (hB3W.block g hgl).trans HG.out
    refine ⟨HGN.out.below hB3W, by rw [cell_of_blk hgb]; rfl, by rw [cell_of_blk hgb]; rfl, Nat.lt_of_lt_of_le hgl hB3W.size, HRV.out.of_block (hB3W.block _ HRV.out.lt), fun r hr => (HVV.out r hr).below hB3W, HC.out.below (HB3.out.trans (hB3W.mono hs03)), (hB3W.cell (p := ⟨w.heap.size, 0, none⟩) hwl3).trans HCB3.out, ?_, ?_⟩
    · exact (World.cell?_of_block (a := ⟨w3.heap.size, 0, none⟩) (hW.block w3.heap.size (by omega) (by omega))).trans ((hb56.cell (p := ⟨w3.heap.size, 0, none⟩) (by show w3.heap.size < w5.heap.size; omega)).trans EN5.out.1)
    · exact (World.cell?_of_block (a := ⟨w3.heap.size + 1 + 1, 0, none⟩) (hW.block (w3.heap.size + 1 + 1) (by omega) (by omega))).trans ((hb56.cell (p := ⟨w3.heap.size + 1 + 1, 0, none⟩) (by show w3.heap.size + 1 + 1 < w5.heap.size; omega)).trans EN5.out.2)
  have HR6 : Hid ((w5.alloc (.cells #[.slice (some ⟨lb, 0, none⟩) ns.length lcap] 40)).rowIs (w3.heap.size + 1) 3 ns.length (oV fun _ => 0)) := HR5.out.alloc _
  have HLI6 : Hid (∀ j, j < ns.length → (w5.alloc (.cells #[.slice (some ⟨lb, 0, none⟩) ns.length lcap] 40)).cell? ⟨lb, 0 + j, none⟩ = some (intV ((ordG (grO ns)).getD j 0))) := by
    intro j hj
    obtain ⟨b', off', e, h1, h2⟩ := IntsAt.at1 (SlAt.below HLI.out hb56) (k := j) (by rw [HOL.out]; exact hj)
    injection e with e
    injection e with e1 e2
    subst e1 e2
    exact h2
  have HB6 : Hid (Below w.heap.size w (w5.alloc (.cells #[.slice (some ⟨lb, 0, none⟩) ns.length lcap] 40))) := HB5.out.trans (hb56.mono HB5.out.size)
  have HCL6 := Lib.hid hcl6
  have hs6 : w5.heap.size + 1 = (w5.alloc (.cells #[.slice (some ⟨lb, 0, none⟩) ns.length lcap] 40)).heap.size := by simp
  have hsB : w5.heap.size < (w5.alloc (.cells #[.slice (some ⟨lb, 0, none⟩) ns.length lcap] 40)).heap.size := by simp
  rw [hs6] at EN6
  clear hs6 hs56 hb56 hcl6 EN5 HR5 HB5 HNET HC HG HGN HRV HVV HCB3 HB35 HB3 HLI
  generalize hW6 : (w5.alloc (.cells #[.slice (some ⟨lb, 0, none⟩) ns.length lcap] 40)) = w6 at *
  clear hW6
  generalize w5.heap.size = Bs at *
  generalize w3.heap.size = tg at *
  have HCB : Hid (∀ k, costN cs k ≤ 1125899906842624) := by
    intro k
    unfold costN
    by_cases h : k < cs.length
    · have h2 := HBAD.out cs[k] (List.getElem_mem h)
      unfold badZ at h2
      simp only [Bool.or_eq_false_iff, decide_eq_false_iff_not] at h2
      rw [List.getD, List.getElem?_eq_getElem h]
      simp only [Option.getD_some]
      omega
    · rw [List.getD, List.getElem?_eq_none (by omega)]
      simp
  clear hmk2 hsz9
  obtain ⟨zf, hzf⟩ : ∃ zf : Nat → { k : Nat // k < ns.length }, ∀ j, j < ns.length → (zf j).1 = (ordG (grO ns)).getD j 0 :=
    ⟨fun j => if h : (ordG (grO ns)).getD j 0 < ns.length then ⟨_, h⟩ else ⟨0, by omega⟩, fun j hj => by
      have h1 := (ordG_listed (grO ns)).lt _ (getD_at (show j < (ordG (grO ns)).length by rw [HOL.out]; exact hj))
      rw [HNL.out] at h1
      simp only [h1, dif_pos]⟩
  have HZF := Lib.hid hzf
  clear hzf
  refine wpIn_wide.1 (wpIn_rangeFunc_ownF (F := Fence.wide) (n := 10) (α := BX ns.length) rfl (by omega) (gf := 81) (lb := #[.pointer (some ⟨Bs, 0, none⟩)]) rfl trivial (enters_of Tryz.func81 (by kernel_rfl) rfl)
    (encs := bxV) (Kp := Kp w6.heap.size (· = tg + 1)) (S := fun xs => xs = upto (bwd zf ns.length) ns.length) (Sp := fun pre => ∃ k, k ≤ ns.length ∧ pre = upto (bwd zf ns.length) k) (N := ns.length) (w0 := w6) ?hseq
    (fun h k => h.trans k) ?hkb (Below.refl _ _) (fun _ => rfl)
    (fun pre W => Kp w6.heap.size (· = tg + 1) w6 W ∧ W.rowIs (tg + 1) 3 ns.length (oV (critTo (grO ns) (costN cs) (pre.map fun x => x.2.1))))
    (fun _ _ _ => False) ?hI (fun _ _ _ _ _ hs _ _ => hs) ⟨Kp.refl _ _ _, HR6.out⟩ ?a1 ?assign ?body ?done ?stop)
  case assign =>
    intro l x W K hK
    gi_wp2
    exact hK
  case hseq =>
    intro l J Jx W hB _ _ hY h0
    exact back1_in ns.length Fence.wide 9 trivial rfl (by omega) l Bs w6.heap.size (tg + 1) lb 0 ns.length lcap zf (by omega) (by omega) (by omega) (by omega) (by omega) J Jx hY W ((hB.cell (p := ⟨Bs, 0, none⟩) (by exact hsB)).trans HCL6.out) (fun j hj => by
      rw [HZF.out j hj]
      exact (hB.cell (p := ⟨lb, 0 + j, none⟩) (by show lb < w6.heap.size; omega)).trans (HLI6.out j hj)) h0
  case hkb =>
    intro W l o o' hl ho _ _
    have h1 := (Array.getElem?_eq_some_iff.1 ho).1
    exact (Kp.refl _ _ W).grown (grownBy_putObj' W l o') (by omega) (fun b e => by cases e; exact .inl hl)
  case hI =>
    intro xs W W' row hs hg hr
    refine ⟨hs.1.grown hg hs.1.size (fun b e => .inl (hr b e).1), hs.2.of_block (hg.block _ hs.2.lt (fun e => ?_))⟩
    have := (hr _ e.symm).1
    omega
  case stop =>
    intro D c pre W _ _ h _
    exact h.elim
  case body =>
    rintro l pre ⟨ix, i, hi⟩ W ⟨hk, hr⟩ hpl
    have EW := EN6.out W hk
    have hc7 := EW.tg
    have hc9 := EW.tb
    have hc3 := EW.cx
    have hg3 := EW.g3
    have hmi := EW.row.cell hi
    have hvi := EW.ints i hi
    obtain ⟨xao, xcap, hxe⟩ := hvi.form
    have HXE := Lib.hid hxe
    rw [hxe] at hmi
    have hii : (i : Int) < (ns.length : Int) := by omega
    have hbl := be_len HSO.out i
    have HK := Lib.hid hk
    have HR := Lib.hid hr
    have hmx : Tryz.prog.follows .mixedOrders = true := by kernel_rfl
    have hd : 1 ≤ 10 - 1 - 1 := by omega
    have HB := Lib.hid (critTo_bound (G := grO ns) HCB.out (pre.map fun x => x.2.1))
    have hpl2 : (pre.map fun x => x.2.1).length ≤ 1024 := by rw [List.length_map]; omega
    clear hk hr hxe hvi EW
    generalize hBB : critTo (grO ns) (costN cs) (pre.map fun x => x.2.1) = B at *
    have HBB := Lib.hid hBB
    clear hBB
    have HBL : Hid (∀ j, B j ≤ 1024 * 1125899906842624) := fun j => Nat.le_trans (HB.out j) (Nat.mul_le_mul_right _ hpl2)
    clear HB hpl2
    gi_wp2
    gi_loopw [63] (CrIn W w6.heap.size ns.length (tg + 1) i (be (grO ns) i) B) (fun t _ => (be (grO ns) i).length - (intOf t).toNat)
    case atStart => exact ⟨0, rfl, Nat.zero_le _, Kp.refl _ _ _, KeepsOthers.refl _, HR.out⟩
    case round =>
      obtain ⟨j, rfl, hj, hkr, hko, hrr⟩ := hrel
      have EW := EN6.out wr (HK.out.trans hkr)
      have hc9 := EW.tb
      have hc3 := EW.cx
      have hvi := EW.ints i hi
      rw [HXE.out] at hvi
      have HKR := Lib.hid hkr
      have HKO := Lib.hid hko
      have HRR := Lib.hid hrr
      have hci' := hrr.cell hi
      have hfi := hrr.frozen i
      by_cases hlt : j < (be (grO ns) i).length
      · have hji : (j : Int) < ((be (grO ns) i).length : Int) := by omega
        obtain ⟨xb, xoff, rfl, hxb, hxc⟩ := IntsAt.at1 hvi hlt
        have hkn := be_lt (getD_at hlt)
        rw [HNL.out] at hkn
        have HFO := Lib.hid (innQ_fold i hlt B)
        generalize (be (grO ns) i).getD j 0 = k at *
        have hki : (k : Int) < (ns.length : Int) := by omega
        have hck := hrr.cell hkn
        generalize ((be (grO ns) i).take j).foldl (innQ i) B = Q at *
        clear hkr hko hrr hvi EW
        gi_wp2
        refine wpIn_region_still_tail 12 (by kernel_rfl) (by kernel_rfl) (by kernel_rfl) ?_
        simp only [List.take_succ_cons, List.take_zero, List.drop_succ_cons, List.drop_zero]
        repeat still_step
        try refine wpStill_nil ?_
        change wpListIn _ _ _ _ _ _ _ (World.drew _)
        gi_wp2
        have hsame : ((wr.setCell ⟨tg + 1, i, none⟩ (.int .i64 (max (Q i : Int) (Q k : Int)))).drew).rowIs (tg + 1) 3 ns.length (oV ((List.take (j + 1) (be (grO ns) i)).foldl (innQ i) B)) := by
          rw [HFO.out]
          refine ((HRR.out.set i (.int .i64 (max (Q i : Int) (Q k : Int)))).congr fun x _ => ?_).of_block rfl
          show (if x = i then _ else _) = intV (innQ i Q k x)
          unfold innQ
          by_cases hx : x = i
          · rw [if_pos hx, if_pos hx]
            show Value.int .i64 _ = Value.int .i64 _
            congr 1
            omega
          · rw [if_neg hx, if_neg hx]
        exact ⟨⟨j + 1, by go_num, hlt, (HKR.out.setCell _ _ _ (.inr rfl)).drew, (HKO.out.trans (KeepsOthers.setCell _ _ _)).trans (KeepsOthers.drew _), hsame⟩, by simp [intOf]; omega⟩
      · have hje : j = (be (grO ns) i).length := by omega
        subst hje
        rw [List.take_length] at hrr hci' HRR
        have hii2 : (i : Int) < (cs.length : Int) := by rw [HCN.out]; exact hii
        obtain ⟨cb, coff, rfl, hcb, hcc⟩ := SlAt.at_ EW.cost (k := i) (by rw [HCN.out]; exact hi)
        have hcc2 : wr.cell? ⟨cb, coff + i, none⟩ = some (intV (costN cs i)) := by
          have h0 := hcc 0 _ rfl
          simp only [Nat.mul_one, Nat.add_zero] at h0
          rw [h0]
          have hl : i < cs.length := by rw [HCN.out]; exact hi
          have h2 := HBAD.out cs[i] (List.getElem_mem hl)
          unfold badZ at h2
          simp only [Bool.or_eq_false_iff, decide_eq_false_iff_not] at h2
          unfold costN
          rw [List.getD, List.getElem?_eq_getElem hl]
          simp only [Option.getD_some]
          show some (Value.int .i64 _) = some (Value.int .i64 _)
          congr 2
          omega
        have hb2 : costN cs i ≤ 1125899906842624 := HCB.out i
        have hb1 : ((be (grO ns) i).foldl (innQ i) B) i ≤ 1152921504606846976 := foldQ_le i (be (grO ns) i) B HBL.out i
        have HVQ : Hid (visQ (grO ns) (costN cs) B i = fun x => if x = i then ((be (grO ns) i).foldl (innQ i) B) i + costN cs i else ((be (grO ns) i).foldl (innQ i) B) x) := rfl
        generalize (be (grO ns) i).foldl (innQ i) B = Q at *
        clear hcc hkr hko hrr hvi EW hmi
        generalize costN cs i = ci at *
        gi_wp2
        refine wpIn_region_still_tail 10 (by kernel_rfl) (by kernel_rfl) (by kernel_rfl) ?_
        simp only [List.take_succ_cons, List.take_zero, List.drop_succ_cons, List.drop_zero]
        repeat still_step
        try refine wpStill_nil ?_
        change wpListIn _ _ _ _ _ _ _ (World.drew _)
        gi_wp2
        refine ⟨((HKO.out.trans (KeepsOthers.setCell _ _ _)).trans (KeepsOthers.drew _)), (HKR.out.setCell _ _ _ (.inr rfl)).drew, ((HK.out.trans HKR.out).setCell _ _ _ (.inr rfl)).drew, ?_⟩
        rw [List.map_append, List.map_cons, List.map_nil, critTo_snoc, HBB.out]
        show World.rowIs _ _ _ _ (oV (visQ (grO ns) (costN cs) B i))
        rw [HVQ.out]
        refine ((HRR.out.set i (.int .i64 ((Q i : Int) + (ci : Int)))).congr fun x _ => ?_).of_block rfl
        show (if x = i then _ else _) = intV (if x = i then _ else _)
        by_cases hx : x = i
        · rw [if_pos hx, if_pos hx]
          show Value.int .i64 _ = Value.int .i64 _
          congr 1
        · rw [if_neg hx, if_neg hx]
  case done =>
    rintro D xs W hD rfl ⟨hk, hr⟩ hKD
    rw [bwd_rev HOL.out HZF.out] at hr
    have HW : Hid (∀ W1, Below W.heap.size W W1 → CrAt W1 (.slice nao ns.length ncap) (.slice cao cs.length ccap) ns cs w.heap.size tg (tg + 1 + 1) (tg + 1) g mb V ∧ W1.rowIs (tg + 1) 3 ns.length (oV (bestQ (grO ns) (costN cs)))) := fun W1 h1 =>
      ⟨EN6.out W1 (hk.trans (Kp.of_below (h1.mono hk.size))), hr.of_block (h1.block _ hr.lt)⟩
    have HBW : Hid (Below w.heap.size w W) := HB6.out.trans (hk.below HB6.out.size (fun k hk2 h => by omega))
    have hDl := (Array.getElem?_eq_some_iff.1 hKD).1
    have HKD := Lib.hid hKD
    have hnp : 0 < ns.length := by omega
    have HQE := Lib.hid (fun i h => crit_eq HSO.out HFU.out (costN cs) (j := i) h)
    have HNX := Lib.hid (fun i h hne => nxQ_some HSO.out HFU.out (C := costN cs) (i := i) h hne)
    obtain ⟨s, hs1, hs2, hs3⟩ := startQ_some (G := grO ns) (by rw [HNL.out]; exact hpos) (bestQ (grO ns) (costN cs))
    rw [HNL.out] at hs2
    have HS1 := Lib.hid hs1
    have HQB : Hid (∀ j, bestQ (grO ns) (costN cs) j ≤ 1024 * 1125899906842624) := fun j => Nat.le_trans (critTo_bound (G := grO ns) HCB.out _ j) (Nat.mul_le_mul_right _ (by rw [List.length_reverse, HOL.out]; exact hln))
    obtain ⟨E0, R0⟩ := HW.out W (Below.refl _ _)
    have hc9 := E0.tb
    have MX := Lib.hid (Tryz.slices_Max_int (tg + 1) 0 ns.length ns.length ((List.range ns.length).map fun k => ((bestQ (grO ns) (costN cs) k : Nat) : Int)) W hnp (by simp) (by omega) (fun j hj => by
      rw [List.length_map, List.length_range] at hj
      rw [Nat.zero_add, R0.cell hj, List.getD, List.getElem?_eq_getElem (by simpa using hj)]
      simp))
    rw [maxZ _ hnp] at MX
    have HCF : Hid (critF (grO ns) (costN cs) = (maxQ (bestQ (grO ns) (costN cs)) (List.range ns.length), pathQ (grO ns) (bestQ (grO ns) (costN cs)) (costN cs) ns.length s)) := by unfold Hid critF mostQ; rw [hs1, HNL.out]
    have HSQ : Hid (startQ (grO ns) (bestQ (grO ns) (costN cs)) = (List.range ns.length).filter fun k => decide (bestQ (grO ns) (costN cs) k = maxQ (bestQ (grO ns) (costN cs)) (List.range ns.length))) := by unfold Hid startQ mostQ; rw [HNL.out]
    obtain ⟨i3, hi3⟩ := Tryz.info3'
    obtain ⟨i9, hi9⟩ := Tryz.info9'
    have HI := Lib.hid hi3
    have HI9 := Lib.hid hi9
    obtain ⟨w7, hmk7, hrow7, hgr7⟩ := run_make_own W W.heap.size 40 3 i3 (.int .i64 0) 1 Tryz.underlying40 hi3.1 hi3.2.1 hi3.2.2.1 .i64 .i64 ns.length (by rw [hi3.2.2.2]; omega) (by unfold maxLen; omega) (Nat.le_refl _)
    have HR7 := Lib.hid hrow7
    have HB7 : Hid (Below W.heap.size W w7) := (Below.refl _ W).grown hgr7 (Nat.le_refl _) (fun k e => by cases e)
    have HG7 := Lib.hid hgr7
    clear hr hk hKD R0 E0 hi3 hi9 hrow7 hgr7 hs1 hs3
    generalize maxQ (bestQ (grO ns) (costN cs)) (List.range ns.length) = M at *
    generalize bestQ (grO ns) (costN cs) = B at *
    go_wp2_with fail
    refine MX.out.mono ?_
    rintro e W ⟨rfl, rfl⟩
    go_upto_block 4 with fail
    clear hmk7
    go_cut [15, 16] from 97 to 110 (fun s15 s16 wx => Below W.heap.size W wx ∧ IRow wx W.heap.size s15 ((List.range ns.length).filter fun k => decide (B k = M)))
    case first =>
      go_wp2_with fail
      go_loopg [97, 15] ns.length (StRel W ns.length M B)
      case atStart => exact ⟨0, rfl, Nat.zero_le _, rfl, HB7.out, HR7.out⟩
      case round =>
        obtain ⟨k, rfl, hk, rfl, hb, hr⟩ := hrel
        obtain ⟨eao, ecap, rfl⟩ := hr.form
        have HB := Lib.hid hb
        have HR := Lib.hid hr
        obtain ⟨E, RB⟩ := HW.out wr hb
        have hc9 := E.tb
        have hfl : ((List.range k).filter fun j => decide (B j = M)).length ≤ 1024 := by
          have h1 := List.length_filter_le (fun j => decide (B j = M)) (List.range k)
          rw [List.length_range] at h1
          omega
        by_cases hlt : k < ns.length
        · have hki : (k : Int) < (ns.length : Int) := by omega
          have hck : wr.cell? ⟨tg + 1, k, none⟩ = some (intV (B k)) := RB.cell hlt
          have HSU := Lib.hid (st_succ B M k)
          clear E RB hb hr
          by_cases hm : B k = M
          · rw [hm, if_pos rfl] at HSU
            rw [hm] at hck
            clear hm
            generalize ((List.range k).filter fun j => decide (B j = M)) = ff at *
            as_aux_lemma =>
            go_wp2_with (at_builtin; refine wpList_append2 rfl _ _ 40 rfl W.heap.size 3 i3 (.int .i64 0) 1 8 Tryz.underlying40 HI.out rfl (by decide) _ _ _ rfl (World.ownsRow.alloc HR.out _) ⟨wr.heap.size, 0, none⟩ 1 1 [intV k] rfl rfl (cells_newAt rfl _ 3 (0, 0)) rfl (by unfold maxLen; omega) (by omega) (by have := HB.out.size; simp; omega) ?_)
            intro v' w11 hown hgrow hwh
            obtain ⟨ao2, cap2, rfl⟩ := ownsRow_form hown
            have HB11 := Lib.hid ((HB.out.alloc HB.out.size (.cells [intV k].toArray 3 (0, 0))).grown hgrow (by have := HB.out.size; simp; omega) fun b hb => (HR.out.lt b hb).1)
            have HR11 := Lib.hid (IRow.add hown)
            clear hown hgrow hwh
            go_wp2_with fail
            go_roundg (ns.length - (k + 1))
            case measure => omega
            case rel => exact ⟨k + 1, by go_num, by omega, rfl, HB11.out, by rw [HSU.out]; exact HR11.out⟩
          · have hne2 : (((B k : Nat) : Int) == ((M : Nat) : Int)) = false := by rw [beq_eq_false_iff_ne]; omega
            rw [if_neg hm, List.append_nil] at HSU
            clear hm
            as_aux_lemma =>
            go_wp2_with fail
            go_roundg (ns.length - (k + 1))
            case measure => omega
            case rel => exact ⟨k + 1, by go_num, by omega, rfl, HB.out, by rw [HSU.out]; exact HR.out⟩
        · have hke : k = ns.length := by omega
          subst hke
          clear E RB hb hr
          go_wp2_with fail
          go_meet
          exact ⟨HB.out, HR.out⟩
    case rest =>
      obtain ⟨hb8, hr8⟩ := hcut
      generalize wc = w8 at *
      obtain ⟨eao, ecap, rfl⟩ := hr8.form
      obtain ⟨E8, R8⟩ := HW.out w8 hb8
      have hc7 := E8.tg
      have HSZ := Lib.hid (sizes_of HSO.out)
      have hfl : ((List.range ns.length).filter fun j => decide (B j = M)).length ≤ 1024 := by
        have h1 := List.length_filter_le (fun j => decide (B j = M)) (List.range ns.length)
        rw [List.length_range] at h1
        omega
      have FA := first_any g _ _ ns ((List.range ns.length).filter fun k => decide (B k = M)) (fun k hk => List.mem_range.1 (List.mem_filter.1 hk).1) HSZ.out (by omega) w8 E8.nd E8.g0 E8.gl hr8.at
      rw [← HSQ.out, HS1.out] at FA
      simp only [optI] at FA
      rw [HSQ.out] at FA
      have FA := Lib.hid FA
      have HB8 := Lib.hid hb8
      clear E8 R8 hr8 hb8 HS1 HSQ HR7 HG7 HB7
      generalize ((List.range ns.length).filter fun k => decide (B k = M)) = fl at *
      go_wp2_with fail
      refine FA.out.mono ?_
      rintro e w9 ⟨rfl, hu9⟩
      have HB9 := Lib.hid (HB8.out.trans (hu9.b.mono HB8.out.size))
      have hs9 := HB9.out.size
      clear hu9 FA hc7 HB8
      go_wp2_with fail
      go_loopg [17, 18] ns.length (PaRel w9 (grO ns) ns.length s B (costN cs))
      case atStart => exact ⟨s, [], rfl, hs2, rfl, by simp, by simp, World.ownsRow_nil _ _ _ _, Below.refl _ _⟩
      case round =>
        obtain ⟨i, acc, rfl, hi, rfl, hal, hpath, hrow, hb⟩ := hrel
        obtain ⟨aao, acap, rfl⟩ := ownsRow_form hrow
        have hidx : (ordG (grO ns)).idxOf i < ns.length := by
          have := List.idxOf_lt_length_of_mem (ord_all HFU.out (show i < (grO ns).length by rw [HNL.out]; exact hi))
          rwa [HOL.out] at this
        obtain ⟨f', hf'⟩ : ∃ f', ns.length - acc.length = f' + 1 := ⟨ns.length - acc.length - 1, by omega⟩
        rw [hf'] at hpath
        have HFE := Lib.hid hf'
        have HRO := Lib.hid hrow
        have HB := Lib.hid hb
        have HPA := Lib.hid hpath
        have HAL := Lib.hid hal
        have hal2 : acc.length ≤ 1024 := by omega
        have HBr := Lib.hid (HB9.out.trans (hb.mono hs9))
        obtain ⟨Er, Rr⟩ := HW.out wr HBr.out
        obtain ⟨nb, noff, e1, hnb, hn0, _, _⟩ := Er.nd.at2 hi
        subst e1
        have hii : (i : Int) < (ns.length : Int) := by omega
        have HIX := Lib.hid (grO_id ns hi)
        obtain ⟨cb, coff, e2, hcb, hcc⟩ := SlAt.at_ Er.cost (k := i) (by rw [HCN.out]; exact hi)
        subst e2
        clear hrow hb hpath hal hidx Er Rr hcc hf'
        generalize (ns.getD i default).id = x at *
        go_wp2_with (at_builtin; refine wpList_append2 rfl _ _ 35 rfl w9.heap.size 9 i9 (.string ByteArray.empty) 1 16 Tryz.underlying35 HI9.out rfl (by decide) _ _ _ rfl (HRO.out.alloc _) ⟨wr.heap.size, 0, none⟩ 1 1 [.string x] rfl rfl (cells_newAt rfl _ 9 (0, 0)) rfl (by unfold maxLen; omega) (by omega) (by have := HB.out.size; simp; omega) ?_)
        intro v' w10 hown hgrow hwh
        obtain ⟨ao', cap', rfl⟩ := ownsRow_form hown
        have HOWN : Hid (w10.ownsRow w9.heap.size 9 1 (.slice ao' (acc.length + 1) cap') (acc ++ [x]).length ((acc ++ [x]).map Value.string)) := by
          unfold Hid
          simpa using hown
        have HB10 := Lib.hid ((HB.out.alloc HB.out.size (.cells [Value.string x].toArray 9 (0, 0))).grown hgrow (by have := HB.out.size; simp; omega) (fun j hj => (HRO.out.lt j hj).1))
        have HBW10 := Lib.hid (HB9.out.trans (HB10.out.mono hs9))
        obtain ⟨E10, R10⟩ := HW.out w10 HBW10.out
        have hc9b := E10.tb
        have hc3 := E10.cx
        have hci : w10.cell? ⟨tg + 1, i, none⟩ = some (intV (B i)) := R10.cell hi
        have hcc2 : w10.cell? ⟨cb, coff + i, none⟩ = some (intV (costN cs i)) := by
          obtain ⟨cb', coff', e2, _, hcc⟩ := SlAt.at_ E10.cost (k := i) (by rw [HCN.out]; exact hi)
          injection e2 with e2
          injection e2 with e3 e4
          subst e3 e4
          have h0 := hcc 0 _ rfl
          simp only [Nat.mul_one, Nat.add_zero] at h0
          rw [h0]
          have hl : i < cs.length := by rw [HCN.out]; exact hi
          have h2 := HBAD.out cs[i] (List.getElem_mem hl)
          unfold badZ at h2
          simp only [Bool.or_eq_false_iff, decide_eq_false_iff_not] at h2
          unfold costN
          rw [List.getD, List.getElem?_eq_getElem hl]
          simp only [Option.getD_some]
          show some (Value.int .i64 _) = some (Value.int .i64 _)
          congr 2
          omega
        have hii2 : (i : Int) < (cs.length : Int) := by rw [HCN.out]; exact hii
        clear hown hgrow hwh hn0 hnb HRO HB HBr E10 R10
        by_cases hq : B i = costN cs i
        · have HFIN : Hid ((M, (acc ++ [x]).map (·.data.toList)) = critF (grO ns) (costN cs)) := by
            unfold Hid
            rw [HCF.out, ← HPA.out, List.map_append, pathQ, if_pos hq, HIX.out]
            rfl
          rw [← hq] at hcc2
          have hK10 : w10.heap[D]? = some (.deferred (some [])) := (HBW10.out.block D hDl).trans HKD.out
          have HK10 := Lib.hid hK10
          clear hq hK10
          go_upto_region 25 with fail
          go_quiet (fail)
          rename_i nq
          have HBF : Hid (Below w.heap.size w (w10.drewN nq)) := (HBW.out.trans (HBW10.out.mono HBW.out.size)).trans ⟨rfl, rfl, rfl, Nat.le_refl _, fun _ _ => rfl⟩
          have HKF : Hid ((w10.drewN nq).heap[D]? = some (.deferred (some []))) := HK10.out
          have HOWNF : Hid ((w10.drewN nq).ownsRow w9.heap.size 9 1 (.slice ao' (acc.length + 1) cap') (acc ++ [x]).length ((acc ++ [x]).map Value.string)) := ownsRow_below HOWN.out ⟨rfl, rfl, rfl, Nat.le_refl _, fun _ _ => rfl⟩
          clear hcc2 hci hc3 hc9b HOWN HK10 HBW10 HB10
          generalize w10.drewN nq = w11 at *
          go_wp2_with fail
          have hD9 : D < w9.heap.size := Nat.lt_of_lt_of_le hDl hs9
          have HST : Hid (StrsAt (w11.putObj D (.deferred none)) (.slice ao' (acc.length + 1) cap') (acc ++ [x])) := by
            refine StrsAt.of_row (World.ownsRow.kept HOWNF.out (grownBy_putObj' w11 D _) ?_)
            cases ho : (Value.slice ao' (acc.length + 1) cap').ownBlock with
            | none => exact .inl rfl
            | some kk => exact .inr (fun e => by have h1 := (World.ownsRow.lt HOWNF.out kk ho).1; injection e with e; omega)
          have hDw : w.heap.size ≤ D := Nat.le_trans HB6.out.size hD
          have hl11 : D < w11.heap.size := (Array.getElem?_eq_some_iff.1 HKF.out).1
          have HBG : Hid (Below w.heap.size w (w11.putObj D (.deferred none))) := HBF.out.grown (grownBy_putObj' w11 D _) HBF.out.size (fun k e => by injection e with e; omega)
          refine ⟨by simp, .inl ⟨_, _, rfl, run_takeDeferred HKF.out, ?_⟩⟩
          have hM : M = (critF (grO ns) (costN cs)).1 := by rw [← HFIN.out]
          refine ⟨_, results_tmp2 rfl _ _ _, _, acc ++ [x], ?_, HST.out, by rw [← HFIN.out], HBG.out⟩
          rw [← hM]
          rfl
        · have hne2 : (((B i : Nat) : Int) == ((costN cs i : Nat) : Int)) = false := by rw [beq_eq_false_iff_ne]; omega
          obtain ⟨k2, hk2, hkb, hkn, hkidx⟩ := HNX.out i (by rw [HNL.out]; exact hi) hq
          rw [HNL.out] at hkn
          have HPA2 : Hid ((acc ++ [x]).map (·.data.toList) ++ pathQ (grO ns) B (costN cs) f' k2 = pathQ (grO ns) B (costN cs) ns.length s) := by
            unfold Hid
            rw [← HPA.out, List.map_append, pathQ, if_neg hq, hk2, HIX.out, List.append_assoc]
            rfl
          have HID2 : Hid (acc.length + 1 ≤ (ordG (grO ns)).idxOf k2) := by have := HAL.out; unfold Hid; omega
          have HK2 := Lib.hid hk2
          have hble : costN cs i ≤ B i := by have := HQE.out i (by rw [HNL.out]; exact hi); omega
          have hbq := HQB.out i
          clear hk2 hkb hkidx hq
          go_upto_region 25 with fail
          go_quiet (fail)
          rename_i nq
          have HB11 : Hid (Below w9.heap.size w9 (w10.drewN nq)) := HB10.out.trans ⟨rfl, rfl, rfl, Nat.le_refl _, fun _ _ => rfl⟩
          have HOWN11 : Hid ((w10.drewN nq).ownsRow w9.heap.size 9 1 (.slice ao' (acc.length + 1) cap') (acc ++ [x]).length ((acc ++ [x]).map Value.string)) := ownsRow_below HOWN.out ⟨rfl, rfl, rfl, Nat.le_refl _, fun _ _ => rfl⟩
          have hcc3 : (w10.drewN nq).cell? ⟨cb, coff + i, none⟩ = some (intV (costN cs i)) := hcc2
          have hcb3 : cb < (w10.drewN nq).heap.size := World.block_lt_of_cell? _ _ hcc3
          have HBW11 : Hid (Below W.heap.size W (w10.drewN nq)) := HBW10.out.trans ⟨rfl, rfl, rfl, Nat.le_refl _, fun _ _ => rfl⟩
          clear hcc2 hci hc3 hc9b HOWN HBW10 HB10
          generalize w10.drewN nq = w11 at *
          obtain ⟨E11, R11⟩ := HW.out w11 HBW11.out
          have hc7 := E11.tg
          have hg3 := E11.g3
          have hmi := E11.row.cell hi
          have hvi := E11.ints i hi
          obtain ⟨xao, xcap, hxe⟩ := hvi.form
          rw [hxe] at hmi hvi
          have HVI := Lib.hid hvi
          have hbl := be_len HSO.out i
          have HCC := Lib.hid (fun W1 (h1 : Below w11.heap.size w11 W1) => (h1.cell (p := ⟨cb, coff + i, none⟩) hcb3).trans hcc3)
          clear E11 R11 hvi hxe hcc3
          go_upto_block 8 with fail
          clear hmi hg3 hc7
          go_cut [19] from 141 to 163 (fun s19 wx => Below w11.heap.size w11 wx ∧ IRow wx w11.heap.size s19 (nxQ (grO ns) B (costN cs) i))
          case first =>
            go_wp2_with fail
            go_loopg [141, 19] (be (grO ns) i).length (NqRel w11 B (be (grO ns) i) (B i - costN cs i))
            case atStart => exact ⟨0, rfl, Nat.zero_le _, rfl, Below.refl _ _, IRow.nil _ _⟩
            case round =>
              obtain ⟨j, rfl, hj, rfl, hb, hr⟩ := hrel
              obtain ⟨eao2, ecap2, rfl⟩ := hr.form
              obtain ⟨E, RB⟩ := HW.out wr (HBW11.out.trans (hb.mono HBW11.out.size))
              have hc9b := E.tb
              have hc3 := E.cx
              have hcc2 := HCC.out wr hb
              have hci : wr.cell? ⟨tg + 1, i, none⟩ = some (intV (B i)) := RB.cell hi
              have hii2 : (i : Int) < (cs.length : Int) := by rw [HCN.out]; exact hii
              have HB := Lib.hid hb
              have HR := Lib.hid hr
              have hfl2 : (((be (grO ns) i).take j).filter fun k => decide (B k = B i - costN cs i)).length ≤ 1024 := by
                have h1 := List.length_filter_le (fun k => decide (B k = B i - costN cs i)) ((be (grO ns) i).take j)
                rw [List.length_take] at h1
                omega
              by_cases hjl : j < (be (grO ns) i).length
              · have hjj : (j : Int) < ((be (grO ns) i).length : Int) := by omega
                obtain ⟨xb, xoff, rfl, hxb, hxc⟩ := IntsAt.at1 (SlAt.below HVI.out hb) hjl
                have hkn' := be_lt (getD_at hjl)
                rw [HNL.out] at hkn'
                have HTK : Hid ((be (grO ns) i).take (j + 1) = (be (grO ns) i).take j ++ [(be (grO ns) i).getD j 0]) := by unfold Hid; rw [List.take_add_one, List.getD, List.getElem?_eq_getElem hjl]; rfl
                generalize (be (grO ns) i).getD j 0 = k at *
                have hki : ((k : Nat) : Int) < (ns.length : Int) := by omega
                have hck : wr.cell? ⟨tg + 1, k, none⟩ = some (intV (B k)) := RB.cell hkn'
                have hwr : IntKind.i64.wrap (((B i : Nat) : Int) - ((costN cs i : Nat) : Int)) = ((B i : Nat) : Int) - ((costN cs i : Nat) : Int) := by
                  unfold IntKind.wrap
                  simp [IntKind.bits, IntKind.signed]
                  try omega
                clear E RB hb hr
                by_cases hd : B k = B i - costN cs i
                · have he : (((B k : Nat) : Int) == ((B i : Nat) : Int) - ((costN cs i : Nat) : Int)) = true := by rw [beq_iff_eq]; omega
                  have HT3 : Hid (((be (grO ns) i).take (j + 1)).filter (fun k => decide (B k = B i - costN cs i)) = ((be (grO ns) i).take j).filter (fun k => decide (B k = B i - costN cs i)) ++ [k]) := by
                    unfold Hid; rw [HTK.out, List.filter_append]; simp only [List.filter_cons, hd, decide_true, if_true, List.filter_nil]
                  clear hd HTK
                  go_upto_region 31 with fail
                  go_quiet (fail)
                  have HBd : Hid (Below w11.heap.size w11 (wr.drewN nq)) := HB.out.trans ⟨rfl, rfl, rfl, Nat.le_refl _, fun _ _ => rfl⟩
                  have HRd : Hid (IRow (wr.drewN nq) w11.heap.size (.slice eao2 (((be (grO ns) i).take j).filter fun k => decide (B k = B i - costN cs i)).length ecap2) (((be (grO ns) i).take j).filter fun k => decide (B k = B i - costN cs i))) := IRow.below HR.out ⟨rfl, rfl, rfl, Nat.le_refl _, fun _ _ => rfl⟩
                  clear hck hci hcc2 hc3 hc9b HB HR hxc hxb
                  generalize wr.drewN nq = wd at *
                  generalize ((be (grO ns) i).take j).filter (fun k => decide (B k = B i - costN cs i)) = ff at *
                  as_aux_lemma =>
                  go_wp2_with (at_builtin; refine wpList_append2 rfl _ _ 40 rfl w11.heap.size 3 i3 (.int .i64 0) 1 8 Tryz.underlying40 HI.out rfl (by decide) _ _ _ rfl (World.ownsRow.alloc HRd.out _) ⟨wd.heap.size, 0, none⟩ 1 1 [intV k] rfl rfl (cells_newAt rfl _ 3 (0, 0)) rfl (by unfold maxLen; omega) (by omega) (by have := HBd.out.size; simp; omega) ?_)
                  intro v' w12 hown hgrow hwh
                  obtain ⟨ao2, cap2, rfl⟩ := ownsRow_form hown
                  have HB12 := Lib.hid ((HBd.out.alloc HBd.out.size (.cells [intV k].toArray 3 (0, 0))).grown hgrow (by have := HBd.out.size; simp; omega) fun b hb => (HRd.out.lt b hb).1)
                  have HR12 := Lib.hid (IRow.add hown)
                  clear hown hgrow hwh
                  go_wp2_with fail
                  go_roundg ((be (grO ns) i).length - (j + 1))
                  case measure => omega
                  case rel => exact ⟨j + 1, by go_num, by omega, rfl, HB12.out, by rw [HT3.out]; exact HR12.out⟩
                · have he : (((B k : Nat) : Int) == ((B i : Nat) : Int) - ((costN cs i : Nat) : Int)) = false := by rw [beq_eq_false_iff_ne]; omega
                  have HT3 : Hid (((be (grO ns) i).take (j + 1)).filter (fun k => decide (B k = B i - costN cs i)) = ((be (grO ns) i).take j).filter (fun k => decide (B k = B i - costN cs i))) := by
                    unfold Hid; rw [HTK.out, List.filter_append]; simp only [List.filter_cons, hd, decide_false, Bool.false_eq_true, if_false, List.filter_nil, List.append_nil]
                  clear hd HTK
                  as_aux_lemma =>
                  go_upto_region 31 with fail
                  go_quiet (fail)
                  go_wp2_with fail
                  go_roundg ((be (grO ns) i).length - (j + 1))
                  case measure => omega
                  case rel => exact ⟨j + 1, by go_num, by omega, rfl, HB.out.trans ⟨rfl, rfl, rfl, Nat.le_refl _, fun _ _ => rfl⟩, by rw [HT3.out]; exact IRow.below HR.out ⟨rfl, rfl, rfl, Nat.le_refl _, fun _ _ => rfl⟩⟩
              · have hje : j = (be (grO ns) i).length := by omega
                subst hje
                have HF3 : Hid (((be (grO ns) i).take (be (grO ns) i).length).filter (fun k => decide (B k = B i - costN cs i)) = nxQ (grO ns) B (costN cs) i) := by unfold Hid nxQ; rw [List.take_length]
                rw [HF3.out] at HR ⊢
                clear E RB hb hr hci hcc2 hc3 hc9b
                go_wp2_with fail
                go_meet
                exact ⟨HB.out, HR.out⟩
          case rest =>
            obtain ⟨hb12, hr12⟩ := hcut
            generalize wc = w12 at *
            obtain ⟨eao2, ecap2, rfl⟩ := hr12.form
            have hs11 := HB11.out.size
            obtain ⟨E12, R12⟩ := HW.out w12 (HBW11.out.trans (hb12.mono HBW11.out.size))
            have hc7 := E12.tg
            have hnl : (nxQ (grO ns) B (costN cs) i).length ≤ 1024 := by
              have h1 := List.length_filter_le (fun k => decide (B k = B i - costN cs i)) (be (grO ns) i)
              unfold nxQ
              omega
            have FA := first_any g _ _ ns (nxQ (grO ns) B (costN cs) i) (fun k hk => by
              unfold nxQ at hk
              rw [List.mem_filter] at hk
              have := be_lt hk.1
              rwa [HNL.out] at this) HSZ.out (by omega) w12 E12.nd E12.g0 E12.gl hr12.at
            rw [HK2.out] at FA
            simp only [optI] at FA
            have FA := Lib.hid FA
            have HBX := Lib.hid hb12
            clear hb12 hr12 E12 R12 HK2 HVI HCC
            generalize nxQ (grO ns) B (costN cs) i = nx at *
            go_wp2_with fail
            refine FA.out.mono ?_
            rintro e w13 ⟨rfl, hu13⟩
            have HB13 : Hid (Below w9.heap.size w9 w13) := (HB11.out.trans (HBX.out.mono hs11)).trans (hu13.b.mono (Nat.le_trans hs11 HBX.out.size))
            have HOWN13 : Hid (w13.ownsRow w9.heap.size 9 1 (.slice ao' (acc.length + 1) cap') (acc ++ [x]).length ((acc ++ [x]).map Value.string)) := ownsRow_below HOWN11.out (HBX.out.trans (hu13.b.mono HBX.out.size))
            clear hu13 FA
            as_aux_lemma =>
            go_wp2_with fail
            go_roundg f'
            case measure => have := HFE.out; omega
            case rel => exact ⟨k2, acc ++ [x], by go_num, hkn, by have := HFE.out; simp; omega, by simpa using HID2.out, by rw [show ns.length - (acc ++ [x]).length = f' by have := HFE.out; simp; omega]; exact HPA2.out, by simpa using HOWN13.out, HB13.out⟩
end Go.Proofs.YtfegmmafcopbpaaGreatDoor
