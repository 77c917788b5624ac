/- The walk over the law's there. -/
import Derived.Test.YtghahghbahcpfaaGreatDoorVo2
import Derived.Test.YtghahghbahcpfaaGreatDoorVo3
import Derived.Test.YtghahghbahcpfaaGreatDoorVl1
import Derived.StillTailTactics
import Derived.Test.YtghahghbahcpfaaGreatDoorVs10
namespace Go.Proofs.YtghahghbahcpfaaGreatDoor
open Go.RowKit

/-- a drawing region whose first operations only read: its world by a name -/
theorem wp_region_tailW {P : Program} {id : Nat} {Q : Exit → Act → World → Prop} {a : Act} {w : World} {l : List Oper} (n : Nat) (hm : P.follows .mixedOrders = true) (hB : Region.lexTailB .any l.toArray n = true)
    (h : ∀ W, W = w.drew → wpStill P l.toArray W (fun a' => wpList P l.toArray Q (l.drop n) a' W) (l.take n) a) : (Code.region id l.toArray true).wp P Q a w :=
  wp_region_still_tail n hm hB (h _ rfl)
/-- a whole struct is loaded, in the part that only reads -/
theorem wpStill_loadG {P : Program} {ops : Array Oper} {rest : List Oper} {op : Oper} {a : Act} {w : World} {Q : Act → Prop} (hw : Region.wanted op (yielded ops a.tmps) = true) (ty : TypeId) (x : Operand) (ho : op.op = .load ty x)
    (b o : Nat) (hx : a.eval x = .pointer (some ⟨b, o, none⟩)) (cs : List Value) (d : TypeDesc) (hc : w.rangeAt b o cs)
    (hu : P.underlying ty = some d) (hd : d.isRow = true) (hi : (P.info? ty).map (·.size) = some cs.length)
    (h : wpStill P ops w Q rest (a.put op.dst (.agg cs.toArray))) : wpStill P ops w Q (op :: rest) a := by
  refine wpStill_step (fun K hK => ?_)
  rw [if_pos hw]
  have e : (execOp a.eval op).run P w = .ok (.value (.agg cs.toArray)) w := by
    unfold execOp
    simp only [ho, hx, Instr.loadAt, Instr.sureAddr, Sem.run_bind, Sem.run_pure, Result.andThen_ok, run_loadVar_mid w b o ty cs d hc hu hd hi]
  unfold Oper.still
  rw [e, Oper.stillUpon_value]
  exact hK _ h
/-- an operation in the part that only reads, its value known -/
theorem wpStill_val {P : Program} {ops : Array Oper} {rest : List Oper} {op : Oper} {a : Act} {w : World} {Q : Act → Prop} (hw : Region.wanted op (yielded ops a.tmps) = true) (v : Value) (e : (execOp a.eval op).run P w = .ok (.value v) w)
    (h : wpStill P ops w Q rest (a.put op.dst v)) : wpStill P ops w Q (op :: rest) a := by
  refine wpStill_step (fun K hK => ?_)
  rw [if_pos hw]
  unfold Oper.still
  rw [e, Oper.stillUpon_value]
  exact hK _ h
theorem wpStill_skip {P : Program} {ops : Array Oper} {rest : List Oper} {op : Oper} {a : Act} {w : World} {Q : Act → Prop} (hw : Region.wanted op (yielded ops a.tmps) = false)
    (h : wpStill P ops w Q rest (a.put op.dst undef)) : wpStill P ops w Q (op :: rest) a := by
  refine wpStill_step (fun K hK => ?_)
  rw [if_neg (by rw [hw]; simp)]
  exact hK _ h
/-- a goal behind a wall: nothing runs the program ahead -/
structure Opq (p : Prop) : Prop where
  out : p
theorem oStill_val {P : Program} {ops : Array Oper} {rest : List Oper} {op : Oper} {a : Act} {w : World} {Q : Act → Prop} (hw : Region.wanted op (yielded ops a.tmps) = true) (v : Value) (e : (execOp a.eval op).run P w = .ok (.value v) w)
    (h : Opq (wpStill P ops w Q rest (a.put op.dst v))) : Opq (wpStill P ops w Q (op :: rest) a) := ⟨wpStill_val hw v e h.out⟩
theorem oStill_skip {P : Program} {ops : Array Oper} {rest : List Oper} {op : Oper} {a : Act} {w : World} {Q : Act → Prop} (hw : Region.wanted op (yielded ops a.tmps) = false)
    (h : Opq (wpStill P ops w Q rest (a.put op.dst undef))) : Opq (wpStill P ops w Q (op :: rest) a) := ⟨wpStill_skip hw h.out⟩
theorem oStill_nil {P : Program} {ops : Array Oper} {a : Act} {w : World} {Q : Act → Prop} (h : Opq (Q a)) : Opq (wpStill P ops w Q [] a) := ⟨wpStill_nil h.out⟩
theorem exec_move {P : Program} {o : Oper} {ρ : Operand → Value} {w : World} (x : Operand) (ho : o.op = .move x) (v : Value) (hx : ρ x = v) : (execOp ρ o).run P w = .ok (.value v) w := by
  unfold execOp
  simp only [ho, hx, Sem.run_pure]
theorem exec_cmp {P : Program} {o : Oper} {ρ : Operand → Value} {w : World} (c : BinOp) (t ty : TypeId) (x y : Operand) (ho : o.op = .binOp c t x y ty) (xs ys : Array Value) (hx : ρ x = .agg xs) (hy : ρ y = .agg ys) (hm : P.eqGuardType P.depth t = false) (v : Value) (he : (binOp c t (.agg xs) (.agg ys)).run P w = .ok v w) :
    (execOp ρ o).run P w = .ok (.value v) w := by
  unfold execOp
  simp only [ho, hx, hy, Sem.run_bind, Sem.run_pure]
  have e := run_eqGuard_agg (w := w) c t x y xs ys hm
  rw [e, Result.andThen_ok, he]
  rfl
def outEq (a b : OutM) : Bool := (decide (a.name = b.name) && decide (a.dig = b.dig)) && decide (a.size = b.size)
abbrev outV (o : OutM) : Array Value := #[.string o.name, .int .u64 (o.dig : Nat), .int .i64 o.size]
theorem Tryz.eqIn_out (w : World) (a b : OutM) : (Op.equalIn 10000 69 (.agg (outV a)) (.agg (outV b))).run Tryz.prog w = .ok (outEq a b) w := by
  obtain ⟨n, d, s⟩ := a
  obtain ⟨n', d', s'⟩ := b
  unfold outEq
  dsimp only
  have e1 : decide (n = n') = decide (n.toList = n'.toList) := by rw [← tl_eq]; rw [Bool.eq_iff_iff, beq_iff_eq, decide_eq_true_eq]
  have e2 : decide (d = d') = decide ((d : Int) = (d' : Int)) := by rw [Bool.eq_iff_iff, decide_eq_true_eq, decide_eq_true_eq]; omega
  rw [e1, e2]
  clear e1 e2
  go_simp
  by_cases h1 : n.toList = n'.toList
  · by_cases h2 : (d : Int) = (d' : Int)
    · by_cases h3 : s = s'
      · simp [h1, h2, h3]
      · simp [h1, h2, h3]
    · simp [h1, h2]
  · simp [h1]
theorem Tryz.eql_out (w : World) (a b : OutM) : (binOp .eql 69 (.agg (outV a)) (.agg (outV b))).run Tryz.prog w = .ok (.bool (outEq a b)) w := by
  rw [run_eql_struct, Tryz.eqIn_out]; rfl
theorem Tryz.neq_out (w : World) (a b : OutM) : (binOp .neq 69 (.agg (outV a)) (.agg (outV b))).run Tryz.prog w = .ok (.bool (!outEq a b)) w := by
  rw [run_neq_struct, Tryz.eqIn_out]; rfl
theorem Tryz.guard_out : Tryz.prog.eqGuardType Tryz.prog.depth 69 = false := by kernel_rfl
def thrFl (D : ByteArray → Bool) (o : OutM) (f : FileM) : Bool := outEq o ⟨fileN f.path, f.dig, 0⟩ && D f.path
def thrAr (b : Bool) (o : OutM) (a : OutM) : Bool := outEq o a && b
def thereF (D : ByteArray → Bool) (j : JobM) (v : ViewM) (o : OutM) : Bool := v.files.any (thrFl D o) || v.arts.any (thrAr (j.uses.contains o.name) o)
theorem file_pre (p : ByteArray) : ({ data := #[102, 105, 108, 101, 58] } : ByteArray) ++ p = fileN p := by
  have e : ∀ a b : ByteArray, a.data.toList = b.data.toList → a = b := fun a b h => by
    obtain ⟨a⟩ := a; obtain ⟨b⟩ := b
    have : a = b := Array.ext' h
    rw [this]
  apply e
  rw [ByteArray.data_append, Array.toList_append]
  show _ = (fileN p).data.toList
  unfold fileN
  rw [List.toList_toArray]
theorem take_any_succ {α : Type} {p : α → Bool} {L : List α} {i : Nat} (h : i < L.length) (hk : (L.take i).any p = false) : (p L[i] = false → (L.take (i + 1)).any p = false) ∧ (p L[i] = true → L.any p = true) := by
  refine ⟨fun e => ?_, fun e => ?_⟩
  · rw [List.take_succ_eq_append_getElem h, List.any_append, hk, List.any_cons, e]; rfl
  · rw [List.any_eq_true]
    exact ⟨_, List.getElem_mem h, e⟩
def ThRel {α : Type} (p : α → Bool) (L : List α) (w1 : World) (f : Nat) (t : Value) (wr : World) : Prop :=
  ∃ i : Nat, t = .int .i64 (i : Nat) ∧ i ≤ L.length ∧ f = L.length - i ∧ (L.take i).any p = false ∧ Below w1.heap.size w1 wr
set_option maxRecDepth 100000 in
set_option maxHeartbeats 6400000 in
theorem there_any (c : Nat → Value) (j : JobM) (v : ViewM) (o : OutM) (hJ : JB j) (hB : VB v) (w : World) (hv : VAt w.heap.size c v w) (hj : JAt w.heap.size c j w) :
    Calls Tryz.prog 26 #[jobA c, viewA c, .agg #[.string o.name, .int .u64 (o.dig : Nat), .int .i64 o.size]] w fun e w' => e = .returned (.bool (thereF (declF j.inputs) j v o)) ∧ Below w.heap.size w w' := by
  obtain ⟨w1, hw1⟩ : ∃ w1, w.alloc (.cells (jobC c) tJob (0, 0)) = w1 := ⟨_, rfl⟩
  obtain ⟨w2, hw2⟩ : ∃ w2, w1.alloc (.cells (viewC c) tView (0, 0)) = w2 := ⟨_, rfl⟩
  obtain ⟨w3, hw3⟩ : ∃ w3, w2.alloc (.cells #[.string o.name, .int .u64 (o.dig : Nat), .int .i64 o.size] 69 (0, 0)) = w3 := ⟨_, rfl⟩
  have hs1 : w1.heap.size = w.heap.size + 1 := by rw [← hw1]; simp
  have hs2 : w2.heap.size = w.heap.size + 1 + 1 := by rw [← hw2]; simp [hs1]
  have hk1 : w3.heap[w.heap.size]? = some (.cells (jobC c) tJob (0, 0)) := by rw [← hw3]; exact (hp_old (by omega)).trans (by rw [← hw2]; exact (hp_old (by omega)).trans (by rw [← hw1]; exact hp_new rfl))
  have hk2 : w3.heap[w.heap.size + 1]? = some (.cells (viewC c) tView (0, 0)) := by rw [← hw3]; exact (hp_old (by omega)).trans (by rw [← hw2]; exact hp_new (by omega))
  have hk3 : w3.heap[w.heap.size + 1 + 1]? = some (.cells #[.string o.name, .int .u64 (o.dig : Nat), .int .i64 o.size] 69 (0, 0)) := by rw [← hw3]; exact hp_new (by omega)
  have hb3 : Below w.heap.size w w3 := by rw [← hw3, ← hw2, ← hw1]; exact (((Below.refl _ w).alloc (Nat.le_refl _) _).alloc (by simp) _).alloc (by simp; omega) _
  have HK1 := Lib.hid hk1
  have HK2 := Lib.hid hk2
  have HK3 := Lib.hid hk3
  have HB3 := Lib.hid hb3
  have HW1 := Lib.hid hw1
  have HW2 := Lib.hid hw2
  have HW3 := Lib.hid hw3
  have z3 : w.heap.size + 1 + 1 < w3.heap.size := (Array.getElem?_eq_some_iff.1 hk3).1
  obtain ⟨fo, fc, h39⟩ := hv.files.form
  obtain ⟨ao, ac, h40⟩ := hv.arts.form
  obtain ⟨io, ic, h24⟩ := hj.inputs.form
  obtain ⟨uo, uc, h25⟩ := hj.uses.form
  have zF : v.files.length ≤ 1000000 := hB.files
  have zA : v.arts.length ≤ 1000000 := hB.arts
  have HC : Hid (∀ W, Below w3.heap.size w3 W → W.cell? ⟨w.heap.size + 1, 0, none⟩ = some (.slice fo v.files.length fc) ∧ W.cell? ⟨w.heap.size + 1, 1, none⟩ = some (.slice ao v.arts.length ac) ∧ W.cell? ⟨w.heap.size, 25, none⟩ = some (.slice uo j.uses.length uc) ∧ W.rangeAt w.heap.size 0 (jobL c) ∧ W.heap[w.heap.size + 1 + 1]? = some (.cells #[.string o.name, .int .u64 (o.dig : Nat), .int .i64 o.size] 69 (0, 0))) := fun W hb => by
    have q1 := (hb.block _ (show w.heap.size < _ by omega)).trans hk1
    have q2 := (hb.block _ (show w.heap.size + 1 < _ by omega)).trans hk2
    exact ⟨by rw [← h39]; exact cell_of_blk q2 0, by rw [← h40]; exact cell_of_blk q2 1, by rw [← h25]; exact cell_of_blk q1 25, range_job q1, (hb.block _ (by omega)).trans hk3⟩
  have HRF : Hid (∀ W, Below w3.heap.size w3 W → EFile.Row (fun b => b < w.heap.size) W v.files (.slice fo v.files.length fc)) := fun W hb => by
    have := ((hv.below hb3).below (hb.mono (by omega))).files; rwa [h39] at this
  have HRA : Hid (∀ W, Below w3.heap.size w3 W → EOut.Row (fun b => b < w.heap.size) W v.arts (.slice ao v.arts.length ac)) := fun W hb => by
    have := ((hv.below hb3).below (hb.mono (by omega))).arts; rwa [h40] at this
  have DC : Hid (∀ W p, p.size ≤ 10000 → Below w3.heap.size w3 W → Calls Tryz.prog 19 #[jobA c, .string p] W fun e w' => e = .returned (.bool (declF j.inputs p)) ∧ Below W.heap.size W w') := fun W p hp hb => by
    have h1 := ((hj.below hb3).below (hb.mono (by omega))).inputs
    rw [h24] at h1
    exact decl_any c j.inputs io ic p _ (by omega) hJ.inputs hJ.inputN h24 W h1
  have HU : Hid (∀ W, Below w3.heap.size w3 W → Calls Tryz.prog 27 #[.slice uo j.uses.length uc, .string o.name] W fun e w' => e = .returned (.bool (j.uses.contains o.name)) ∧ w' = W) := fun W hb => by
    have h1 := ((hj.below hb3).below (hb.mono (by omega))).uses
    rw [h25] at h1
    exact rhas_any o.name _ j.uses _ (by have := hJ.uses; omega) W h1
  have HFN := Lib.hid hB.fileN
  clear hv hj hJ hB hk1 hk2 hk3 hb3 hw1 hw2 hw3 hs1 hs2 h39 h40 h24 h25
  obtain ⟨nm, dg, sz⟩ := o
  dsimp only at HK3 HC HU
  go_enter Tryz.func26, Tryz.ntmps26
  go_upto_region 1 with fail
  rw [HW1.out, HW2.out, HW3.out]
  clear HW1 HW2 HW3
  go_wp2_with fail
  go_loopg [7] v.files.length (ThRel (thrFl (declF j.inputs) ⟨nm, dg, sz⟩) v.files w3)
  case atStart => exact ⟨0, rfl, Nat.zero_le _, rfl, rfl, Below.refl _ _⟩
  case round =>
    obtain ⟨i, rfl, hi, rfl, hk, hbel⟩ := hrel
    have HK := Lib.hid hk
    have HB := Lib.hid hbel
    obtain ⟨c39, c40, c25, hrj, hk3⟩ := HC.out wr hbel
    clear hk hbel
    by_cases hlt : i < v.files.length
    · have hii : (i : Int) < (v.files.length : Int) := by omega
      have HT := Lib.hid (take_any_succ hlt HK.out)
      obtain ⟨z1, _⟩ := HFN.out _ (List.getElem_mem hlt)
      have DC2 : Hid (∀ W, Below wr.heap.size wr W → Calls Tryz.prog 19 #[jobA c, .string v.files[i].path] W fun e w' => e = .returned (.bool (declF j.inputs v.files[i].path)) ∧ Below W.heap.size W w') := fun W hb => DC.out W _ z1 (HB.out.trans (hb.mono HB.out.size))
      clear hrj hk3 c40 c25
      go_upto_region 4 with fail
      refine wp_region_tailW 24 (by kernel_rfl) (by kernel_rfl) (fun W hW => ?_)
      have HBW : Hid (Below wr.heap.size wr W) := by unfold Hid; rw [hW]; exact (Below.refl _ _).drew
      have HBW3 : Hid (Below w3.heap.size w3 W) := HB.out.trans (HBW.out.mono HB.out.size)
      clear hW
      obtain ⟨c39, _, _, hrj, hk3⟩ := HC.out W HBW3.out
      obtain ⟨bl, off, he, _, e1, e2⟩ := file_at (HRF.out _ HBW3.out) hlt
      subst he
      have o0 : W.cell? ⟨w.heap.size + 1 + 1, 0, none⟩ = some (.string nm) := cell_of_blk hk3 0
      have o1 : W.cell? ⟨w.heap.size + 1 + 1, 1, none⟩ = some (.int .u64 (dg : Nat)) := cell_of_blk hk3 1
      have o2 : W.cell? ⟨w.heap.size + 1 + 1, 2, none⟩ = some (.int .i64 sz) := cell_of_blk hk3 2
      have HRJ := Lib.hid hrj
      generalize v.files[i] = f at *
      obtain ⟨fp, fd⟩ := f
      dsimp only at e1 e2 DC2 z1
      have hz5 : ¬ 9223372036854775807 < 5 + fp.size := by omega
      obtain ⟨q, hq⟩ : ∃ q, ({ data := #[102, 105, 108, 101, 58] } : ByteArray) ++ fp = q := ⟨_, rfl⟩
      have HQ : Hid (q = fileN fp) := by unfold Hid; rw [← hq]; exact file_pre fp
      clear hrj hk3
      simp only [List.take_succ_cons, List.take_zero, List.drop_succ_cons, List.drop_zero]
      have HTF : Hid (thrFl (declF j.inputs) ⟨nm, dg, sz⟩ ⟨fp, fd⟩ = (outEq ⟨nm, dg, sz⟩ ⟨q, fd, 0⟩ && declF j.inputs fp)) := by unfold Hid thrFl; rw [HQ.out]
      iterate 15 still_step
      refine wpStill_val (by rfl) (.bool (outEq ⟨nm, dg, sz⟩ ⟨q, fd, 0⟩)) (exec_cmp .eql 69 69 (.tmp 16) (.tmp 30) rfl (outV ⟨nm, dg, sz⟩) (outV ⟨q, fd, 0⟩) rfl rfl Tryz.guard_out _ (Tryz.eql_out W _ _)) ?_
      try simp only [Act.put, List.setIfInBounds_toArray, List.set_cons_zero, List.set_cons_succ]
      have DC3 := Lib.hid (DC2.out W HBW.out)
      generalize declF j.inputs fp = d at *
      generalize outEq ⟨nm, dg, sz⟩ ⟨q, fd, 0⟩ = t at *
      clear DC2 HQ HK o0 o1 o2 hq hz5
      cases t with
      | true =>
        still_step
        refine wpStill_loadG (by rfl) tJob (.tmp 3) rfl w.heap.size 0 rfl (jobL c) _ HRJ.out Tryz.underlying38 rfl (by kernel_rfl) ?_
        try simp only [Act.put, List.setIfInBounds_toArray, List.set_cons_zero, List.set_cons_succ]
        iterate 6 still_step
        refine wpStill_nil ?_
        go_wp2_with fail
        refine DC3.out.mono ?_
        rintro e w5 ⟨rfl, hb5⟩
        have HB5 : Hid (Below w3.heap.size w3 w5) := HBW3.out.trans (hb5.mono HBW3.out.size)
        clear hb5 DC3
        cases d with
        | true =>
          have HN := Lib.hid (HT.out.2 HTF.out)
          clear HT HTF
          as_aux_lemma =>
          go_wp2_with fail
          go_ret
          exact ⟨by unfold thereF; rw [HN.out] <;> rfl, HB3.out.trans (HB5.out.mono (by omega))⟩
        | false =>
          have HN := Lib.hid (HT.out.1 HTF.out)
          clear HT HTF
          as_aux_lemma =>
          go_wp2_with fail
          go_roundg (v.files.length - (i + 1))
          case measure => omega
          case rel => exact ⟨i + 1, by go_num, by omega, rfl, HN.out, HB5.out⟩
      | false =>
        have HN := Lib.hid (HT.out.1 (HTF.out.trans (Bool.false_and _)))
        clear HT HTF DC3
        as_aux_lemma =>
        refine Opq.out ?_
        refine oStill_val (by rfl) (.bool false) (exec_move (.tmp 31) rfl _ rfl) ?_
        try simp only [Act.put, List.setIfInBounds_toArray, List.set_cons_zero, List.set_cons_succ]
        iterate 7
          refine oStill_skip (by rfl) ?_
          try simp only [Act.put, List.setIfInBounds_toArray, List.set_cons_zero, List.set_cons_succ]
        refine oStill_nil ?_
        refine Opq.mk ?_
        go_wp2_with fail
        go_roundg (v.files.length - (i + 1))
        case measure => omega
        case rel => exact ⟨i + 1, by go_num, by omega, rfl, HN.out, HBW3.out⟩
    · have hii : ¬ (i : Int) < (v.files.length : Int) := by omega
      have he : i = v.files.length := by omega
      have HN : Hid (v.files.any (thrFl (declF j.inputs) ⟨nm, dg, sz⟩) = false) := by unfold Hid; have := HK.out; rwa [he, List.take_length] at this
      have HTH : Hid (thereF (declF j.inputs) j v ⟨nm, dg, sz⟩ = v.arts.any (thrAr (j.uses.contains nm) ⟨nm, dg, sz⟩)) := by unfold Hid thereF; rw [HN.out, Bool.false_or]
      clear HK he HRF HFN DC HN
      obtain ⟨b, hb⟩ : ∃ b, j.uses.contains nm = b := ⟨_, rfl⟩
      rw [hb] at HTH HU
      clear hb
      go_wp2_with fail
      go_loopg [8] v.arts.length (ThRel (thrAr b ⟨nm, dg, sz⟩) v.arts w3)
      case atStart => exact ⟨0, rfl, Nat.zero_le _, rfl, rfl, HB.out⟩
      case round =>
        clear HB c39 c40 c25 hrj hk3 hii hi hlt
        obtain ⟨i, rfl, hi, rfl, hk, hbel⟩ := hrel
        have HK := Lib.hid hk
        have HB := Lib.hid hbel
        obtain ⟨c39, c40, c25, hrj, hk3⟩ := HC.out wr hbel
        clear hk hbel hrj
        by_cases hlt : i < v.arts.length
        · have hii : (i : Int) < (v.arts.length : Int) := by omega
          have HT := Lib.hid (take_any_succ hlt HK.out)
          clear hk3 c39 c25
          go_upto_region 9 with fail
          refine wp_region_tailW 12 (by kernel_rfl) (by kernel_rfl) (fun W hW => ?_)
          have HBW : Hid (Below wr.heap.size wr W) := by unfold Hid; rw [hW]; exact (Below.refl _ _).drew
          have HBW3 : Hid (Below w3.heap.size w3 W) := HB.out.trans (HBW.out.mono HB.out.size)
          clear hW
          obtain ⟨_, d40, c25, _, hk3⟩ := HC.out W HBW3.out
          obtain ⟨bl, off, he, _, e0, e1, e2⟩ := out_at (HRA.out _ HBW3.out) hlt
          subst he
          have o0 : W.cell? ⟨w.heap.size + 1 + 1, 0, none⟩ = some (.string nm) := cell_of_blk hk3 0
          have o1 : W.cell? ⟨w.heap.size + 1 + 1, 1, none⟩ = some (.int .u64 (dg : Nat)) := cell_of_blk hk3 1
          have o2 : W.cell? ⟨w.heap.size + 1 + 1, 2, none⟩ = some (.int .i64 sz) := cell_of_blk hk3 2
          have HU3 := Lib.hid (HU.out W HBW3.out)
          generalize v.arts[i] = f at *
          obtain ⟨fn, fd, fz⟩ := f
          dsimp only at e0 e1 e2
          clear hk3 HU
          simp only [List.take_succ_cons, List.take_zero, List.drop_succ_cons, List.drop_zero]
          have HTF : Hid (thrAr b ⟨nm, dg, sz⟩ ⟨fn, fd, fz⟩ = (outEq ⟨nm, dg, sz⟩ ⟨fn, fd, fz⟩ && b)) := rfl
          iterate 6 still_step
          refine wpStill_val (by rfl) (.bool (outEq ⟨nm, dg, sz⟩ ⟨fn, fd, fz⟩)) (exec_cmp .eql 69 69 (.tmp 49) (.tmp 54) rfl (outV ⟨nm, dg, sz⟩) (outV ⟨fn, fd, fz⟩) rfl rfl Tryz.guard_out _ (Tryz.eql_out W _ _)) ?_
          try simp only [Act.put, List.setIfInBounds_toArray, List.set_cons_zero, List.set_cons_succ]
          generalize outEq ⟨nm, dg, sz⟩ ⟨fn, fd, fz⟩ = t at *
          clear HK e0 e1 e2
          cases t with
          | true =>
            iterate 5 still_step
            refine wpStill_nil ?_
            go_wp2_with fail
            refine HU3.out.mono ?_
            rintro e w5 ⟨rfl, hw5⟩
            obtain rfl := hw5.symm
            clear HU3
            cases b with
            | true =>
              have HN := Lib.hid (HT.out.2 (HTF.out.trans (Bool.true_and _)))
              clear HT HTF
              as_aux_lemma =>
              go_wp2_with fail
              go_ret
              exact ⟨by rw [HTH.out, HN.out] <;> rfl, HB3.out.trans (HBW3.out.mono (by omega))⟩
            | false =>
              have HN := Lib.hid (HT.out.1 (HTF.out.trans (Bool.true_and _)))
              clear HT HTF
              as_aux_lemma =>
              go_wp2_with fail
              go_roundg (v.arts.length - (i + 1))
              case measure => omega
              case rel => exact ⟨i + 1, by go_num, by omega, rfl, HN.out, HBW3.out⟩
          | false =>
            have HN := Lib.hid (HT.out.1 (HTF.out.trans (Bool.false_and _)))
            clear HT HTF HU3
            as_aux_lemma =>
            refine Opq.out ?_
            refine oStill_val (by rfl) (.bool false) (exec_move (.tmp 55) rfl _ rfl) ?_
            try simp only [Act.put, List.setIfInBounds_toArray, List.set_cons_zero, List.set_cons_succ]
            iterate 4
              refine oStill_skip (by rfl) ?_
              try simp only [Act.put, List.setIfInBounds_toArray, List.set_cons_zero, List.set_cons_succ]
            refine oStill_nil ?_
            refine Opq.mk ?_
            go_wp2_with fail
            go_roundg (v.arts.length - (i + 1))
            case measure => omega
            case rel => exact ⟨i + 1, by go_num, by omega, rfl, HN.out, HBW3.out⟩
        · have hii : ¬ (i : Int) < (v.arts.length : Int) := by omega
          have he : i = v.arts.length := by omega
          have HN : Hid (v.arts.any (thrAr b ⟨nm, dg, sz⟩) = false) := by unfold Hid; have := HK.out; rwa [he, List.take_length] at this
          clear HK he
          go_wp2_with fail
          go_ret
          exact ⟨by rw [HTH.out, HN.out] <;> rfl, HB3.out.trans (HB.out.mono (by omega))⟩
end Go.Proofs.YtghahghbahcpfaaGreatDoor
/- What the reference's tests of sizes say; a job's and a view's cells in one function. -/
namespace Go.Proofs.YtghahghbahcpfaaGreatDoor
open Go.RowKit

/-- a job's and a view's cells -/
def mkC (a b : Nat → Value) (i : Nat) : Value := if i < 39 then a i else b i
theorem jobA_mk (a b : Nat → Value) : jobA (mkC a b) = jobA a := rfl
theorem viewA_mk (a b : Nat → Value) : viewA (mkC a b) = viewA b := rfl
theorem jat_mk {xb : Nat} {a b : Nat → Value} {j : JobM} {w : World} (h : JAt xb a j w) : JAt xb (mkC a b) j w :=
  ⟨h.steps, h.timeout, h.inputs, h.uses, h.outputs, h.caches, h.secrets, h.child⟩
theorem vat_mk {xb : Nat} {a b : Nat → Value} {v : ViewM} {w : World} (h : VAt xb b v w) : VAt xb (mkC a b) v w :=
  ⟨h.files, h.arts, h.secs, h.caches, h.keys, h.tests, h.times, h.ign, h.att⟩
theorem shortF_true {L : List ByteArray} {m s : Int} (h : shortF L m s = true) : (L.length : Int) ≤ m ∧ ∀ x ∈ L, (x.size : Int) ≤ s := by
  unfold shortF at h
  rw [Bool.and_eq_true, decide_eq_true_eq, List.all_eq_true] at h
  exact ⟨h.1, fun x hx => of_decide_eq_true (h.2 x hx)⟩
/-- what a small job's sizes are -/
structure JS (j : JobM) : Prop where
  jb : JB j
  steps : j.steps.length ≤ 70
  caches : j.ncach ≤ 10
  stepN : ∀ s ∈ j.steps, s.name.size ≤ 300 ∧ s.text.size ≤ 300
  inputs : j.inputs.length ≤ 6
  inputN : ∀ x ∈ j.inputs, x.size ≤ 100
  uses : j.uses.length ≤ 20
  secrets : j.secrets.length ≤ 20
  outputs : j.outputs.length ≤ 20
theorem JS.of {j : JobM} (hf : JFit j) (h : smallJF j = true) : JS j := by
  unfold smallJF at h
  simp only [Bool.and_eq_true, decide_eq_true_eq] at h
  obtain ⟨⟨h1, h2⟩, h3, h4, h5, h6, h7⟩ := h
  have h3' : ∀ s ∈ j.steps, s.name.size ≤ 300 ∧ s.text.size ≤ 300 := fun s hs => by
    have := List.all_eq_true.1 h3 s hs
    unfold smallSt at this
    rw [Bool.and_eq_true, decide_eq_true_eq, decide_eq_true_eq] at this
    omega
  obtain ⟨i1, i2⟩ := shortF_true h4
  obtain ⟨u1, _⟩ := shortF_true h5
  obtain ⟨s1, _⟩ := shortF_true h6
  obtain ⟨o1, _⟩ := shortF_true h7
  have i3 : ∀ x ∈ j.inputs, x.size ≤ 100 := fun x hx => by have := i2 x hx; omega
  exact ⟨⟨by omega, hf.timeout, by omega, fun x hx => by have := i3 x hx; omega, by omega, by omega, by omega, by omega, fun s hs => by
    obtain ⟨a, b⟩ := h3' s hs
    obtain ⟨c, _, _, d⟩ := hf.stepN s hs
    exact ⟨by omega, by omega, c, d⟩⟩, by omega, by omega, h3', by omega, i3, by omega, by omega, by omega⟩
/-- what a small view's sizes are -/
structure VS (v : ViewM) : Prop where
  vb : VB v
  files : v.files.length ≤ 30
  arts : v.arts.length ≤ 30
  caches : v.caches.length ≤ 12
  times : v.times.length ≤ 60
  secs : v.secs.length ≤ 70
  secN : ∀ s ∈ v.secs, s.name.size ≤ 1000 ∧ s.text.size ≤ 1000 ∧ s.refs.length ≤ 6 ∧ s.envs.length ≤ 6
  fileN : ∀ f ∈ v.files, f.path.size ≤ 300
  artN : ∀ f ∈ v.arts, f.name.size ≤ 300
  keys : v.keys.length ≤ 12
  keyN : ∀ k ∈ v.keys, k.size ≤ 600
  tests : v.tests.length ≤ 40
  testN : ∀ k ∈ v.tests, k.size ≤ 300
  ign : v.ignored.length ≤ 40
theorem VS.of {v : ViewM} (hf : VFit v) (h : smallVF v = true) : VS v := by
  unfold smallVF at h
  simp only [Bool.and_eq_true, decide_eq_true_eq] at h
  obtain ⟨⟨h1, h2, h3, h4, h5⟩, h6, h7, h8, h9, h10⟩ := h
  unfold small41F at h5
  simp only [Bool.and_eq_true, decide_eq_true_eq] at h5
  obtain ⟨s1, s2⟩ := h5
  have sN : ∀ s ∈ v.secs, s.name.size ≤ 1000 ∧ s.text.size ≤ 1000 ∧ s.refs.length ≤ 6 ∧ s.envs.length ≤ 6 := fun s hs => by
    have := List.all_eq_true.1 s2 s hs
    unfold smallS at this
    simp only [Bool.and_eq_true, decide_eq_true_eq] at this
    obtain ⟨⟨⟨a, b⟩, c⟩, d⟩ := this
    have c1 := (shortF_true c).1
    have d1 := (shortF_true d).1
    omega
  have fN : ∀ f ∈ v.files, f.path.size ≤ 300 := fun f hf' => by
    have := List.all_eq_true.1 h6 f hf'
    unfold smallFl at this
    rw [decide_eq_true_eq] at this
    omega
  have aN : ∀ f ∈ v.arts, f.name.size ≤ 300 := fun f hf' => by
    have := List.all_eq_true.1 h7 f hf'
    unfold smallAr at this
    rw [decide_eq_true_eq] at this
    omega
  obtain ⟨k1, k2⟩ := shortF_true h8
  obtain ⟨t1, t2⟩ := shortF_true h9
  obtain ⟨g1, _⟩ := shortF_true h10
  have kN : ∀ k ∈ v.keys, k.size ≤ 600 := fun x hx => by have := k2 x hx; omega
  have tN : ∀ k ∈ v.tests, k.size ≤ 300 := fun x hx => by have := t2 x hx; omega
  exact ⟨⟨by omega, by omega, by omega, by omega, by omega, by omega, by omega, by omega,
    fun f h => ⟨by have := fN f h; omega, (hf.fileN f h).2⟩, fun f h => ⟨by have := aN f h; omega, (hf.artN f h).2.1⟩, fun s h => by have := sN s h; omega, fun k h => by have := kN k h; omega⟩,
    by omega, by omega, by omega, by omega, by omega, sN, fN, aN, by omega, kN, by omega, tN, by omega⟩
end Go.Proofs.YtghahghbahcpfaaGreatDoor
/- How long an execution's lists are. -/
namespace Go.Proofs.YtghahghbahcpfaaGreatDoor

theorem run_bd {D : ByteArray → Bool} {j : JobM} {v : ViewM} (hB : VB v) : ∀ (l : List StepM) (i : Nat) (x : StM), Bd i x → (∀ s ∈ l, s.name.size ≤ 100000 ∧ s.text.size ≤ 100000) → Bd (i + l.length) (runF D j v x l).1
  | [], i, x, h, _ => h
  | s :: l, i, x, h, hs => by
    have h1 : Bd (i + 1) (stepF D j v x s).1 := h.step hB (hs s (List.mem_cons_self ..)).1 (hs s (List.mem_cons_self ..)).2
    unfold runF
    split
    · exact h1.up (by rw [List.length_cons]; omega)
    · have := run_bd (D := D) (j := j) hB l (i + 1) _ h1 fun s' h' => hs s' (List.mem_cons_of_mem _ h')
      rw [List.length_cons, show i + (l.length + 1) = i + 1 + l.length by omega]
      exact this
/-- the lists of an execution's effect are short -/
structure EB (n : Nat) (E : EffM) : Prop where
  il : E.inputs.length ≤ n
  iN : ∀ o ∈ E.inputs, o.name.size ≤ 100000
  ol : E.outputs.length ≤ n
  oN : ∀ o ∈ E.outputs, o.name.size ≤ 100000
  sl : E.saves.length ≤ n
  ll : E.log.length ≤ 1048576
theorem exec_bd (D : ByteArray → Bool) (j : JobM) (v : ViewM) (hB : VB v) (hs : ∀ s ∈ j.steps, s.name.size ≤ 100000 ∧ s.text.size ≤ 100000) : EB j.steps.length (execF D j v) := by
  have h := run_bd (D := D) (j := j) hB j.steps 0 (st0 j) (Bd.zero j) hs
  rw [Nat.zero_add] at h
  unfold execF effectF
  generalize runF D j v (st0 j) j.steps = r at *
  refine ⟨?_, fun o ho => h.rs o ((sortN_perm _).mem_iff.1 ho), ?_, fun o ho => ?_, h.sl, ?_⟩
  · rw [show (sortN nmO r.1.reads).length = r.1.reads.length from (sortN_perm _).length_eq]; exact h.rl
  · dsimp only
    split
    · rw [(sortN_perm _).length_eq]; exact h.ol
    · exact Nat.zero_le _
  · dsimp only at ho
    split at ho
    · exact h.os o ((sortN_perm _).mem_iff.1 ho)
    · cases ho
  · dsimp only
    rw [List.length_take]
    exact Nat.min_le_left _ _
end Go.Proofs.YtghahghbahcpfaaGreatDoor
