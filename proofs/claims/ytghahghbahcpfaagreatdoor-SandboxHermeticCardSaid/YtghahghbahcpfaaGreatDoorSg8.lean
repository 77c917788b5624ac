/- The words of a text; the walk over the execution's test. -/
import Derived.Test.YtghahghbahcpfaaGreatDoorVs7
namespace Go.Proofs.YtghahghbahcpfaaGreatDoor
open Go.RowKit

theorem splitS_pcs : ∀ (l w : List UInt8), splitS w l = glue w (pcs 32 l)
  | [], w => (glue_end 32 w).symm
  | b :: l, w => by
    rw [splitS]
    by_cases h : b = 32
    · subst h
      rw [if_pos rfl, glue_hit, splitS_pcs l []]
    · rw [if_neg h, glue_miss h, splitS_pcs l]
theorem split_32 (s : ByteArray) : (Lib.splitB ⟨#[32]⟩ 0 (Lib.countB s ⟨#[32]⟩) s).map (·.data.toList) = splitS [] s.data.toList := by
  rw [Lib.splitB_data, splitS_pcs, glue_nil]
  exact splitK_pcs 32 _ _ (Nat.le_refl _)
theorem ba_data (a b : ByteArray) : decide (a = b) = decide (a.data.toList = b.data.toList) := by
  rw [Bool.eq_iff_iff, decide_eq_true_eq, decide_eq_true_eq]
  exact ⟨fun h => by rw [h], fun h => ByteArray.ext (Array.ext' h)⟩
theorem words_eq {ss : List ByteArray} {tx : List UInt8} (h : ss.map (·.data.toList) = splitS [] tx) (t : ByteArray) : (ss.filter fun w => !w.toList.isEmpty).contains t = wordF tx (bs t) := by
  rw [← any_contains, List.any_filter]
  unfold wordF
  rw [← h, List.any_map]
  congr 1
  funext w
  simp only [Function.comp_apply]
  rw [ba_data w t, Bool.and_comm]
  congr 1
  rw [Lib.toList_data]
  cases w.data.toList <;> rfl
def tstM (v : ViewM) (s : StepM) (t : ByteArray) : TstM := ⟨t, if failsF v s t = true then 2 else 1, timedF v t⟩
def badN (v : ViewM) (s : StepM) (t : ByteArray) : Bool := failsF v s t && !v.ignored.contains t
def outZ (v : ViewM) (s : StepM) (l : List ByteArray) : Int := if l.any (badN v s) = true then 2 else 0
theorem outZ_step (v : ViewM) (s : StepM) {i : Nat} (h : i < v.tests.length) : outZ v s (v.tests.take (i + 1)) = if badN v s v.tests[i] = true then 2 else outZ v s (v.tests.take i) := by
  unfold outZ
  rw [List.take_succ_eq_append_getElem h, List.any_append]
  cases hb : badN v s v.tests[i] with
  | true => simp [hb]
  | false => simp [hb]
theorem Tryz.infoTst : (Tryz.prog.info? 135).map (fun i => (i.zero, i.size, i.bytes)) = some (some (.agg #[.string ⟨#[]⟩, .int .i64 0, .int .i64 0]), 3, 32) := by kernel_rfl
theorem Tryz.infoTst' : ∃ i, Tryz.prog.info? 135 = some i ∧ i.zero = some (.agg #[.string ⟨#[]⟩, .int .i64 0, .int .i64 0]) ∧ i.size = 3 ∧ i.bytes = 32 := info_parts Tryz.infoTst
theorem Tryz.built_tst (k : ByteArray) (d : Int) : Tryz.prog.built 135 [(0, .string k), (1, .int .i64 1), (2, .int .i64 d)] = some #[.string k, .int .i64 1, .int .i64 d] := by kernel_rfl
/-- the tests have been stored -/
theorem xat_tests {xb : Nat} {c : Nat → Value} {x : StM} {cs : Array Value} {p l r o t s : Value} {w w1 : World} (h : XAt xb c x cs p l r o t s w) (k1 : w1.heap[xb]? = some (.cells cs tX (0, 0))) (k2 : LogOwn xb x.log l w1) (k3 : OutAt xb w1 x.reads r) (k4 : OutAt xb w1 x.outs o) (k5 : EEnt.Own 76 (xb + 1) noB w1 x.saves s)
    (L : List TstM) (v : Value) (hv : ETst.Own 135 (xb + 1) noB w1 L v) : XAt xb c { x with tests := L } (cs.setIfInBounds 54 v) p l r o v s (w1.setCell ⟨xb, 54, none⟩ v) ∧ Below xb w1 (w1.setCell ⟨xb, 54, none⟩ v) := by
  have hw := wrote_setCell k1 54 v
  have hsz := h.size
  have g : ∀ j, j ≠ 54 → (cs.setIfInBounds 54 v)[j]? = cs[j]? := fun j hj => Array.getElem?_setIfInBounds_ne (fun e => hj e.symm)
  refine ⟨⟨hw.at_, by rw [Array.size_setIfInBounds]; exact hsz, fun j hj => by rw [g j (by omega)]; exact h.jv j hj, by rw [g 48 (by omega)]; exact h.c48, h.acc, by rw [g 49 (by omega)]; exact h.c49, h.time, by rw [g 50 (by omega)]; exact h.c50, h.bld, by rw [g 51 (by omega)]; exact h.c51, ownsRow_wrote k2 hw (Nat.lt_succ_self _),
    by rw [g 52 (by omega)]; exact h.c52, out_store k3 k1 hw, by rw [g 53 (by omega)]; exact h.c53, out_store k4 k1 hw, by rw [Array.getElem?_setIfInBounds, if_pos rfl, if_pos (by omega)], own_store hv hw, by rw [g 55 (by omega)]; exact h.c55, own_store k5 hw, by rw [g 56 (by omega)]; exact h.c56⟩, hw.below (Nat.le_refl _)⟩
/-- a state inside the loop of the tests: words in u, the step in block b0 -/
structure TsSt (xb : Nat) (c : Nat → Value) (x : StM) (v : ViewM) (s : StepM) (b0 : Nat) (ws : List ByteArray) (u : Value) (i : Nat) (w0 w : World) : Prop where
  st : XSt xb c { x with tests := (v.tests.take i).map (tstM v s) } w
  bel : Below xb w0 w
  step : w.heap[b0]? = some (.cells #[.int .i64 s.op, .string s.name, .string s.text, .int .i64 s.n] 80 (0, 0))
  ws : EStr.Own 9 (xb + 1) noB w ws u
theorem TsSt.grow {xb : Nat} {c : Nat → Value} {x : StM} {v : ViewM} {s : StepM} {b0 : Nat} {ws : List ByteArray} {u : Value} {i : Nat} {w0 w w1 : World} (h : TsSt xb c x v s b0 ws u i w0 w) (hb : Below w.heap.size w w1) : TsSt xb c x v s b0 ws u i w0 w1 :=
  ⟨h.st.grow hb, h.bel.trans (hb.mono (Nat.le_of_lt h.st.lt)), (hb.block _ (Array.getElem?_eq_some_iff.1 h.step).1).trans h.step, h.ws.below hb⟩
def TsRel (xb : Nat) (c : Nat → Value) (x : StM) (v : ViewM) (s : StepM) (b0 : Nat) (ws : List ByteArray) (u : Value) (w0 : World) (f : Nat) (t6 t23 : Value) (wr : World) : Prop :=
  ∃ i : Nat, t23 = .int .i64 (i : Nat) ∧ i ≤ v.tests.length ∧ f = v.tests.length - i ∧ t6 = .int .i64 (outZ v s (v.tests.take i)) ∧ TsSt xb c x v s b0 ws u i w0 wr
/-- one more test -/
theorem TsSt.push {xb : Nat} {c : Nat → Value} {x : StM} {v : ViewM} {s : StepM} {b0 : Nat} {ws : List ByteArray} {u : Value} {i : Nat} {w0 w w1 : World} {cs : Array Value} {p l r o t sv v9 : Value} (h : TsSt xb c x v s b0 ws u i w0 w) (hx : XAt xb c { x with tests := (v.tests.take i).map (tstM v s) } cs p l r o t sv w) (hb0 : b0 ≠ xb) (hi : i < v.tests.length) {q : TstM} (hq : tstM v s v.tests[i] = q)
    (hown : ETst.Own 135 (xb + 1) noB w1 ((v.tests.take i).map (tstM v s) ++ [q]) v9) (hg : w.grownBy w1 t.ownBlock) : TsSt xb c x v s b0 ws u (i + 1) w0 (w1.setCell ⟨xb, 54, none⟩ v9) := by
  obtain ⟨k1, k2, k3, k4, k5⟩ := hx.grownT hg
  obtain ⟨h1, h2⟩ := xat_tests hx k1 k2 k3 k4 k5 _ _ hown
  have hw := wrote_setCell k1 54 v9
  have hlt := hx.lt
  have hst : w1.heap[b0]? = w.heap[b0]? := hg.block b0 (Array.getElem?_eq_some_iff.1 h.step).1 fun e => by
    obtain ⟨cur, fr, q⟩ := hx.tyT b0 e.symm
    rw [h.step] at q
    injection q with q
    injection q with _ q _
    exact absurd q (by decide)
  have hty : TyAt w u 9 := tyAt_owns h.ws.choose_spec.2.2
  have hux : u.ownBlock ≠ some xb := fun e => by have := (h.ws.low _ e).1; omega
  have e : (v.tests.take (i + 1)).map (tstM v s) = (v.tests.take i).map (tstM v s) ++ [q] := by
    rw [List.take_succ_eq_append_getElem hi, List.map_append, ← hq]
    rfl
  refine ⟨by rw [e]; exact ⟨_, _, _, _, _, _, _, h1⟩, h.bel.trans ((below_grown hg (Nat.le_of_lt hlt) (fun q e => by have := (hx.tests.low q e).1; omega)).trans h2), (hw.block b0 hb0).trans (hst.trans h.step), (h.ws.kept hg (tyAt_ne hty hx.tyT (by decide)) (fun _ h => h.elim)).wrote hw hux (fun _ h => h.elim)⟩
theorem wpList_build3M {P : Program} {ops : Array Oper} {rest : List Oper} {o : Oper} {a : Act} {w : World} {Q : Exit → Act → World → Prop} (hgd : o.guard = none) (t : TypeId) {i j k : Nat} (x y z : Operand) (ho : o.op = .build t #[(i, x), (j, y), (k, z)])
    (vx vy vz : Value) (hx : a.eval x = vx) (hy : a.eval y = vy) (hz : a.eval z = vz) (cells : Array Value) (hf : P.built t [(i, vx), (j, vy), (k, vz)] = some cells)
    (h : wpList P ops Q rest (a.put o.dst (.agg cells)) w) : wpList P ops Q (o :: rest) a w :=
  wpList_plain hgd fun _ hK => wp_build3M t x y z ho vx vy vz hx hy hz cells hf (hK _ _ h)
set_option maxRecDepth 100000 in
set_option maxHeartbeats 12800000 in
theorem test_any (xb : Nat) (c : Nat → Value) (x : StM) (v : ViewM) (s : StepM) (htx : s.text.size ≤ 100000) (hB : VB v) (m : Int) (w : World) (hm : w.cell? ⟨0, 0, none⟩ = some (.int .i64 m)) (hst : XSt xb c x w) (hv : VAt xb c v w) :
    Calls Tryz.prog 93 #[.pointer (some ⟨xb, 0, none⟩), stepV s] w fun e w' => e = .returned (.int .i64 (outZ v s v.tests)) ∧ XSt xb c { x with tests := v.tests.map (tstM v s) } w' ∧ Below xb w w' := by
  obtain ⟨op, nm, tx, n⟩ := s
  have htx : tx.size ≤ 100000 := htx
  have hlt := hst.lt
  obtain ⟨w1, hw1⟩ : ∃ w1, w.alloc (.cells #[.int .i64 op, .string nm, .string tx, .int .i64 n] 80 (0, 0)) = w1 := ⟨_, rfl⟩
  have hk1 : w1.heap[w.heap.size]? = some (.cells #[.int .i64 op, .string nm, .string tx, .int .i64 n] 80 (0, 0)) := by rw [← hw1]; exact hp_new rfl
  have hb1 : Below w.heap.size w w1 := by rw [← hw1]; exact (Below.refl _ w).alloc (Nat.le_refl _) _
  have hz1 : w.heap.size < w1.heap.size := (Array.getElem?_eq_some_iff.1 hk1).1
  have s2 : w1.cell? ⟨w.heap.size, 2, none⟩ = some (.string tx) := cell_of_blk hk1 2
  have SP := Lib.hid (Tryz.strings_Split tx ⟨#[32]⟩ m w1 (by omega) ((hb1.cell (p := ⟨0, 0, none⟩) (World.block_lt_of_cell? w _ hm)).trans hm) (by decide))
  have HW1 := Lib.hid hw1
  have HK1 := Lib.hid hk1
  have HST := Lib.hid (hst.grow hb1)
  have HV := Lib.hid hv
  have HBV := Lib.hid hB
  have HB1 : Hid (Below xb w w1) := hb1.mono (Nat.le_of_lt hlt)
  have HX0 := Lib.hid hst
  clear hst hv hB hk1 hb1 hw1 hm
  go_enter Tryz.func93, Tryz.ntmps93
  go_upto_region 1 with fail
  rw [HW1.out]
  clear HW1
  go_wp2_with fail
  refine SP.out.mono ?_
  rintro e w2 ⟨rfl, rfl⟩
  have hlen := Lib.splitB_all ⟨#[32]⟩ (by decide) 0 _ tx rfl
  have hle := Lib.countB_le ⟨#[32]⟩ (by decide) tx.size tx (Nat.le_refl _)
  have HPC := Lib.hid (split_32 tx)
  have HRW : Hid (EStr.Row (fun b => b < (w1.alloc (.cells ((Lib.splitB ⟨#[32]⟩ 0 (Lib.countB tx ⟨#[32]⟩) tx).map Value.string).toArray 9)).heap.size) (w1.alloc (.cells ((Lib.splitB ⟨#[32]⟩ 0 (Lib.countB tx ⟨#[32]⟩) tx).map Value.string).toArray 9)) (Lib.splitB ⟨#[32]⟩ 0 (Lib.countB tx ⟨#[32]⟩) tx) (.slice (some ⟨w1.heap.size, 0, none⟩) (Lib.countB tx ⟨#[32]⟩ + 1) (Lib.countB tx ⟨#[32]⟩ + 1))) := by
    refine row_strs (.inr ⟨w1.heap.size, 0, _, by rw [hlen], by simp, by rw [hlen]; exact Nat.le_refl _, fun i hi => ?_⟩)
    rw [cell_of_blk (hp_new rfl)]
    simp [List.getD, hi]
  have HB2 : Hid (Below w1.heap.size w1 (w1.alloc (.cells ((Lib.splitB ⟨#[32]⟩ 0 (Lib.countB tx ⟨#[32]⟩) tx).map Value.string).toArray 9))) := (Below.refl _ _).alloc (Nat.le_refl _) _
  have hss : (Lib.splitB ⟨#[32]⟩ 0 (Lib.countB tx ⟨#[32]⟩) tx).length ≤ 1000000 := by rw [hlen]; omega
  clear SP hlen hle s2
  generalize w1.alloc (.cells ((Lib.splitB ⟨#[32]⟩ 0 (Lib.countB tx ⟨#[32]⟩) tx).map Value.string).toArray 9) = w2 at *
  generalize Lib.splitB ⟨#[32]⟩ 0 (Lib.countB tx ⟨#[32]⟩) tx = ss at *
  have HWD : Hid (∀ t, (ss.filter fun w => !w.toList.isEmpty).contains t = wordF tx.data.toList (bs t)) := words_eq HPC.out
  clear HPC
  have CH := Lib.hid (chosen_s 135 #[] (fun w => !w.toList.isEmpty) ss _ _ hss w2 HRW.out (fun k hk W _ => clo_w ss[k] W) cloE_w)
  have hws : (ss.filter fun w => !w.toList.isEmpty).length ≤ 1000000 := Nat.le_trans (List.length_filter_le _ _) hss
  clear HRW hss
  generalize (ss.filter fun w => !w.toList.isEmpty) = ws at *
  go_wp2_with fail
  refine CH.out.mono ?_
  rintro e w3 ⟨u, rfl, hown, hb⟩
  have hz2 := HB2.out.size
  have HB3 := Lib.hid (HB2.out.trans (hb.mono HB2.out.size))
  have HX3 := Lib.hid (HST.out.grow HB3.out)
  have HOW : Hid (EStr.Own 9 (xb + 1) noB w3 ws u) := by
    obtain ⟨css, a1, a2, a3⟩ := hown
    exact ⟨css, a1, a2, a3.mono (by omega)⟩
  have HK3 := Lib.hid ((HB3.out.block _ hz1).trans HK1.out)
  have HB13 : Hid (Below xb w w3) := HB1.out.trans (HB3.out.mono HB1.out.size |>.mono (by omega))
  clear hb hown CH HB2
  obtain ⟨cs, p, l, r, o, t, sv, hx3⟩ := HX3.out
  have f54 := free_of_blk hx3.blk 54
  have c54 : w3.cell? ⟨xb, 54, none⟩ = some t := (cell_of_blk hx3.blk 54).trans hx3.c54
  have hp := hx3.putRow 54 (.slice none 0 0) ⟨by decide, by decide⟩ { x with tests := [] } ⟨rfl, rfl, rfl, rfl⟩ hx3.reads hx3.outs ElemK.Own.nil hx3.saves
  have HP := Lib.hid hp
  have HWR := Lib.hid (wrote_setCell hx3.blk 54 (.slice none 0 0))
  obtain ⟨tao, tac, hto⟩ := hx3.tests.form
  subst hto
  clear hx3 hp
  go_upto_region 3 with fail
  obtain ⟨w4, hw4⟩ : ∃ w4, w3.setCell ⟨xb, 54, none⟩ (.slice none 0 0) = w4 := ⟨_, rfl⟩
  rw [hw4] at HP HWR
  rw [hw4]
  have HXN : Hid (w.heap.size ≠ xb) := by unfold Hid; omega
  have HTS4 : Hid (TsSt xb c x v ⟨op, nm, tx, n⟩ w.heap.size ws u 0 w w4) := ⟨⟨_, _, _, _, _, _, _, HP.out.1⟩, HB13.out.trans HP.out.2, (HWR.out.block _ HXN.out).trans HK3.out, HOW.out.wrote HWR.out (fun e => by have := (HOW.out.low _ e).1; omega) (fun _ h => h.elim)⟩
  have HVS : Hid (∀ W, Below xb w W → VAt xb c v W) := fun W hb => HV.out.below hb
  obtain ⟨ko, kc, hko⟩ := HV.out.tests.form
  have c44 : w4.cell? ⟨xb, 44, none⟩ = some (.slice ko v.tests.length kc) := by rw [← hko]; exact HTS4.out.st.cell (by decide)
  have HKO := Lib.hid hko
  have HNT : Hid (v.tests.length ≤ 1000) := HBV.out.tests
  obtain ⟨b0, hb0⟩ : ∃ b0, w.heap.size = b0 := ⟨_, rfl⟩
  rw [hb0] at HTS4 HXN
  rw [hb0]
  clear hw4 f54 c54 HP HWR HOW HK3 HB13 HB3 HX3 HK1 HB1 HX0 hko HST hb0 hlt hz1 hz2 htx
  go_wp2_with fail
  go_loopg [6, 23] v.tests.length (TsRel xb c x v ⟨op, nm, tx, n⟩ b0 ws u w)
  case atStart => exact ⟨0, rfl, Nat.zero_le _, rfl, rfl, HTS4.out⟩
  case round =>
    obtain ⟨i, rfl, hi, rfl, rfl, hts⟩ := hrel
    have HTS := Lib.hid hts
    clear hts
    by_cases hlt : i < v.tests.length
    · have hkr := (HVS.out wr HTS.out.bel).tests
      rw [HKO.out] at hkr
      obtain ⟨b1, o1, rfl, _, hc1⟩ := strs_at hkr hlt
      have hii : (i : Int) < (v.tests.length : Int) := by omega
      have TM := Lib.hid (timed_any v.tests[i] xb v.times (c 45) _ (by have := HBV.out.times; omega) wr (HTS.out.st.cell (by decide)) (HVS.out wr HTS.out.bel).times)
      rw [timF_eq] at TM
      have HOZ := Lib.hid (outZ_step v ⟨op, nm, tx, n⟩ hlt)
      have HTM : Hid (tstM v ⟨op, nm, tx, n⟩ v.tests[i] = ⟨v.tests[i], if failsF v ⟨op, nm, tx, n⟩ v.tests[i] = true then 2 else 1, timedF v v.tests[i]⟩) := rfl
      have HFA : Hid (failsF v ⟨op, nm, tx, n⟩ v.tests[i] = (decide (v.attempt < n) && ws.contains v.tests[i])) := by
        unfold Hid failsF
        rw [HWD.out]
      have HBN : Hid (badN v ⟨op, nm, tx, n⟩ v.tests[i] = (failsF v ⟨op, nm, tx, n⟩ v.tests[i] && !v.ignored.contains v.tests[i])) := rfl
      have HPU : Hid (∀ (wa wb : World) (cs : Array Value) (p l r o t sv v9 : Value) (q : TstM), TsSt xb c x v ⟨op, nm, tx, n⟩ b0 ws u i w wa → XAt xb c { x with tests := (v.tests.take i).map (tstM v ⟨op, nm, tx, n⟩) } cs p l r o t sv wa → tstM v ⟨op, nm, tx, n⟩ v.tests[i] = q →
          ETst.Own 135 (xb + 1) noB wb ((v.tests.take i).map (tstM v ⟨op, nm, tx, n⟩) ++ [q]) v9 → wa.grownBy wb t.ownBlock → TsSt xb c x v ⟨op, nm, tx, n⟩ b0 ws u (i + 1) w (wb.setCell ⟨xb, 54, none⟩ v9)) :=
        fun wa wb cs p l r o t sv v9 q h1 h2 h3 h4 h5 => h1.push h2 HXN.out hlt h3 h4 h5
      have hal : ((v.tests.take i).map (tstM v ⟨op, nm, tx, n⟩)).length ≤ 1000 := by rw [List.length_map, List.length_take]; have := HNT.out; omega
      generalize v.tests[i] = nmi at *
      obtain ⟨tm, htm⟩ : ∃ tm, timedF v nmi = tm := ⟨_, rfl⟩
      rw [htm] at TM HTM
      obtain ⟨A, hA⟩ : ∃ A, (v.tests.take i).map (tstM v ⟨op, nm, tx, n⟩) = A := ⟨_, rfl⟩
      rw [hA] at HPU hal
      have HA := Lib.hid hA
      obtain ⟨zo, hzo⟩ : ∃ zo, outZ v ⟨op, nm, tx, n⟩ (v.tests.take i) = zo := ⟨_, rfl⟩
      rw [hzo] at HOZ ⊢
      have hnt := HNT.out
      clear hkr htm hA hzo
      obtain ⟨bw, hbw⟩ : ∃ b, ws.contains nmi = b := ⟨_, rfl⟩
      obtain ⟨bi, hbi⟩ : ∃ b, v.ignored.contains nmi = b := ⟨_, rfl⟩
      rw [hbw] at HFA
      rw [hbi] at HBN
      have CNW0 : Hid (∀ W, EStr.Own 9 (xb + 1) noB W ws u → Calls Tryz.prog 48 #[u, .string nmi] W fun e w' => e = .returned (.bool bw) ∧ w' = W) := fun W h => by
        have := contains_any nmi ws u _ (by omega) W (h.row (B' := fun _ => True) (fun _ _ => trivial) (fun _ _ => trivial))
        rw [hbw] at this
        exact this
      have CNI0 : Hid (∀ W, Below xb w W → Calls Tryz.prog 48 #[c 46, .string nmi] W fun e w' => e = .returned (.bool bi) ∧ w' = W) := fun W hb => by
        have := contains_any nmi v.ignored (c 46) _ (by have := HBV.out.ign; omega) W (HVS.out W hb).ign
        rw [hbi] at this
        exact this
      have HATT : Hid (c 47 = .int .i64 v.attempt) := (HVS.out wr HTS.out.bel).att
      obtain ⟨io, ic, hio⟩ := (HVS.out wr HTS.out.bel).ign.form
      have HIO := Lib.hid hio
      clear hbw hbi hio HWD HTS4 HKO
      as_aux_lemma =>
      go_wp2_with fail
      refine TM.out.mono ?_
      rintro e w4 ⟨rfl, hb4⟩
      have HTS4 := Lib.hid (HTS.out.grow hb4)
      clear hb4 TM hc1 HTS
      obtain ⟨cs, p, l, r, o, t, sv, hx4⟩ := HTS4.out.st
      rw [HA.out] at hx4
      have HX4 := Lib.hid hx4
      have HTL : Hid (∀ q, t.ownBlock = some q → q < w4.heap.size) := fun q e => (hx4.tests.low q e).2
      obtain ⟨tao, tac, hto⟩ := hx4.tests.form
      subst hto
      dsimp only at HTL
      have hx4l := hx4.lt
      have hb0l : b0 < w4.heap.size := (Array.getElem?_eq_some_iff.1 HTS4.out.step).1
      clear hx4
      go_wp2_with (first
        | (refine wpList_build3M rfl 135 (.tmp 27) (.const (.int .i64 1)) (.tmp 30) rfl _ _ _ rfl rfl rfl #[.string nmi, .int .i64 1, .int .i64 tm] (Tryz.built_tst _ _) ?_)
        | (refine wpList_store_row rfl 135 _ _ rfl w4.heap.size rfl 135 _ (hp_new rfl) (.agg #[.string nmi, .int .i64 1, .int .i64 tm]) rfl (by kernel_rfl) rfl rfl ?_))
      intro w5 hw5
      have HK5 : Hid (w5.heap[w4.heap.size]? = some (.cells #[.string nmi, .int .i64 1, .int .i64 tm] 135 (0, 0))) := hw5.at_
      have HB45 : Hid (Below w4.heap.size w4 w5) := ((Below.refl _ w4).alloc (Nat.le_refl _) _).trans (hw5.below (Nat.le_refl _))
      obtain ⟨b9, hb9⟩ : ∃ b, w4.heap.size = b := ⟨_, rfl⟩
      rw [hb9] at HK5 ⊢
      have hb9x : b9 ≠ xb := by omega
      have hb90 : b9 ≠ b0 := by omega
      have hb95 : b9 < w5.heap.size := (Array.getElem?_eq_some_iff.1 HK5.out).1
      have HKEY : Hid (∀ (w7 W8 w9 : World) (st : Int) (v9 : Value), Below w4.heap.size w4 w7 → w7.heap[b9]? = some (.cells #[.string nmi, .int .i64 st, .int .i64 tm] 135 (0, 0)) → Below w7.heap.size w7 W8 → ETst.Own 135 (xb + 1) noB w9 (A ++ [⟨nmi, st, tm⟩]) v9 → W8.grownBy w9 (Value.slice tao A.length tac).ownBlock →
          w9.cell? ⟨xb, 54, none⟩ = some (.slice tao A.length tac) ∧ w9.frozen? ⟨xb, 54, none⟩ = false ∧ (tstM v ⟨op, nm, tx, n⟩ nmi = ⟨nmi, st, tm⟩ → TsSt xb c x v ⟨op, nm, tx, n⟩ b0 ws u (i + 1) w (w9.setCell ⟨xb, 54, none⟩ v9)) ∧ w9.cell? ⟨b9, 0, none⟩ = some (.string nmi) ∧ w9.cell? ⟨b9, 1, none⟩ = some (.int .i64 st) ∧ w9.cell? ⟨b9, 2, none⟩ = some (.int .i64 tm)) := by
        intro w7 W8 w9 st v9 h47 hk7 h78 hown hg
        have h48 := h47.trans (h78.mono h47.size)
        have hx8 := HX4.out.grow h48
        have hk1 := (hx8.grownT hg).1
        have hb97 : b9 < w7.heap.size := (Array.getElem?_eq_some_iff.1 hk7).1
        have hk9 := (hg.block b9 (Nat.lt_of_lt_of_le hb97 h78.size) (fun e => by have := HTL.out _ e.symm; omega)).trans ((h78.block _ hb97).trans hk7)
        exact ⟨(cell_of_blk hk1 54).trans hx8.c54, free_of_blk hk1 54, fun e => HPU.out W8 w9 _ _ _ _ _ _ _ _ _ (HTS4.out.grow h48) hx8 e hown hg, cell_of_blk hk9 0, cell_of_blk hk9 1, cell_of_blk hk9 2⟩
      have HTS5 := Lib.hid (HTS4.out.grow HB45.out)
      have HS8 : Hid (∀ W' : World, Below w5.heap.size w5 W' → W'.cell? ⟨xb, 47, none⟩ = some (.int .i64 v.attempt) ∧ W'.cell? ⟨b0, 3, none⟩ = some (.int .i64 n)) := fun W' hb => ⟨by rw [← HATT.out]; exact (HTS5.out.grow hb).st.cell (by decide), cell_of_blk (HTS5.out.grow hb).step 3⟩
      have CNW : Hid (∀ W, Below w5.heap.size w5 W → Calls Tryz.prog 48 #[u, .string nmi] W fun e w' => e = .returned (.bool bw) ∧ w' = W) := fun W hb => CNW0.out W (HTS5.out.grow hb).ws
      have HDR : Hid (Below w5.heap.size w5 w5.drew) := (Below.refl _ _).drew
      obtain ⟨iE, hiE, hzE, hnE, hyE⟩ := Tryz.infoTst'
      have HI := Lib.hid hiE
      clear hw5 hiE HPU CNW0
      by_cases hd : v.attempt < n
      · have HFT : Hid (failsF v ⟨op, nm, tx, n⟩ nmi = bw) := by unfold Hid; rw [HFA.out, decide_eq_true hd, Bool.true_and]
        clear HFA
        go_upto_region 8 with fail
        refine wp_region_Z (S := fun W' : World => W'.cell? ⟨xb, 47, none⟩ = some (.int .i64 v.attempt) ∧ W'.cell? ⟨b0, 3, none⟩ = some (.int .i64 n)) 13 (by kernel_rfl) (HS8.out _ HDR.out) (fun hHeld => ?_)
        refine wpAnyZ_takeE 16 (i := 0) (v := ?_) rfl (by kernel_rfl) (by kernel_rfl) (by kernel_rfl) (by kernel_rfl) (fun _ _ _ h => h) (Or.inl ⟨by rfl, ?_⟩) (by assumption) ?_
        rotate_left
        · (intro w hSw; (try dsimp only at hSw); go_simp; try with_reducible rfl)
        try simp only [Act.put, zA, zB, zC]
        refine wpAnyZ_takeE 16 (i := 1) (v := ?_) rfl (by kernel_rfl) (by kernel_rfl) (by kernel_rfl) (by kernel_rfl) (fun _ _ _ h => h) (Or.inl ⟨by rfl, ?_⟩) (by assumption) ?_
        rotate_left
        · (intro w hSw; (try dsimp only at hSw); go_simp; try with_reducible rfl)
        try simp only [Act.put, zA, zB, zC]
        refine wpAnyZ_takeE 16 (i := 2) (v := ?_) rfl (by kernel_rfl) (by kernel_rfl) (by kernel_rfl) (by kernel_rfl) (fun _ _ _ h => h) (Or.inl ⟨by rfl, ?_⟩) (by assumption) ?_
        rotate_left
        · (intro w hSw; (try dsimp only at hSw); go_simp; try with_reducible rfl)
        try simp only [Act.put, zA, zB, zC]
        refine wpAnyZ_takeE 16 (i := 3) (v := ?_) rfl (by kernel_rfl) (by kernel_rfl) (by kernel_rfl) (by kernel_rfl) (fun _ _ _ h => h) (Or.inl ⟨by rfl, ?_⟩) (by assumption) ?_
        rotate_left
        · (intro w hSw; (try dsimp only at hSw); go_simp; try with_reducible rfl)
        try simp only [Act.put, zA, zB, zC]
        refine wpAnyZ_takeE 16 (i := 4) (v := ?_) rfl (by kernel_rfl) (by kernel_rfl) (by kernel_rfl) (by kernel_rfl) (fun _ _ _ h => h) (Or.inl ⟨by rfl, ?_⟩) (by assumption) ?_
        rotate_left
        · (intro w hSw; (try dsimp only at hSw); go_simp; try with_reducible rfl)
        try simp only [Act.put, zA, zB, zC]
        refine wpAnyZ_takeE 16 (i := 5) (v := ?_) rfl (by kernel_rfl) (by kernel_rfl) (by kernel_rfl) (by kernel_rfl) (fun _ _ _ h => h) (Or.inl ⟨by rfl, ?_⟩) (by assumption) ?_
        rotate_left
        · (intro w hSw; (try dsimp only at hSw); go_simp; try with_reducible rfl)
        try simp only [Act.put, zA, zB, zC]
        refine wpAnyZ_takeE 16 (i := 6) (v := ?_) rfl (by kernel_rfl) (by kernel_rfl) (by kernel_rfl) (by kernel_rfl) (fun _ _ _ h => h) (Or.inl ⟨by rfl, ?_⟩) (by assumption) ?_
        rotate_left
        · (intro w hSw; (try dsimp only at hSw); go_simp; try with_reducible rfl)
        try simp only [Act.put, zA, zB, zC]
        refine wpAnyZ_takeE 16 (i := 7) (v := ?_) rfl (by kernel_rfl) (by kernel_rfl) (by kernel_rfl) (by kernel_rfl) (fun _ _ _ h => h) (Or.inl ⟨by rfl, ?_⟩) (by assumption) ?_
        rotate_left
        · (intro w hSw; (try dsimp only at hSw); go_simp; try with_reducible rfl)
        try simp only [Act.put, zA, zB, zC]
        refine wpAnyZ_takeE 16 (i := 8) (v := ?_) rfl (by kernel_rfl) (by kernel_rfl) (by kernel_rfl) (by kernel_rfl) (fun _ _ _ h => h) (Or.inl ⟨by rfl, ?_⟩) (by assumption) ?_
        rotate_left
        · (intro w hSw; (try dsimp only at hSw); go_simp; try with_reducible rfl)
        try simp only [Act.put, zA, zB, zC]
        refine wpAnyZ_takeE 16 (i := 9) (v := ?_) rfl (by kernel_rfl) (by kernel_rfl) (by kernel_rfl) (by kernel_rfl) (fun _ _ _ h => h) (Or.inl ⟨by rfl, ?_⟩) (by assumption) ?_
        rotate_left
        · (intro w hSw; (try dsimp only at hSw); go_simp; try with_reducible rfl)
        try simp only [Act.put, zA, zB, zC]
        refine wpAnyZ_takeE 16 (i := 10) (v := ?_) rfl (by kernel_rfl) (by kernel_rfl) (by kernel_rfl) (by kernel_rfl) (fun _ _ _ h => h) (Or.inl ⟨by rfl, ?_⟩) (by assumption) ?_
        rotate_left
        · (intro w hSw; (try dsimp only at hSw); go_simp; try with_reducible rfl)
        try simp only [Act.put, zA, zB, zC]
        refine wpAnyZ_oneL (i := 11) (by kernel_rfl) rfl (fun K hK => ?_)
        go_simp
        go_at_call 48
        refine (CNW.out _ HDR.out).mono ?_
        rintro e w6 ⟨rfl, hw6⟩
        have HB6 : Hid (Below w5.heap.size w5 w6) := by unfold Hid; rw [hw6]; exact HDR.out
        clear hw6
        refine hK.out _ _ (fun _ => HS8.out _ HB6.out) (fun hHeld => ?_)
        replace hHeld := hHeld (by decide)
        clear hK K
        try simp only [Act.put, zA, zB, zC]
        refine wpAnyZ_takeE 16 (i := 12) (v := ?_) rfl (by kernel_rfl) (by kernel_rfl) (by kernel_rfl) (by kernel_rfl) (fun _ _ _ h => h) (Or.inl ⟨by rfl, ?_⟩) (by assumption) ?_
        rotate_left
        · (intro w hSw; (try dsimp only at hSw); go_simp; try with_reducible rfl)
        try simp only [Act.put, zA, zB, zC]
        refine wpAnyZ_done (by kernel_rfl) ?_ _
        clear hHeld
        have HB46 := Lib.hid (HB45.out.trans (HB6.out.mono HB45.out.size))
        have HK6 := Lib.hid ((HB6.out.block _ hb95).trans HK5.out)
        clear HS8 CNW HDR HB6 HK5 HTS5 hd
        cases bw with
        | true =>
          rw [HFT.out] at HBN HTM
          have k69 := HK6.out
          have c69 : w6.cell? ⟨b9, 1, none⟩ = some (.int .i64 1) := cell_of_blk k69 1
          have f69 := free_of_blk k69 1
          have hw7 := wrote_setCell k69 1 (.int .i64 2)
          have HW7 := Lib.hid hw7
          clear k69 hw7
          go_upto_region 10 with fail
          obtain ⟨w7, hw7⟩ : ∃ W, w6.setCell ⟨b9, 1, none⟩ (.int .i64 2) = W := ⟨_, rfl⟩
          rw [hw7] at HW7
          rw [hw7]
          have HK7 : Hid (w7.heap[b9]? = some (.cells #[.string nmi, .int .i64 2, .int .i64 tm] 135 (0, 0))) := HW7.out.at_
          have HB47 : Hid (Below w4.heap.size w4 w7) := HB46.out.trans (HW7.out.below (by omega))
          have hx7 := HX4.out.grow HB47.out
          have HX7 := Lib.hid hx7
          have c746 : w7.cell? ⟨xb, 46, none⟩ = some (.slice io v.ignored.length ic) := by rw [← HIO.out]; exact hx7.cell (by decide)
          have CNI := Lib.hid (CNI0.out w7 (HTS4.out.grow HB47.out).bel)
          rw [HIO.out] at CNI
          have HS12 : Hid (∀ W' : World, Below w7.heap.size w7 W' → W'.cell? ⟨xb, 54, none⟩ = some (.slice tao A.length tac) ∧ W'.cell? ⟨b9, 0, none⟩ = some (.string nmi) ∧ W'.cell? ⟨b9, 1, none⟩ = some (.int .i64 2) ∧ W'.cell? ⟨b9, 2, none⟩ = some (.int .i64 tm)) := fun W' hb =>
            have q := (hb.block _ (Array.getElem?_eq_some_iff.1 HK7.out).1).trans HK7.out
            ⟨(cell_of_blk (HX7.out.grow hb).blk 54).trans (HX7.out.grow hb).c54, cell_of_blk q 0, cell_of_blk q 1, cell_of_blk q 2⟩
          have HDR2 : Hid (Below w7.heap.size w7 w7.drew) := (Below.refl _ _).drew
          clear hw7 c69 f69 hx7 HW7 HB46 HK6 CNI0
          go_wp2_with fail
          refine CNI.out.mono ?_
          rintro e w8 ⟨rfl, hw8⟩
          rw [hw8]
          clear CNI c746 hw8 w8
          cases bi with
          | true =>
            rw [HBN.out, if_neg (by simp)] at HOZ
            go_upto_region 12 with fail
            refine wp_region_Z (S := fun W' : World => W'.cell? ⟨xb, 54, none⟩ = some (.slice tao A.length tac) ∧ W'.cell? ⟨b9, 0, none⟩ = some (.string nmi) ∧ W'.cell? ⟨b9, 1, none⟩ = some (.int .i64 2) ∧ W'.cell? ⟨b9, 2, none⟩ = some (.int .i64 tm)) 10 (by kernel_rfl) (HS12.out _ HDR2.out) (fun hHeld => ?_)
            refine wpAnyZ_takeE 16 (i := 0) (v := ?_) rfl (by kernel_rfl) (by kernel_rfl) (by kernel_rfl) (by kernel_rfl) (fun _ _ _ h => h) (Or.inl ⟨by rfl, ?_⟩) (by assumption) ?_
            rotate_left
            · (intro w hSw; (try dsimp only at hSw); go_simp; try with_reducible rfl)
            try simp only [Act.put, zA, zB, zC]
            refine wpAnyZ_takeE 16 (i := 1) (v := ?_) rfl (by kernel_rfl) (by kernel_rfl) (by kernel_rfl) (by kernel_rfl) (fun _ _ _ h => h) (Or.inl ⟨by rfl, ?_⟩) (by assumption) ?_
            rotate_left
            · (intro w hSw; (try dsimp only at hSw); go_simp; try with_reducible rfl)
            try simp only [Act.put, zA, zB, zC]
            refine wpAnyZ_takeE 16 (i := 2) (v := ?_) rfl (by kernel_rfl) (by kernel_rfl) (by kernel_rfl) (by kernel_rfl) (fun _ _ _ h => h) (Or.inl ⟨by rfl, ?_⟩) (by assumption) ?_
            rotate_left
            · (intro w hSw; (try dsimp only at hSw); go_simp; try with_reducible rfl)
            try simp only [Act.put, zA, zB, zC]
            refine wpAnyZ_takeE 16 (i := 3) (v := ?_) rfl (by kernel_rfl) (by kernel_rfl) (by kernel_rfl) (by kernel_rfl) (fun _ _ _ h => h) (Or.inl ⟨by rfl, ?_⟩) (by assumption) ?_
            rotate_left
            · (intro w hSw; (try dsimp only at hSw); go_simp; try with_reducible rfl)
            try simp only [Act.put, zA, zB, zC]
            refine wpAnyZ_takeE 16 (i := 4) (v := ?_) rfl (by kernel_rfl) (by kernel_rfl) (by kernel_rfl) (by kernel_rfl) (fun _ _ _ h => h) (Or.inl ⟨by rfl, ?_⟩) (by assumption) ?_
            rotate_left
            · (intro w hSw; (try dsimp only at hSw); go_simp; try with_reducible rfl)
            try simp only [Act.put, zA, zB, zC]
            refine wpAnyZ_takeE 16 (i := 5) (v := ?_) rfl (by kernel_rfl) (by kernel_rfl) (by kernel_rfl) (by kernel_rfl) (fun _ _ _ h => h) (Or.inl ⟨by rfl, ?_⟩) (by assumption) ?_
            rotate_left
            · (intro w hSw; (try dsimp only at hSw); go_simp; try with_reducible rfl)
            try simp only [Act.put, zA, zB, zC]
            obtain ⟨wd, hwd⟩ : ∃ wd, w7.drew = wd := ⟨_, rfl⟩
            rw [hwd] at HDR2 hHeld ⊢
            refine wpAnyZ_oneL (i := 6) (by kernel_rfl) rfl (fun K hK => ?_)
            rw [if_pos (by rfl)]
            refine wp_build1 50 135 (.tmp 59) rfl #[.string nmi, .int .i64 2, .int .i64 tm] iE _ Tryz.underlying50 HI.out hzE 3 hnE (by decide) (by decide) rfl rfl ?_
            obtain ⟨W8, hW8⟩ : ∃ W8, wd.alloc (.cells #[.string nmi, .int .i64 2, .int .i64 tm] 135) = W8 := ⟨_, rfl⟩
            have hk8 : W8.heap[wd.heap.size]? = some (.cells #[.string nmi, .int .i64 2, .int .i64 tm] 135 (0, 0)) := by rw [← hW8]; exact hp_new rfl
            have HB8 : Hid (Below w7.heap.size w7 W8) := by unfold Hid; rw [← hW8]; exact HDR2.out.alloc HDR2.out.size _
            have hx8 := HX7.out.grow HB8.out
            have hz8 := HB8.out.size
            have hl7 := HX7.out.lt
            have hS8 := HS12.out _ HB8.out
            rw [hW8]
            clear hW8
            refine hK.out _ _ (fun _ => hS8) (fun hHeld => ?_)
            replace hHeld := hHeld (by decide)
            clear hK K
            try simp only [Act.put, zA, zB, zC]
            refine wpAnyZ_oneL (i := 7) (by kernel_rfl) rfl (fun K hK => ?_)
            rw [if_pos (by rfl)]
            refine wp_own_push (E := ETst) (.tmp 58) (.tmp 60) 50 rfl (xb + 1) 135 iE _ 32 Tryz.underlying50 HI.out hzE hnE hyE rfl A _ rfl hx8.tests ⟨nmi, 2, tm⟩ [.string nmi, .int .i64 2, .int .i64 tm] rfl wd.heap.size (0, 0) hk8 rfl (by unfold maxLen; omega) (by omega) (by omega) ?_
            intro v9 w9 hown hgrow hpu
            obtain ⟨c549, f549, hrel, hs9⟩ := HKEY.out w7 W8 w9 (2) v9 HB47.out HK7.out HB8.out hown hgrow
            obtain ⟨g9, p9, hv9⟩ := hpu.form
            subst hv9
            have HREL := Lib.hid hrel
            clear hown hgrow hpu hrel hx8 hk8 hS8
            refine hK.out _ _ (fun _ => ⟨c549, hs9⟩) (fun hHeld => ?_)
            replace hHeld := hHeld (by decide)
            clear hK K
            try simp only [Act.put, zA, zB, zC]
            refine wpAnyZ_takeE 16 (i := 8) (v := ?_) rfl (by kernel_rfl) (by kernel_rfl) (by kernel_rfl) (by kernel_rfl) (fun _ _ _ h => h) (Or.inl ⟨by rfl, ?_⟩) (by assumption) ?_
            rotate_left
            · (intro w hSw; (try dsimp only at hSw); go_simp; try with_reducible rfl)
            try simp only [Act.put, zA, zB, zC]
            refine wpAnyZ_takeE 16 (i := 9) (v := ?_) rfl (by kernel_rfl) (by kernel_rfl) (by kernel_rfl) (by kernel_rfl) (fun _ _ _ h => h) (Or.inl ⟨by rfl, ?_⟩) (by assumption) ?_
            rotate_left
            · (intro w hSw; (try dsimp only at hSw); go_simp; try with_reducible rfl)
            try simp only [Act.put, zA, zB, zC]
            refine wpAnyZ_oneL (i := 10) (by kernel_rfl) rfl (fun K hK => ?_)
            go_simp
            refine hK.out _ _ (fun h => absurd h (by decide)) (fun _ => ?_)
            clear hK K
            try simp only [Act.put, zA, zB, zC]
            refine wpAnyZ_done (by kernel_rfl) ?_ _
            clear hHeld
            go_wp2_with fail
            go_roundg (v.tests.length - (i + 1))
            case measure => omega
            case rel => exact ⟨i + 1, by go_num, by omega, rfl, by rw [HOZ.out], HREL.out HTM.out⟩
          | false =>
            rw [HBN.out, if_pos (show (true && !false) = true from rfl)] at HOZ
            go_upto_region 12 with fail
            refine wp_region_Z (S := fun W' : World => W'.cell? ⟨xb, 54, none⟩ = some (.slice tao A.length tac) ∧ W'.cell? ⟨b9, 0, none⟩ = some (.string nmi) ∧ W'.cell? ⟨b9, 1, none⟩ = some (.int .i64 2) ∧ W'.cell? ⟨b9, 2, none⟩ = some (.int .i64 tm)) 10 (by kernel_rfl) (HS12.out _ HDR2.out) (fun hHeld => ?_)
            refine wpAnyZ_takeE 16 (i := 0) (v := ?_) rfl (by kernel_rfl) (by kernel_rfl) (by kernel_rfl) (by kernel_rfl) (fun _ _ _ h => h) (Or.inl ⟨by rfl, ?_⟩) (by assumption) ?_
            rotate_left
            · (intro w hSw; (try dsimp only at hSw); go_simp; try with_reducible rfl)
            try simp only [Act.put, zA, zB, zC]
            refine wpAnyZ_takeE 16 (i := 1) (v := ?_) rfl (by kernel_rfl) (by kernel_rfl) (by kernel_rfl) (by kernel_rfl) (fun _ _ _ h => h) (Or.inl ⟨by rfl, ?_⟩) (by assumption) ?_
            rotate_left
            · (intro w hSw; (try dsimp only at hSw); go_simp; try with_reducible rfl)
            try simp only [Act.put, zA, zB, zC]
            refine wpAnyZ_takeE 16 (i := 2) (v := ?_) rfl (by kernel_rfl) (by kernel_rfl) (by kernel_rfl) (by kernel_rfl) (fun _ _ _ h => h) (Or.inl ⟨by rfl, ?_⟩) (by assumption) ?_
            rotate_left
            · (intro w hSw; (try dsimp only at hSw); go_simp; try with_reducible rfl)
            try simp only [Act.put, zA, zB, zC]
            refine wpAnyZ_takeE 16 (i := 3) (v := ?_) rfl (by kernel_rfl) (by kernel_rfl) (by kernel_rfl) (by kernel_rfl) (fun _ _ _ h => h) (Or.inl ⟨by rfl, ?_⟩) (by assumption) ?_
            rotate_left
            · (intro w hSw; (try dsimp only at hSw); go_simp; try with_reducible rfl)
            try simp only [Act.put, zA, zB, zC]
            refine wpAnyZ_takeE 16 (i := 4) (v := ?_) rfl (by kernel_rfl) (by kernel_rfl) (by kernel_rfl) (by kernel_rfl) (fun _ _ _ h => h) (Or.inl ⟨by rfl, ?_⟩) (by assumption) ?_
            rotate_left
            · (intro w hSw; (try dsimp only at hSw); go_simp; try with_reducible rfl)
            try simp only [Act.put, zA, zB, zC]
            refine wpAnyZ_takeE 16 (i := 5) (v := ?_) rfl (by kernel_rfl) (by kernel_rfl) (by kernel_rfl) (by kernel_rfl) (fun _ _ _ h => h) (Or.inl ⟨by rfl, ?_⟩) (by assumption) ?_
            rotate_left
            · (intro w hSw; (try dsimp only at hSw); go_simp; try with_reducible rfl)
            try simp only [Act.put, zA, zB, zC]
            obtain ⟨wd, hwd⟩ : ∃ wd, w7.drew = wd := ⟨_, rfl⟩
            rw [hwd] at HDR2 hHeld ⊢
            refine wpAnyZ_oneL (i := 6) (by kernel_rfl) rfl (fun K hK => ?_)
            rw [if_pos (by rfl)]
            refine wp_build1 50 135 (.tmp 59) rfl #[.string nmi, .int .i64 2, .int .i64 tm] iE _ Tryz.underlying50 HI.out hzE 3 hnE (by decide) (by decide) rfl rfl ?_
            obtain ⟨W8, hW8⟩ : ∃ W8, wd.alloc (.cells #[.string nmi, .int .i64 2, .int .i64 tm] 135) = W8 := ⟨_, rfl⟩
            have hk8 : W8.heap[wd.heap.size]? = some (.cells #[.string nmi, .int .i64 2, .int .i64 tm] 135 (0, 0)) := by rw [← hW8]; exact hp_new rfl
            have HB8 : Hid (Below w7.heap.size w7 W8) := by unfold Hid; rw [← hW8]; exact HDR2.out.alloc HDR2.out.size _
            have hx8 := HX7.out.grow HB8.out
            have hz8 := HB8.out.size
            have hl7 := HX7.out.lt
            have hS8 := HS12.out _ HB8.out
            rw [hW8]
            clear hW8
            refine hK.out _ _ (fun _ => hS8) (fun hHeld => ?_)
            replace hHeld := hHeld (by decide)
            clear hK K
            try simp only [Act.put, zA, zB, zC]
            refine wpAnyZ_oneL (i := 7) (by kernel_rfl) rfl (fun K hK => ?_)
            rw [if_pos (by rfl)]
            refine wp_own_push (E := ETst) (.tmp 58) (.tmp 60) 50 rfl (xb + 1) 135 iE _ 32 Tryz.underlying50 HI.out hzE hnE hyE rfl A _ rfl hx8.tests ⟨nmi, 2, tm⟩ [.string nmi, .int .i64 2, .int .i64 tm] rfl wd.heap.size (0, 0) hk8 rfl (by unfold maxLen; omega) (by omega) (by omega) ?_
            intro v9 w9 hown hgrow hpu
            obtain ⟨c549, f549, hrel, hs9⟩ := HKEY.out w7 W8 w9 (2) v9 HB47.out HK7.out HB8.out hown hgrow
            obtain ⟨g9, p9, hv9⟩ := hpu.form
            subst hv9
            have HREL := Lib.hid hrel
            clear hown hgrow hpu hrel hx8 hk8 hS8
            refine hK.out _ _ (fun _ => ⟨c549, hs9⟩) (fun hHeld => ?_)
            replace hHeld := hHeld (by decide)
            clear hK K
            try simp only [Act.put, zA, zB, zC]
            refine wpAnyZ_takeE 16 (i := 8) (v := ?_) rfl (by kernel_rfl) (by kernel_rfl) (by kernel_rfl) (by kernel_rfl) (fun _ _ _ h => h) (Or.inl ⟨by rfl, ?_⟩) (by assumption) ?_
            rotate_left
            · (intro w hSw; (try dsimp only at hSw); go_simp; try with_reducible rfl)
            try simp only [Act.put, zA, zB, zC]
            refine wpAnyZ_takeE 16 (i := 9) (v := ?_) rfl (by kernel_rfl) (by kernel_rfl) (by kernel_rfl) (by kernel_rfl) (fun _ _ _ h => h) (Or.inl ⟨by rfl, ?_⟩) (by assumption) ?_
            rotate_left
            · (intro w hSw; (try dsimp only at hSw); go_simp; try with_reducible rfl)
            try simp only [Act.put, zA, zB, zC]
            refine wpAnyZ_oneL (i := 10) (by kernel_rfl) rfl (fun K hK => ?_)
            go_simp
            refine hK.out _ _ (fun h => absurd h (by decide)) (fun _ => ?_)
            clear hK K
            try simp only [Act.put, zA, zB, zC]
            refine wpAnyZ_done (by kernel_rfl) ?_ _
            clear hHeld
            go_wp2_with fail
            go_roundg (v.tests.length - (i + 1))
            case measure => omega
            case rel => exact ⟨i + 1, by go_num, by omega, rfl, by rw [HOZ.out], HREL.out HTM.out⟩
        | false =>
          rw [HFT.out] at HBN HTM
          rw [HBN.out, Bool.false_and, if_neg (by simp)] at HOZ
          obtain ⟨w7, hw7⟩ : ∃ W, w6 = W := ⟨_, rfl⟩
          rw [hw7] at HB46 HK6 ⊢
          clear hw7
          have HB47 := HB46
          have HX7 := Lib.hid (HX4.out.grow HB46.out)
          have HK7 := HK6
          have HS12 : Hid (∀ W' : World, Below w7.heap.size w7 W' → W'.cell? ⟨xb, 54, none⟩ = some (.slice tao A.length tac) ∧ W'.cell? ⟨b9, 0, none⟩ = some (.string nmi) ∧ W'.cell? ⟨b9, 1, none⟩ = some (.int .i64 1) ∧ W'.cell? ⟨b9, 2, none⟩ = some (.int .i64 tm)) := fun W' hb =>
            have q := (hb.block _ (Array.getElem?_eq_some_iff.1 HK7.out).1).trans HK7.out
            ⟨(cell_of_blk (HX7.out.grow hb).blk 54).trans (HX7.out.grow hb).c54, cell_of_blk q 0, cell_of_blk q 1, cell_of_blk q 2⟩
          have HDR2 : Hid (Below w7.heap.size w7 w7.drew) := (Below.refl _ _).drew
          go_upto_region 12 with fail
          refine wp_region_Z (S := fun W' : World => W'.cell? ⟨xb, 54, none⟩ = some (.slice tao A.length tac) ∧ W'.cell? ⟨b9, 0, none⟩ = some (.string nmi) ∧ W'.cell? ⟨b9, 1, none⟩ = some (.int .i64 1) ∧ W'.cell? ⟨b9, 2, none⟩ = some (.int .i64 tm)) 10 (by kernel_rfl) (HS12.out _ HDR2.out) (fun hHeld => ?_)
          refine wpAnyZ_takeE 16 (i := 0) (v := ?_) rfl (by kernel_rfl) (by kernel_rfl) (by kernel_rfl) (by kernel_rfl) (fun _ _ _ h => h) (Or.inl ⟨by rfl, ?_⟩) (by assumption) ?_
          rotate_left
          · (intro w hSw; (try dsimp only at hSw); go_simp; try with_reducible rfl)
          try simp only [Act.put, zA, zB, zC]
          refine wpAnyZ_takeE 16 (i := 1) (v := ?_) rfl (by kernel_rfl) (by kernel_rfl) (by kernel_rfl) (by kernel_rfl) (fun _ _ _ h => h) (Or.inl ⟨by rfl, ?_⟩) (by assumption) ?_
          rotate_left
          · (intro w hSw; (try dsimp only at hSw); go_simp; try with_reducible rfl)
          try simp only [Act.put, zA, zB, zC]
          refine wpAnyZ_takeE 16 (i := 2) (v := ?_) rfl (by kernel_rfl) (by kernel_rfl) (by kernel_rfl) (by kernel_rfl) (fun _ _ _ h => h) (Or.inl ⟨by rfl, ?_⟩) (by assumption) ?_
          rotate_left
          · (intro w hSw; (try dsimp only at hSw); go_simp; try with_reducible rfl)
          try simp only [Act.put, zA, zB, zC]
          refine wpAnyZ_takeE 16 (i := 3) (v := ?_) rfl (by kernel_rfl) (by kernel_rfl) (by kernel_rfl) (by kernel_rfl) (fun _ _ _ h => h) (Or.inl ⟨by rfl, ?_⟩) (by assumption) ?_
          rotate_left
          · (intro w hSw; (try dsimp only at hSw); go_simp; try with_reducible rfl)
          try simp only [Act.put, zA, zB, zC]
          refine wpAnyZ_takeE 16 (i := 4) (v := ?_) rfl (by kernel_rfl) (by kernel_rfl) (by kernel_rfl) (by kernel_rfl) (fun _ _ _ h => h) (Or.inl ⟨by rfl, ?_⟩) (by assumption) ?_
          rotate_left
          · (intro w hSw; (try dsimp only at hSw); go_simp; try with_reducible rfl)
          try simp only [Act.put, zA, zB, zC]
          refine wpAnyZ_takeE 16 (i := 5) (v := ?_) rfl (by kernel_rfl) (by kernel_rfl) (by kernel_rfl) (by kernel_rfl) (fun _ _ _ h => h) (Or.inl ⟨by rfl, ?_⟩) (by assumption) ?_
          rotate_left
          · (intro w hSw; (try dsimp only at hSw); go_simp; try with_reducible rfl)
          try simp only [Act.put, zA, zB, zC]
          obtain ⟨wd, hwd⟩ : ∃ wd, w7.drew = wd := ⟨_, rfl⟩
          rw [hwd] at HDR2 hHeld ⊢
          refine wpAnyZ_oneL (i := 6) (by kernel_rfl) rfl (fun K hK => ?_)
          rw [if_pos (by rfl)]
          refine wp_build1 50 135 (.tmp 59) rfl #[.string nmi, .int .i64 1, .int .i64 tm] iE _ Tryz.underlying50 HI.out hzE 3 hnE (by decide) (by decide) rfl rfl ?_
          obtain ⟨W8, hW8⟩ : ∃ W8, wd.alloc (.cells #[.string nmi, .int .i64 1, .int .i64 tm] 135) = W8 := ⟨_, rfl⟩
          have hk8 : W8.heap[wd.heap.size]? = some (.cells #[.string nmi, .int .i64 1, .int .i64 tm] 135 (0, 0)) := by rw [← hW8]; exact hp_new rfl
          have HB8 : Hid (Below w7.heap.size w7 W8) := by unfold Hid; rw [← hW8]; exact HDR2.out.alloc HDR2.out.size _
          have hx8 := HX7.out.grow HB8.out
          have hz8 := HB8.out.size
          have hl7 := HX7.out.lt
          have hS8 := HS12.out _ HB8.out
          rw [hW8]
          clear hW8
          refine hK.out _ _ (fun _ => hS8) (fun hHeld => ?_)
          replace hHeld := hHeld (by decide)
          clear hK K
          try simp only [Act.put, zA, zB, zC]
          refine wpAnyZ_oneL (i := 7) (by kernel_rfl) rfl (fun K hK => ?_)
          rw [if_pos (by rfl)]
          refine wp_own_push (E := ETst) (.tmp 58) (.tmp 60) 50 rfl (xb + 1) 135 iE _ 32 Tryz.underlying50 HI.out hzE hnE hyE rfl A _ rfl hx8.tests ⟨nmi, 1, tm⟩ [.string nmi, .int .i64 1, .int .i64 tm] rfl wd.heap.size (0, 0) hk8 rfl (by unfold maxLen; omega) (by omega) (by omega) ?_
          intro v9 w9 hown hgrow hpu
          obtain ⟨c549, f549, hrel, hs9⟩ := HKEY.out w7 W8 w9 (1) v9 HB47.out HK7.out HB8.out hown hgrow
          obtain ⟨g9, p9, hv9⟩ := hpu.form
          subst hv9
          have HREL := Lib.hid hrel
          clear hown hgrow hpu hrel hx8 hk8 hS8
          refine hK.out _ _ (fun _ => ⟨c549, hs9⟩) (fun hHeld => ?_)
          replace hHeld := hHeld (by decide)
          clear hK K
          try simp only [Act.put, zA, zB, zC]
          refine wpAnyZ_takeE 16 (i := 8) (v := ?_) rfl (by kernel_rfl) (by kernel_rfl) (by kernel_rfl) (by kernel_rfl) (fun _ _ _ h => h) (Or.inl ⟨by rfl, ?_⟩) (by assumption) ?_
          rotate_left
          · (intro w hSw; (try dsimp only at hSw); go_simp; try with_reducible rfl)
          try simp only [Act.put, zA, zB, zC]
          refine wpAnyZ_takeE 16 (i := 9) (v := ?_) rfl (by kernel_rfl) (by kernel_rfl) (by kernel_rfl) (by kernel_rfl) (fun _ _ _ h => h) (Or.inl ⟨by rfl, ?_⟩) (by assumption) ?_
          rotate_left
          · (intro w hSw; (try dsimp only at hSw); go_simp; try with_reducible rfl)
          try simp only [Act.put, zA, zB, zC]
          refine wpAnyZ_oneL (i := 10) (by kernel_rfl) rfl (fun K hK => ?_)
          go_simp
          refine hK.out _ _ (fun h => absurd h (by decide)) (fun _ => ?_)
          clear hK K
          try simp only [Act.put, zA, zB, zC]
          refine wpAnyZ_done (by kernel_rfl) ?_ _
          clear hHeld
          go_wp2_with fail
          go_roundg (v.tests.length - (i + 1))
          case measure => omega
          case rel => exact ⟨i + 1, by go_num, by omega, rfl, by rw [HOZ.out], HREL.out HTM.out⟩
      · have HFT : Hid (failsF v ⟨op, nm, tx, n⟩ nmi = false) := by unfold Hid; rw [HFA.out, decide_eq_false hd, Bool.false_and]
        have hd0 : decide (v.attempt < n) = false := decide_eq_false hd
        rw [HFT.out] at HBN HTM
        rw [HBN.out, Bool.false_and, if_neg (by simp)] at HOZ
        clear HFA hd
        go_upto_region 8 with fail
        refine wp_region_Z (S := fun W' : World => W'.cell? ⟨xb, 47, none⟩ = some (.int .i64 v.attempt) ∧ W'.cell? ⟨b0, 3, none⟩ = some (.int .i64 n)) 13 (by kernel_rfl) (HS8.out _ HDR.out) (fun hHeld => ?_)
        refine wpAnyZ_takeE 16 (i := 0) (v := ?_) rfl (by kernel_rfl) (by kernel_rfl) (by kernel_rfl) (by kernel_rfl) (fun _ _ _ h => h) (Or.inl ⟨by rfl, ?_⟩) (by assumption) ?_
        rotate_left
        · (intro w hSw; (try dsimp only at hSw); go_simp; try with_reducible rfl)
        try simp only [Act.put, zA, zB, zC]
        refine wpAnyZ_takeE 16 (i := 1) (v := ?_) rfl (by kernel_rfl) (by kernel_rfl) (by kernel_rfl) (by kernel_rfl) (fun _ _ _ h => h) (Or.inl ⟨by rfl, ?_⟩) (by assumption) ?_
        rotate_left
        · (intro w hSw; (try dsimp only at hSw); go_simp; try with_reducible rfl)
        try simp only [Act.put, zA, zB, zC]
        refine wpAnyZ_takeE 16 (i := 2) (v := ?_) rfl (by kernel_rfl) (by kernel_rfl) (by kernel_rfl) (by kernel_rfl) (fun _ _ _ h => h) (Or.inl ⟨by rfl, ?_⟩) (by assumption) ?_
        rotate_left
        · (intro w hSw; (try dsimp only at hSw); go_simp; try with_reducible rfl)
        try simp only [Act.put, zA, zB, zC]
        refine wpAnyZ_takeE 16 (i := 3) (v := ?_) rfl (by kernel_rfl) (by kernel_rfl) (by kernel_rfl) (by kernel_rfl) (fun _ _ _ h => h) (Or.inl ⟨by rfl, ?_⟩) (by assumption) ?_
        rotate_left
        · (intro w hSw; (try dsimp only at hSw); go_simp; try with_reducible rfl)
        try simp only [Act.put, zA, zB, zC]
        refine wpAnyZ_takeE 16 (i := 4) (v := ?_) rfl (by kernel_rfl) (by kernel_rfl) (by kernel_rfl) (by kernel_rfl) (fun _ _ _ h => h) (Or.inl ⟨by rfl, ?_⟩) (by assumption) ?_
        rotate_left
        · (intro w hSw; (try dsimp only at hSw); go_simp; try with_reducible rfl)
        try simp only [Act.put, zA, zB, zC]
        refine wpAnyZ_takeE 16 (i := 5) (v := ?_) rfl (by kernel_rfl) (by kernel_rfl) (by kernel_rfl) (by kernel_rfl) (fun _ _ _ h => h) (Or.inl ⟨by rfl, ?_⟩) (by assumption) ?_
        rotate_left
        · (intro w hSw; (try dsimp only at hSw); go_simp; try with_reducible rfl)
        try simp only [Act.put, zA, zB, zC]
        refine wpAnyZ_takeE 16 (i := 6) (v := ?_) rfl (by kernel_rfl) (by kernel_rfl) (by kernel_rfl) (by kernel_rfl) (fun _ _ _ h => h) (Or.inl ⟨by rfl, ?_⟩) (by assumption) ?_
        rotate_left
        · (intro w hSw; (try dsimp only at hSw); go_simp; try with_reducible rfl)
        try simp only [Act.put, zA, zB, zC]
        refine wpAnyZ_takeE 16 (i := 7) (v := ?_) rfl (by kernel_rfl) (by kernel_rfl) (by kernel_rfl) (by kernel_rfl) (fun _ _ _ h => h) (Or.inl ⟨by rfl, ?_⟩) (by assumption) ?_
        rotate_left
        · (intro w hSw; (try dsimp only at hSw); go_simp; try with_reducible rfl)
        try simp only [Act.put, zA, zB, zC]
        refine wpAnyZ_takeE 16 (i := 8) (v := ?_) rfl (by kernel_rfl) (by kernel_rfl) (by kernel_rfl) (by kernel_rfl) (fun _ _ _ h => h) (Or.inl ⟨by rfl, ?_⟩) (by assumption) ?_
        rotate_left
        · (intro w hSw; (try dsimp only at hSw); go_simp; try with_reducible rfl)
        try simp only [Act.put, zA, zB, zC]
        refine wpAnyZ_takeE 16 (i := 9) (v := undef) rfl (by kernel_rfl) (by kernel_rfl) (by kernel_rfl) (by kernel_rfl) (fun _ _ _ h => h) (Or.inr ⟨by rfl, rfl⟩) (by assumption) ?_
        try simp only [Act.put, zA, zB, zC]
        refine wpAnyZ_takeE 16 (i := 10) (v := undef) rfl (by kernel_rfl) (by kernel_rfl) (by kernel_rfl) (by kernel_rfl) (fun _ _ _ h => h) (Or.inr ⟨by rfl, rfl⟩) (by assumption) ?_
        try simp only [Act.put, zA, zB, zC]
        have hHeld0 := hHeld
        obtain ⟨w6, hw6⟩ : ∃ W, w5.drew = W := ⟨_, rfl⟩
        have HB6 : Hid (Below w5.heap.size w5 w6) := by unfold Hid; rw [← hw6]; exact HDR.out
        rw [hw6] at hHeld0 ⊢
        clear hw6
        refine wpAnyZ_oneL (i := 11) (by kernel_rfl) rfl (fun K hK => ?_)
        rw [if_neg (by intro h; exact Bool.noConfusion (show false = true from h))]
        refine hK.out _ _ (fun _ => hHeld0) (fun hHeld => ?_)
        replace hHeld := hHeld (by decide)
        clear hK K
        try simp only [Act.put, zA, zB, zC]
        refine wpAnyZ_takeE 16 (i := 12) (v := ?_) rfl (by kernel_rfl) (by kernel_rfl) (by kernel_rfl) (by kernel_rfl) (fun _ _ _ h => h) (Or.inl ⟨by rfl, ?_⟩) (by assumption) ?_
        rotate_left
        · (intro w hSw; (try dsimp only at hSw); go_simp; try with_reducible rfl)
        try simp only [Act.put, zA, zB, zC]
        refine wpAnyZ_done (by kernel_rfl) ?_ _
        clear hHeld
        have HB46 := Lib.hid (HB45.out.trans (HB6.out.mono HB45.out.size))
        have HK6 := Lib.hid ((HB6.out.block _ hb95).trans HK5.out)
        clear HS8 CNW HDR HB6 HK5 HTS5 hHeld0
        obtain ⟨w7, hw7⟩ : ∃ W, w6 = W := ⟨_, rfl⟩
        rw [hw7] at HB46 HK6 ⊢
        clear hw7
        have HB47 := HB46
        have HX7 := Lib.hid (HX4.out.grow HB46.out)
        have HK7 := HK6
        have HS12 : Hid (∀ W' : World, Below w7.heap.size w7 W' → W'.cell? ⟨xb, 54, none⟩ = some (.slice tao A.length tac) ∧ W'.cell? ⟨b9, 0, none⟩ = some (.string nmi) ∧ W'.cell? ⟨b9, 1, none⟩ = some (.int .i64 1) ∧ W'.cell? ⟨b9, 2, none⟩ = some (.int .i64 tm)) := fun W' hb =>
          have q := (hb.block _ (Array.getElem?_eq_some_iff.1 HK7.out).1).trans HK7.out
          ⟨(cell_of_blk (HX7.out.grow hb).blk 54).trans (HX7.out.grow hb).c54, cell_of_blk q 0, cell_of_blk q 1, cell_of_blk q 2⟩
        have HDR2 : Hid (Below w7.heap.size w7 w7.drew) := (Below.refl _ _).drew
        go_upto_region 12 with fail
        refine wp_region_Z (S := fun W' : World => W'.cell? ⟨xb, 54, none⟩ = some (.slice tao A.length tac) ∧ W'.cell? ⟨b9, 0, none⟩ = some (.string nmi) ∧ W'.cell? ⟨b9, 1, none⟩ = some (.int .i64 1) ∧ W'.cell? ⟨b9, 2, none⟩ = some (.int .i64 tm)) 10 (by kernel_rfl) (HS12.out _ HDR2.out) (fun hHeld => ?_)
        refine wpAnyZ_takeE 16 (i := 0) (v := ?_) rfl (by kernel_rfl) (by kernel_rfl) (by kernel_rfl) (by kernel_rfl) (fun _ _ _ h => h) (Or.inl ⟨by rfl, ?_⟩) (by assumption) ?_
        rotate_left
        · (intro w hSw; (try dsimp only at hSw); go_simp; try with_reducible rfl)
        try simp only [Act.put, zA, zB, zC]
        refine wpAnyZ_takeE 16 (i := 1) (v := ?_) rfl (by kernel_rfl) (by kernel_rfl) (by kernel_rfl) (by kernel_rfl) (fun _ _ _ h => h) (Or.inl ⟨by rfl, ?_⟩) (by assumption) ?_
        rotate_left
        · (intro w hSw; (try dsimp only at hSw); go_simp; try with_reducible rfl)
        try simp only [Act.put, zA, zB, zC]
        refine wpAnyZ_takeE 16 (i := 2) (v := ?_) rfl (by kernel_rfl) (by kernel_rfl) (by kernel_rfl) (by kernel_rfl) (fun _ _ _ h => h) (Or.inl ⟨by rfl, ?_⟩) (by assumption) ?_
        rotate_left
        · (intro w hSw; (try dsimp only at hSw); go_simp; try with_reducible rfl)
        try simp only [Act.put, zA, zB, zC]
        refine wpAnyZ_takeE 16 (i := 3) (v := ?_) rfl (by kernel_rfl) (by kernel_rfl) (by kernel_rfl) (by kernel_rfl) (fun _ _ _ h => h) (Or.inl ⟨by rfl, ?_⟩) (by assumption) ?_
        rotate_left
        · (intro w hSw; (try dsimp only at hSw); go_simp; try with_reducible rfl)
        try simp only [Act.put, zA, zB, zC]
        refine wpAnyZ_takeE 16 (i := 4) (v := ?_) rfl (by kernel_rfl) (by kernel_rfl) (by kernel_rfl) (by kernel_rfl) (fun _ _ _ h => h) (Or.inl ⟨by rfl, ?_⟩) (by assumption) ?_
        rotate_left
        · (intro w hSw; (try dsimp only at hSw); go_simp; try with_reducible rfl)
        try simp only [Act.put, zA, zB, zC]
        refine wpAnyZ_takeE 16 (i := 5) (v := ?_) rfl (by kernel_rfl) (by kernel_rfl) (by kernel_rfl) (by kernel_rfl) (fun _ _ _ h => h) (Or.inl ⟨by rfl, ?_⟩) (by assumption) ?_
        rotate_left
        · (intro w hSw; (try dsimp only at hSw); go_simp; try with_reducible rfl)
        try simp only [Act.put, zA, zB, zC]
        obtain ⟨wd, hwd⟩ : ∃ wd, w7.drew = wd := ⟨_, rfl⟩
        rw [hwd] at HDR2 hHeld ⊢
        refine wpAnyZ_oneL (i := 6) (by kernel_rfl) rfl (fun K hK => ?_)
        rw [if_pos (by rfl)]
        refine wp_build1 50 135 (.tmp 59) rfl #[.string nmi, .int .i64 1, .int .i64 tm] iE _ Tryz.underlying50 HI.out hzE 3 hnE (by decide) (by decide) rfl rfl ?_
        obtain ⟨W8, hW8⟩ : ∃ W8, wd.alloc (.cells #[.string nmi, .int .i64 1, .int .i64 tm] 135) = W8 := ⟨_, rfl⟩
        have hk8 : W8.heap[wd.heap.size]? = some (.cells #[.string nmi, .int .i64 1, .int .i64 tm] 135 (0, 0)) := by rw [← hW8]; exact hp_new rfl
        have HB8 : Hid (Below w7.heap.size w7 W8) := by unfold Hid; rw [← hW8]; exact HDR2.out.alloc HDR2.out.size _
        have hx8 := HX7.out.grow HB8.out
        have hz8 := HB8.out.size
        have hl7 := HX7.out.lt
        have hS8 := HS12.out _ HB8.out
        rw [hW8]
        clear hW8
        refine hK.out _ _ (fun _ => hS8) (fun hHeld => ?_)
        replace hHeld := hHeld (by decide)
        clear hK K
        try simp only [Act.put, zA, zB, zC]
        refine wpAnyZ_oneL (i := 7) (by kernel_rfl) rfl (fun K hK => ?_)
        rw [if_pos (by rfl)]
        refine wp_own_push (E := ETst) (.tmp 58) (.tmp 60) 50 rfl (xb + 1) 135 iE _ 32 Tryz.underlying50 HI.out hzE hnE hyE rfl A _ rfl hx8.tests ⟨nmi, 1, tm⟩ [.string nmi, .int .i64 1, .int .i64 tm] rfl wd.heap.size (0, 0) hk8 rfl (by unfold maxLen; omega) (by omega) (by omega) ?_
        intro v9 w9 hown hgrow hpu
        obtain ⟨c549, f549, hrel, hs9⟩ := HKEY.out w7 W8 w9 (1) v9 HB47.out HK7.out HB8.out hown hgrow
        obtain ⟨g9, p9, hv9⟩ := hpu.form
        subst hv9
        have HREL := Lib.hid hrel
        clear hown hgrow hpu hrel hx8 hk8 hS8
        refine hK.out _ _ (fun _ => ⟨c549, hs9⟩) (fun hHeld => ?_)
        replace hHeld := hHeld (by decide)
        clear hK K
        try simp only [Act.put, zA, zB, zC]
        refine wpAnyZ_takeE 16 (i := 8) (v := ?_) rfl (by kernel_rfl) (by kernel_rfl) (by kernel_rfl) (by kernel_rfl) (fun _ _ _ h => h) (Or.inl ⟨by rfl, ?_⟩) (by assumption) ?_
        rotate_left
        · (intro w hSw; (try dsimp only at hSw); go_simp; try with_reducible rfl)
        try simp only [Act.put, zA, zB, zC]
        refine wpAnyZ_takeE 16 (i := 9) (v := ?_) rfl (by kernel_rfl) (by kernel_rfl) (by kernel_rfl) (by kernel_rfl) (fun _ _ _ h => h) (Or.inl ⟨by rfl, ?_⟩) (by assumption) ?_
        rotate_left
        · (intro w hSw; (try dsimp only at hSw); go_simp; try with_reducible rfl)
        try simp only [Act.put, zA, zB, zC]
        refine wpAnyZ_oneL (i := 10) (by kernel_rfl) rfl (fun K hK => ?_)
        go_simp
        refine hK.out _ _ (fun h => absurd h (by decide)) (fun _ => ?_)
        clear hK K
        try simp only [Act.put, zA, zB, zC]
        refine wpAnyZ_done (by kernel_rfl) ?_ _
        clear hHeld
        go_wp2_with fail
        go_roundg (v.tests.length - (i + 1))
        case measure => omega
        case rel => exact ⟨i + 1, by go_num, by omega, rfl, by rw [HOZ.out], HREL.out HTM.out⟩
    · have hii : ¬ (i : Int) < (v.tests.length : Int) := by omega
      have he : i = v.tests.length := by omega
      have HST := Lib.hid HTS.out.st
      have HBE := Lib.hid HTS.out.bel
      have HTK : Hid (v.tests.take i = v.tests) := by unfold Hid; rw [he, List.take_length]
      clear he HTS
      rw [HTK.out] at HST ⊢
      obtain ⟨zo, hzo⟩ : ∃ zo, outZ v ⟨op, nm, tx, n⟩ v.tests = zo := ⟨_, rfl⟩
      rw [hzo]
      have HZO := Lib.hid hzo
      clear hzo
      as_aux_lemma =>
      go_wp2_with fail
      go_ret
      exact ⟨by rw [HZO.out] <;> rfl, HST.out, HBE.out⟩
end Go.Proofs.YtghahghbahcpfaaGreatDoor
