/- The law SandboxInputs. -/
import Derived.Test.YtghahghbahcpfaaGreatDoorVo4
namespace Go.Proofs.YtghahghbahcpfaaGreatDoor
open Go.RowKit

theorem there_true {D : ByteArray → Bool} {j : JobM} {v : ViewM} {o : OutM} (h : (∃ f ∈ v.files, o = ⟨fileN f.path, f.dig, 0⟩ ∧ D f.path = true) ∨ (o ∈ v.arts ∧ j.uses.contains o.name = true)) : thereF D j v o = true := by
  have e : ∀ x : OutM, outEq x x = true := fun x => by unfold outEq; simp
  unfold thereF
  rcases h with ⟨f, hf, ho, hd⟩ | ⟨ho, hu⟩
  · rw [show v.files.any (thrFl D o) = true from List.any_eq_true.2 ⟨f, hf, by unfold thrFl; rw [← ho, e, hd]; rfl⟩, Bool.true_or]
  · rw [show v.arts.any (thrAr (j.uses.contains o.name) o) = true from List.any_eq_true.2 ⟨o, ho, by unfold thrAr; rw [e, hu]; rfl⟩, Bool.or_true]
theorem take_map {α β : Type} (f : α → β) (L : List α) {i : Nat} (h : i < L.length) : (L.take (i + 1)).map f = (L.take i).map f ++ [f L[i]] := by
  rw [List.take_succ_eq_append_getElem h, List.map_append]; rfl
theorem take_map_len {α β : Type} (f : α → β) (L : List α) (i : Nat) : ((L.take i).map f).length ≤ L.length := by
  rw [List.length_map, List.length_take]; exact Nat.min_le_right _ _
theorem Tryz.field_res (a b c d e f g h i : Value) (w : World) : (Instr.field tEff (.agg #[a, b, c, d, e, f, g, h, i]) 0).run Tryz.prog w = .ok (.agg #[a, b, c, d, e, f]) w := by kernel_rfl
/-- the names behind i rounds -/
def NmRel (L : List OutM) (base : Nat) (f : Nat) (tn ti : Value) (wr w1 : World) : Prop :=
  ∃ i : Nat, ti = .int .i64 (i : Nat) ∧ i ≤ L.length ∧ f = L.length - i ∧ EStr.Own 9 base noB wr ((L.take i).map (·.name)) tn ∧ Below w1.heap.size w1 wr ∧ base = w1.heap.size
set_option maxRecDepth 100000 in
set_option maxHeartbeats 6400000 in
theorem inputs_law (c : Nat → Value) (j : JobM) (v : ViewM) (hfj : JFit j) (hfv : VFit v) (m : Int) (w : World) (hm : w.cell? ⟨0, 0, none⟩ = some (.int .i64 m)) (hj : JAt w.heap.size c j w) (hv : VAt w.heap.size c v w) :
    Calls Tryz.prog 6 #[jobA c, viewA c] w (LawPost w) := by
  have LV := Lib.hid (fun (W : World) (hb : Below w.heap.size w W) => lives_any m W ((hb.cell (p := ⟨0, 0, none⟩) (World.block_lt_of_cell? w _ hm)).trans hm))
  unfold LawPost at LV
  have hw0 : 0 < w.heap.size := World.block_lt_of_cell? w _ hm
  obtain ⟨w1, hw1⟩ : ∃ w1, w.alloc (.cells (jobC c) tJob (0, 0)) = w1 := ⟨_, rfl⟩
  obtain ⟨w2, hw2⟩ : ∃ w2, w1.alloc (.cells (viewC c) tView (0, 0)) = w2 := ⟨_, rfl⟩
  have hs1 : w1.heap.size = w.heap.size + 1 := by rw [← hw1]; simp
  have hs2 : w2.heap.size = w.heap.size + 1 + 1 := by rw [← hw2]; simp [hs1]
  have hk1 : w2.heap[w.heap.size]? = some (.cells (jobC c) tJob (0, 0)) := by rw [← hw2]; exact (hp_old (by omega)).trans (by rw [← hw1]; exact hp_new rfl)
  have hk2 : w2.heap[w.heap.size + 1]? = some (.cells (viewC c) tView (0, 0)) := by rw [← hw2]; exact hp_new (by omega)
  have hb2 : Below w.heap.size w w2 := by rw [← hw2, ← hw1]; exact ((Below.refl _ w).alloc (Nat.le_refl _) _).alloc (by simp) _
  have HB2 := Lib.hid hb2
  have HW1 := Lib.hid hw1
  have HW2 := Lib.hid hw2
  have z2 : w.heap.size + 1 < w2.heap.size := (Array.getElem?_eq_some_iff.1 hk2).1
  have HS : Hid (∀ W, Below w2.heap.size w2 W → W.rangeAt w.heap.size 0 (jobL c) ∧ W.rangeAt (w.heap.size + 1) 0 (viewL c)) := fun W hb =>
    ⟨range_job ((hb.block _ (show w.heap.size < _ by omega)).trans hk1), range_view ((hb.block _ (show w.heap.size + 1 < _ by omega)).trans hk2)⟩
  have HJW : Hid (∀ W, Below w2.heap.size w2 W → JAt W.heap.size c j W) := fun W hb => by
    have hz := hb.size
    exact ((hj.below hb2).below (hb.mono (by omega))).mono (by omega)
  have HVW : Hid (∀ W, Below w2.heap.size w2 W → VAt W.heap.size c v W) := fun W hb => by
    have hz := hb.size
    exact ((hv.below hb2).below (hb.mono (by omega))).mono (by omega)
  have HM : Hid (∀ W, Below w2.heap.size w2 W → W.cell? ⟨0, 0, none⟩ = some (.int .i64 m)) := fun W hb => ((hb2.trans (hb.mono (by omega))).cell (p := ⟨0, 0, none⟩) hw0).trans hm
  obtain ⟨uo, uc, h26⟩ := hj.outputs.form
  have HOU : Hid (∀ W, Below w2.heap.size w2 W → W.cell? ⟨w.heap.size, 26, none⟩ = some (.slice uo j.outputs.length uc)) := fun W hb => by
    rw [← h26]; exact cell_of_blk ((hb.block _ (show w.heap.size < _ by omega)).trans hk1) 26
  have HHS : Hid (∀ W, Below w2.heap.size w2 W → ∀ key : ByteArray, j.outputs.contains key = true → Calls Tryz.prog 27 #[.slice uo j.outputs.length uc, .string key] W fun e w' => e = .returned (.bool true) ∧ w' = W) := fun W hb key hk => by
    have h := (HJW.out W hb).outputs
    rw [h26] at h
    have := rhas_any key _ j.outputs _ hfj.outputs W h
    rwa [hk] at this
  have SJ : Hid (∀ W, Below w2.heap.size w2 W → Calls Tryz.prog 9 #[jobA c] W fun e w' => e = .returned (.bool (smallJF j)) ∧ Below W.heap.size W w') := fun W hb => smallJob_any c j W hfj (HJW.out W hb)
  have SV : Hid (∀ W, Below w2.heap.size w2 W → Calls Tryz.prog 10 #[viewA c] W fun e w' => e = .returned (.bool (smallVF v)) ∧ Below W.heap.size W w') := fun W hb => smallView_any c v W hfv (HVW.out W hb)
  have HJS : Hid (smallJF j = true → JS j) := JS.of hfj
  have HVS : Hid (smallVF v = true → VS v) := VS.of hfv
  have HR2 : Hid (Below w2.heap.size w2 w2) := Below.refl _ _
  clear hfj hfv hj hv hm hk1 hk2 hb2 hw1 hw2 hs1 hs2 h26
  generalize smallJF j = sj at *
  generalize smallVF v = sv at *
  go_enter Tryz.func6, Tryz.ntmps6
  go_upto_region 1 with fail
  rw [HW1.out, HW2.out]
  clear HW1 HW2
  refine wp_region_lit ?_
  refine wpList_load_mid rfl tJob (.tmp 2) rfl w.heap.size 0 rfl (jobL c) _ (HS.out _ HR2.out).1 Tryz.underlying38 rfl (by kernel_rfl) ?_
  try simp only [Act.put, List.setIfInBounds_toArray, List.set_cons_zero, List.set_cons_succ]
  go_wp2_with fail
  refine (SJ.out _ HR2.out).mono ?_
  rintro e w3 ⟨rfl, hb3⟩
  have HB3 := Lib.hid hb3
  clear hb3 SJ
  cases sj with
  | false =>
    have LV3 := Lib.hid (LV.out _ (HB2.out.trans (HB3.out.mono (by omega))))
    clear LV SV HJS HVS HS HJW HVW HM
    as_aux_lemma =>
    go_wp2_with fail
    refine LV3.out.mono ?_
    rintro e w4 ⟨rfl, hb4⟩
    have HB4 : Hid (Below w.heap.size w w4) := HB2.out.trans ((HB3.out.mono (by omega)).trans (hb4.mono (by have := HB3.out.size; omega)))
    clear hb4
    go_wp2_with fail
    go_ret
    exact ⟨rfl, HB4.out⟩
  | true =>
    have HJ := Lib.hid (HJS.out rfl)
    clear HJS
    rename_i K0 hK0 K1 hK1
    dsimp only
    refine hK1 _ _ ?_
    clear hK1 K1
    try simp only [Act.put, List.setIfInBounds_toArray, List.set_cons_zero, List.set_cons_succ]
    refine wpList_plain rfl (fun K hK => ?_)
    go_simp
    refine hK _ _ ?_
    clear hK K
    try simp only [Act.put, List.setIfInBounds_toArray, List.set_cons_zero, List.set_cons_succ]
    refine wpList_plain rfl (fun K hK => ?_)
    go_simp
    refine hK _ _ ?_
    clear hK K
    try simp only [Act.put, List.setIfInBounds_toArray, List.set_cons_zero, List.set_cons_succ]
    refine wpList_load_midG (by rfl) tView (.tmp 3) rfl (w.heap.size + 1) 0 rfl (viewL c) _ (HS.out _ HB3.out).2 Tryz.underlying45 rfl (by kernel_rfl) ?_
    try simp only [Act.put, List.setIfInBounds_toArray, List.set_cons_zero, List.set_cons_succ]
    go_wp2_with fail
    refine (SV.out _ HB3.out).mono ?_
    rintro e w4 ⟨rfl, hb4⟩
    have HB4 : Hid (Below w2.heap.size w2 w4) := HB3.out.trans (hb4.mono HB3.out.size)
    clear hb4 SV HB3
    cases sv with
    | false =>
      have LV4 := Lib.hid (LV.out _ (HB2.out.trans (HB4.out.mono (by omega))))
      clear LV HVS HS HJW HVW HM HJ
      as_aux_lemma =>
      go_wp2_with fail
      refine LV4.out.mono ?_
      rintro e w5 ⟨rfl, hb5⟩
      have HB5 : Hid (Below w.heap.size w w5) := HB2.out.trans ((HB4.out.mono (by omega)).trans (hb5.mono (by have := HB4.out.size; omega)))
      clear hb5
      go_wp2_with fail
      go_ret
      exact ⟨rfl, HB5.out⟩
    | true =>
      have HV := Lib.hid (HVS.out rfl)
      clear HVS
      have HC4 := Lib.hid (HS.out _ HB4.out)
      have EX := Lib.hid (exec_any c j v (by have := HJ.out.steps; omega) HJ.out.jb HV.out.vb m w4 (HM.out _ HB4.out) (HVW.out _ HB4.out) (HJW.out _ HB4.out))
      unfold ExPost at EX
      have IP := Lib.hid (inputs_plain (declF j.inputs) j v)
      have XB := Lib.hid (exec_bd (declF j.inputs) j v HV.out.vb (fun s hs => by have := HJ.out.stepN s hs; omega))
      have z70 := HJ.out.steps
      generalize hE : execF (declF j.inputs) j v = E at *
      have HE := Lib.hid hE
      clear hE
      obtain ⟨E1, E2, EI, EO, ET, EC, EL, EM, ES⟩ := E
      go_upto_region 3 with fail
      refine wp_region_lit ?_
      refine wpList_load_mid rfl tJob (.tmp 2) rfl w.heap.size 0 rfl (jobL c) _ HC4.out.1 Tryz.underlying38 rfl (by kernel_rfl) ?_
      try simp only [Act.put, List.setIfInBounds_toArray, List.set_cons_zero, List.set_cons_succ]
      refine wpList_load_mid rfl tView (.tmp 3) rfl (w.heap.size + 1) 0 rfl (viewL c) _ HC4.out.2 Tryz.underlying45 rfl (by kernel_rfl) ?_
      try simp only [Act.put, List.setIfInBounds_toArray, List.set_cons_zero, List.set_cons_succ]
      go_wp2_with fail
      refine EX.out.mono ?_
      rintro e w5 ⟨u5, rfl, heff, hb5⟩
      have HB5 : Hid (Below w2.heap.size w2 w5) := HB4.out.trans (hb5.mono HB4.out.size)
      obtain ⟨iv, ov, tv, svv, lg, rfl, f1, f2, f3, f4, f5⟩ := heff
      obtain ⟨io, ic, rfl⟩ := f2.form
      obtain ⟨oo, oc, rfl⟩ := f3.form
      obtain ⟨tt, tc, rfl⟩ := f4.form
      obtain ⟨so, sc', rfl⟩ := f5.form
      dsimp only at f2 f3 ⊢
      have HF2 := Lib.hid f2
      have HF3 := Lib.hid f3
      clear f1 f2 f3 f4 f5 EX hb5 HB4 HC4
      have hfd := Tryz.field_res (.int .i64 E1) (.int .i64 E2) (.slice io EI.length ic) (.slice oo EO.length oc) (.slice tt ET.length tc) (.string EC) (.string lg) (.int .i64 EM) (.slice so ES.length sc')
      go_wp2_with (refine wpList_store_row rfl 52 _ _ rfl w5.heap.size rfl 52 _ (hp_new rfl) (.agg #[.int .i64 E1, .int .i64 E2, .slice io EI.length ic, .slice oo EO.length oc, .slice tt ET.length tc, .string EC]) rfl (by kernel_rfl) rfl rfl ?_)
      intro w6 hw6
      have hk6 : w6.heap[w5.heap.size]? = some (.cells #[.int .i64 E1, .int .i64 E2, .slice io EI.length ic, .slice oo EO.length oc, .slice tt ET.length tc, .string EC] 52 (0, 0)) := hw6.at_
      have HB56 : Hid (Below w5.heap.size w5 w6) := ((Below.refl _ w5).alloc (Nat.le_refl _) _).trans (hw6.below (Nat.le_refl _))
      have HB6 : Hid (Below w2.heap.size w2 w6) := HB5.out.trans (HB56.out.mono HB5.out.size)
      have HG : Hid (∀ W, Below w6.heap.size w6 W → W.cell? ⟨w5.heap.size, 0, none⟩ = some (.int .i64 E1) ∧ W.cell? ⟨w5.heap.size, 1, none⟩ = some (.int .i64 E2) ∧ W.cell? ⟨w5.heap.size, 2, none⟩ = some (.slice io EI.length ic) ∧ W.cell? ⟨w5.heap.size, 3, none⟩ = some (.slice oo EO.length oc)) := fun W hb => by
        have k := (hb.block _ (Array.getElem?_eq_some_iff.1 hk6).1).trans hk6
        exact ⟨cell_of_blk k 0, cell_of_blk k 1, cell_of_blk k 2, cell_of_blk k 3⟩
      have HRI : Hid (∀ W, Below w6.heap.size w6 W → EOut.Row (fun b => w4.heap.size ≤ b) W EI (.slice io EI.length ic)) := fun W hb => HF2.out.below (HB56.out.trans (hb.mono HB56.out.size))
      have HRO : Hid (∀ W, Below w6.heap.size w6 W → EOut.Row (fun b => w4.heap.size ≤ b) W EO (.slice oo EO.length oc)) := fun W hb => HF3.out.below (HB56.out.trans (hb.mono HB56.out.size))
      clear hw6 hk6 HF2 HF3 HB5 hfd HR2
      obtain ⟨iS, hiS, hzS, hnS, hyS⟩ := Tryz.infoStr'
      have HI := Lib.hid hiS
      clear hiS
      obtain ⟨g, hg⟩ : ∃ g, w5.heap.size = g := ⟨_, rfl⟩
      rw [hg] at HG
      rw [hg]
      clear hg HB56
      have zil : EI.length ≤ 70 := Nat.le_trans XB.out.il z70
      have zol : EO.length ≤ 70 := Nat.le_trans XB.out.ol z70
      have TH : Hid (∀ W, Below w6.heap.size w6 W → ∀ o ∈ EI, Calls Tryz.prog 26 #[jobA c, viewA c, .agg #[.string o.name, .int .u64 (o.dig : Nat), .int .i64 o.size]] W fun e w' => e = .returned (.bool true) ∧ Below W.heap.size W w') := fun W hb o ho => by
        have hb' := HB6.out.trans (hb.mono HB6.out.size)
        have := there_any c j v o HJ.out.jb HV.out.vb W (HVW.out W hb') (HJW.out W hb')
        rwa [there_true (IP.out.1 o ho)] at this
      go_wp2_with fail
      go_loopg [6, 8] EI.length (fun f tn ti wr => NmRel EI w6.heap.size f tn ti wr w6)
      case atStart => exact ⟨0, rfl, Nat.zero_le _, rfl, ElemK.Own.nil, Below.refl _ _, rfl⟩
      case round =>
        obtain ⟨i, rfl, hi, rfl, hown, hbel, _⟩ := hrel
        have HB := Lib.hid hbel
        obtain ⟨co, cc, rfl⟩ := hown.form
        have HO := Lib.hid hown
        obtain ⟨e0, e1, e2, e3⟩ := HG.out wr hbel
        have hzr := hbel.size
        clear hown hbel
        by_cases hlt : i < EI.length
        · obtain ⟨bl, off, rfl, _, q0, q1, q2⟩ := out_at (HRI.out _ HB.out) hlt
          have hii : (i : Int) < (EI.length : Int) := by omega
          have HTK := Lib.hid (take_map (·.name) EI hlt)
          have htl := take_map_len (·.name) EI i
          have HMEM := Lib.hid (List.getElem_mem hlt)
          have HRI2 := Lib.hid (fun W (hb : Below w6.heap.size w6 W) => out_at (HRI.out W hb) hlt)
          generalize hA : (EI.take i).map (·.name) = A at *
          generalize EI[i] = o at *
          obtain ⟨nm, dg, sz⟩ := o
          dsimp only at q0 q1 q2 HTK HRI2
          clear hA
          obtain ⟨wa, hwa⟩ : ∃ wa, wr.alloc (.cells #[.string nm] 9 (0, 0)) = wa := ⟨_, rfl⟩
          have hka : wa.heap[wr.heap.size]? = some (.cells #[.string nm] 9 (0, 0)) := by rw [← hwa]; exact hp_new rfl
          have HBA : Hid (Below wr.heap.size wr wa) := by unfold Hid; rw [← hwa]; exact (Below.refl _ _).alloc (Nat.le_refl _) _
          have HWA := Lib.hid hwa
          have HOA := Lib.hid (HO.out.below HBA.out)
          have hza := HBA.out.size
          clear hwa HO q1 q2
          go_wp2_with (at_builtin; rw [HWA.out]; refine wpList_own_push (E := EStr) rfl _ _ 22 rfl w6.heap.size 9 iS _ 16 Tryz.underlying22 HI.out hzS hnS hyS rfl _ (.slice co A.length cc) rfl HOA.out nm [.string nm] rfl wr.heap.size (0, 0) hka rfl (by unfold maxLen; omega) (by omega) (by omega) ?_)
          intro v7 w7 hown hgrow hpu
          obtain ⟨g7, p7, hv7⟩ := hpu.form
          subst hv7
          have HO7 := Lib.hid hown
          have HB7 : Hid (Below w6.heap.size w6 w7) := (HB.out.trans (HBA.out.mono HB.out.size)).trans (below_grown hgrow (by omega) (fun q e => (HOA.out.low q e).1))
          clear hown hgrow hpu hka HOA HWA q0 e0 e1 e2 e3
          go_upto_region 9 with fail
          refine wp_region_tailW 7 (by kernel_rfl) (by kernel_rfl) (fun W hW => ?_)
          have HBW : Hid (Below w7.heap.size w7 W) := by unfold Hid; rw [hW]; exact (Below.refl _ _).drew
          have HBW6 : Hid (Below w6.heap.size w6 W) := HB7.out.trans (HBW.out.mono HB7.out.size)
          clear hW
          obtain ⟨_, _, e2, _⟩ := HG.out W HBW6.out
          obtain ⟨bl2, off2, he, _, q0, q1, q2⟩ := HRI2.out W HBW6.out
          injection he with he
          injection he with he1 he2
          subst he1 he2
          have HRG := Lib.hid (HS.out W (HB6.out.trans (HBW6.out.mono HB6.out.size)))
          have TH1 := Lib.hid (TH.out W HBW6.out _ HMEM.out)
          have HO8 := Lib.hid (HO7.out.below HBW.out)
          clear HMEM HRI2 HO7
          simp only [List.take_succ_cons, List.take_zero, List.drop_succ_cons, List.drop_zero]
          refine wpStill_loadG (by rfl) tJob (.tmp 2) rfl w.heap.size 0 rfl (jobL c) _ HRG.out.1 Tryz.underlying38 rfl (by kernel_rfl) ?_
          try simp only [Act.put, List.setIfInBounds_toArray, List.set_cons_zero, List.set_cons_succ]
          refine wpStill_loadG (by rfl) tView (.tmp 3) rfl (w.heap.size + 1) 0 rfl (viewL c) _ HRG.out.2 Tryz.underlying45 rfl (by kernel_rfl) ?_
          try simp only [Act.put, List.setIfInBounds_toArray, List.set_cons_zero, List.set_cons_succ]
          iterate 5 still_step
          refine wpStill_nil ?_
          go_wp2_with fail
          refine TH1.out.mono ?_
          rintro e w8 ⟨rfl, hb8⟩
          have HB8 : Hid (Below w6.heap.size w6 w8) := HBW6.out.trans (hb8.mono HBW6.out.size)
          have HO9 := Lib.hid (HO8.out.below hb8)
          clear hb8 TH1 HO8 HBW HBW6 HB7
          as_aux_lemma =>
          go_wp2_with fail
          go_roundg (EI.length - (i + 1))
          case measure => omega
          case rel => exact ⟨i + 1, by go_num, by omega, rfl, by rw [HTK.out]; exact HO9.out, HB8.out, rfl⟩
        · have hii : ¬ (i : Int) < (EI.length : Int) := by omega
          have he : i = EI.length := by omega
          have HOI : Hid (EStr.Own 9 w6.heap.size noB wr (EI.map (·.name)) (.slice co ((EI.take i).map (·.name)).length cc)) := by unfold Hid; have := HO.out; rw [he, List.take_length] at this ⊢; exact this
          clear HO he e0 e1 e3 hzr
          generalize ((EI.take i).map (·.name)).length = ln at *
          obtain ⟨wE, rfl⟩ : ∃ x, x = wr := ⟨_, rfl⟩
          have HBE := Lib.hid HB.out
          have RA1 : Hid (∀ W, Below wE.heap.size wE W → Calls Tryz.prog 28 #[.slice co ln cc] W fun e w' => e = .returned (.bool true) ∧ Below W.heap.size W w') := fun W hb =>
            rasc_yes _ (EI.map (·.name)) _ (by rw [List.length_map]; omega) (fun x hx => by obtain ⟨o, ho, rfl⟩ := List.mem_map.1 hx; exact Nat.le_trans (XB.out.iN o ho) (by decide)) (show AscB (EI.map (·.name)) from List.pairwise_map.2 (show EI.Pairwise (fun x y => natC x.name.data.toList y.name.data.toList < 0) from IP.out.2.2.1)) W ((HOI.out.below hb).row (B' := fun _ => True) (fun _ _ => trivial) (fun _ _ => trivial))
          clear HB HOI TH HRI hlt hi
          go_wp2_with fail
          go_loopg [7, 9] EO.length (fun f tn ti wr => NmRel EO wE.heap.size f tn ti wr wE)
          case atStart => exact ⟨0, rfl, Nat.zero_le _, rfl, ElemK.Own.nil, Below.refl _ _, rfl⟩
          case round =>
            clear e2 hii
            obtain ⟨i, rfl, hi, rfl, hown, hbel, _⟩ := hrel
            have HB := Lib.hid hbel
            obtain ⟨do', dc, rfl⟩ := hown.form
            have HO := Lib.hid hown
            obtain ⟨e0, e1, e2, e3⟩ := HG.out wr (HBE.out.trans (hbel.mono HBE.out.size))
            have hzr := hbel.size
            clear hown hbel
            by_cases hlt : i < EO.length
            · obtain ⟨bl, off, rfl, _, q0, q1, q2⟩ := out_at (HRO.out _ (HBE.out.trans (HB.out.mono HBE.out.size))) hlt
              have hii : (i : Int) < (EO.length : Int) := by omega
              have HTK := Lib.hid (take_map (·.name) EO hlt)
              have htl := take_map_len (·.name) EO i
              have HMEM := Lib.hid (IP.out.2.1 _ (List.getElem_mem hlt))
              have HRO2 := Lib.hid (fun W (hb : Below w6.heap.size w6 W) => out_at (HRO.out W hb) hlt)
              generalize hA : (EO.take i).map (·.name) = A at *
              generalize EO[i] = o at *
              obtain ⟨nm, dg, sz⟩ := o
              dsimp only at q0 q1 q2 HTK HRO2 HMEM
              clear hA
              obtain ⟨wa, hwa⟩ : ∃ wa, wr.alloc (.cells #[.string nm] 9 (0, 0)) = wa := ⟨_, rfl⟩
              have hka : wa.heap[wr.heap.size]? = some (.cells #[.string nm] 9 (0, 0)) := by rw [← hwa]; exact hp_new rfl
              have HBA : Hid (Below wr.heap.size wr wa) := by unfold Hid; rw [← hwa]; exact (Below.refl _ _).alloc (Nat.le_refl _) _
              have HWA := Lib.hid hwa
              have HOA := Lib.hid (HO.out.below HBA.out)
              have hza := HBA.out.size
              clear hwa HO q1 q2
              go_wp2_with (at_builtin; rw [HWA.out]; refine wpList_own_push (E := EStr) rfl _ _ 22 rfl wE.heap.size 9 iS _ 16 Tryz.underlying22 HI.out hzS hnS hyS rfl _ (.slice do' A.length dc) rfl HOA.out nm [.string nm] rfl wr.heap.size (0, 0) hka rfl (by unfold maxLen; omega) (by omega) (by omega) ?_)
              intro v7 w7 hown hgrow hpu
              obtain ⟨g7, p7, hv7⟩ := hpu.form
              subst hv7
              have HO7 := Lib.hid hown
              have HB7 : Hid (Below wE.heap.size wE w7) := (HB.out.trans (HBA.out.mono HB.out.size)).trans (below_grown hgrow (by omega) (fun q e => (HOA.out.low q e).1))
              clear hown hgrow hpu hka HOA HWA q0 e0 e1 e2 e3
              go_upto_region 15 with fail
              have SZ : Hid (∀ W, Calls Tryz.prog 22 #[.int .u64 (dg : Nat)] W fun e w' => e = .returned (.int .i64 sz) ∧ w' = W) := fun W => by rw [HMEM.out.2]; exact size_any dg W
              have HSz : Hid (∀ W' : World, Below w7.heap.size w7 W' → W'.cell? ⟨w.heap.size, 26, none⟩ = some (.slice uo j.outputs.length uc) ∧ W'.cell? ⟨g, 3, none⟩ = some (.slice (some ⟨bl, off, none⟩) EO.length oc) ∧ W'.cell? ⟨bl, off + i * 3, none⟩ = some (.string nm) ∧ W'.cell? ⟨bl, off + i * 3 + 1, none⟩ = some (.int .u64 (dg : Nat)) ∧ W'.cell? ⟨bl, off + i * 3 + 2, none⟩ = some (.int .i64 sz)) := fun W' hb => by
                have hb6 := (HBE.out.trans (HB7.out.mono HBE.out.size)).trans (hb.mono (by have := HB7.out.size; have := HBE.out.size; omega))
                obtain ⟨bl2, off2, he, _, q0, q1, q2⟩ := HRO2.out W' hb6
                injection he with he
                injection he with he1 he2
                subst he1 he2
                exact ⟨HOU.out W' (HB6.out.trans (hb6.mono HB6.out.size)), (HG.out W' hb6).2.2.2, q0, q1, q2⟩
              have HDR : Hid (Below w7.heap.size w7 w7.drew) := (Below.refl _ _).drew
              have HH1 := Lib.hid (HHS.out w7.drew (HB6.out.trans (((HBE.out.trans (HB7.out.mono HBE.out.size)).trans (HDR.out.mono (by have := HB7.out.size; have := HBE.out.size; omega))).mono HB6.out.size)) nm HMEM.out.1)
              have HO8 := Lib.hid (HO7.out.below HDR.out)
              have HB8 : Hid (Below wE.heap.size wE w7.drew) := HB7.out.drew
              clear HMEM HRO2 HO7
              refine wp_region_Z (S := fun W' : World => W'.cell? ⟨w.heap.size, 26, none⟩ = some (.slice uo j.outputs.length uc) ∧ W'.cell? ⟨g, 3, none⟩ = some (.slice (some ⟨bl, off, none⟩) EO.length oc) ∧ W'.cell? ⟨bl, off + i * 3, none⟩ = some (.string nm) ∧ W'.cell? ⟨bl, off + i * 3 + 1, none⟩ = some (.int .u64 (dg : Nat)) ∧ W'.cell? ⟨bl, off + i * 3 + 2, none⟩ = some (.int .i64 sz)) 26 (by kernel_rfl) (HSz.out _ HDR.out) (fun hHeld => ?_)
              refine wpAnyZ_takeD (i := 0) (v := ?_) rfl (by kernel_rfl) (by kernel_rfl) (by kernel_rfl) (by kernel_rfl) (fun _ _ _ h => h) (Or.inl ⟨by rfl, ?_⟩) (by assumption) ?_
              rotate_left
              · (intro w hSw; (try dsimp only at hSw); go_simp; try with_reducible rfl)
              try simp only [Act.put, List.setIfInBounds_toArray, List.set_cons_zero, List.set_cons_succ]
              refine wpAnyZ_takeD (i := 1) (v := ?_) rfl (by kernel_rfl) (by kernel_rfl) (by kernel_rfl) (by kernel_rfl) (fun _ _ _ h => h) (Or.inl ⟨by rfl, ?_⟩) (by assumption) ?_
              rotate_left
              · (intro w hSw; (try dsimp only at hSw); go_simp; try with_reducible rfl)
              try simp only [Act.put, List.setIfInBounds_toArray, List.set_cons_zero, List.set_cons_succ]
              refine wpAnyZ_takeD (i := 2) (v := ?_) rfl (by kernel_rfl) (by kernel_rfl) (by kernel_rfl) (by kernel_rfl) (fun _ _ _ h => h) (Or.inl ⟨by rfl, ?_⟩) (by assumption) ?_
              rotate_left
              · (intro w hSw; (try dsimp only at hSw); go_simp; try with_reducible rfl)
              try simp only [Act.put, List.setIfInBounds_toArray, List.set_cons_zero, List.set_cons_succ]
              refine wpAnyZ_takeD (i := 3) (v := ?_) rfl (by kernel_rfl) (by kernel_rfl) (by kernel_rfl) (by kernel_rfl) (fun _ _ _ h => h) (Or.inl ⟨by rfl, ?_⟩) (by assumption) ?_
              rotate_left
              · (intro w hSw; (try dsimp only at hSw); go_simp; try with_reducible rfl)
              try simp only [Act.put, List.setIfInBounds_toArray, List.set_cons_zero, List.set_cons_succ]
              refine wpAnyZ_takeD (i := 4) (v := ?_) rfl (by kernel_rfl) (by kernel_rfl) (by kernel_rfl) (by kernel_rfl) (fun _ _ _ h => h) (Or.inl ⟨by rfl, ?_⟩) (by assumption) ?_
              rotate_left
              · (intro w hSw; (try dsimp only at hSw); go_simp; try with_reducible rfl)
              try simp only [Act.put, List.setIfInBounds_toArray, List.set_cons_zero, List.set_cons_succ]
              refine wpAnyZ_takeD (i := 5) (v := ?_) rfl (by kernel_rfl) (by kernel_rfl) (by kernel_rfl) (by kernel_rfl) (fun _ _ _ h => h) (Or.inl ⟨by rfl, ?_⟩) (by assumption) ?_
              rotate_left
              · (intro w hSw; (try dsimp only at hSw); go_simp; try with_reducible rfl)
              try simp only [Act.put, List.setIfInBounds_toArray, List.set_cons_zero, List.set_cons_succ]
              refine wpAnyZ_takeD (i := 6) (v := ?_) rfl (by kernel_rfl) (by kernel_rfl) (by kernel_rfl) (by kernel_rfl) (fun _ _ _ h => h) (Or.inl ⟨by rfl, ?_⟩) (by assumption) ?_
              rotate_left
              · (intro w hSw; (try dsimp only at hSw); go_simp; try with_reducible rfl)
              try simp only [Act.put, List.setIfInBounds_toArray, List.set_cons_zero, List.set_cons_succ]
              refine wpAnyZ_takeD (i := 7) (v := ?_) rfl (by kernel_rfl) (by kernel_rfl) (by kernel_rfl) (by kernel_rfl) (fun _ _ _ h => h) (Or.inl ⟨by rfl, ?_⟩) (by assumption) ?_
              rotate_left
              · (intro w hSw; (try dsimp only at hSw); go_simp; try with_reducible rfl)
              try simp only [Act.put, List.setIfInBounds_toArray, List.set_cons_zero, List.set_cons_succ]
              refine wpAnyZ_oneL (i := 8) (by kernel_rfl) rfl (fun K hK => ?_)
              go_simp
              go_at_call 27
              refine HH1.out.mono ?_
              rintro e w8 ⟨rfl, hw8⟩
              rw [hw8]
              clear hw8 w8
              refine hK.out _ _ (fun _ => HSz.out _ HDR.out) (fun hHeld => ?_)
              replace hHeld := hHeld (by decide)
              clear hK K
              try simp only [Act.put, List.setIfInBounds_toArray, List.set_cons_zero, List.set_cons_succ]
              refine wpAnyZ_takeD (i := 9) (v := ?_) rfl (by kernel_rfl) (by kernel_rfl) (by kernel_rfl) (by kernel_rfl) (fun _ _ _ h => h) (Or.inl ⟨by rfl, ?_⟩) (by assumption) ?_
              rotate_left
              · (intro w hSw; (try dsimp only at hSw); go_simp; try with_reducible rfl)
              try simp only [Act.put, List.setIfInBounds_toArray, List.set_cons_zero, List.set_cons_succ]
              refine wpAnyZ_takeD (i := 10) (v := ?_) rfl (by kernel_rfl) (by kernel_rfl) (by kernel_rfl) (by kernel_rfl) (fun _ _ _ h => h) (Or.inl ⟨by rfl, ?_⟩) (by assumption) ?_
              rotate_left
              · (intro w hSw; (try dsimp only at hSw); go_simp; try with_reducible rfl)
              try simp only [Act.put, List.setIfInBounds_toArray, List.set_cons_zero, List.set_cons_succ]
              refine wpAnyZ_takeD (i := 11) (v := ?_) rfl (by kernel_rfl) (by kernel_rfl) (by kernel_rfl) (by kernel_rfl) (fun _ _ _ h => h) (Or.inl ⟨by rfl, ?_⟩) (by assumption) ?_
              rotate_left
              · (intro w hSw; (try dsimp only at hSw); go_simp; try with_reducible rfl)
              try simp only [Act.put, List.setIfInBounds_toArray, List.set_cons_zero, List.set_cons_succ]
              refine wpAnyZ_takeD (i := 12) (v := ?_) rfl (by kernel_rfl) (by kernel_rfl) (by kernel_rfl) (by kernel_rfl) (fun _ _ _ h => h) (Or.inl ⟨by rfl, ?_⟩) (by assumption) ?_
              rotate_left
              · (intro w hSw; (try dsimp only at hSw); go_simp; try with_reducible rfl)
              try simp only [Act.put, List.setIfInBounds_toArray, List.set_cons_zero, List.set_cons_succ]
              refine wpAnyZ_takeD (i := 13) (v := ?_) rfl (by kernel_rfl) (by kernel_rfl) (by kernel_rfl) (by kernel_rfl) (fun _ _ _ h => h) (Or.inl ⟨by rfl, ?_⟩) (by assumption) ?_
              rotate_left
              · (intro w hSw; (try dsimp only at hSw); go_simp; try with_reducible rfl)
              try simp only [Act.put, List.setIfInBounds_toArray, List.set_cons_zero, List.set_cons_succ]
              refine wpAnyZ_takeD (i := 14) (v := ?_) rfl (by kernel_rfl) (by kernel_rfl) (by kernel_rfl) (by kernel_rfl) (fun _ _ _ h => h) (Or.inl ⟨by rfl, ?_⟩) (by assumption) ?_
              rotate_left
              · (intro w hSw; (try dsimp only at hSw); go_simp; try with_reducible rfl)
              try simp only [Act.put, List.setIfInBounds_toArray, List.set_cons_zero, List.set_cons_succ]
              refine wpAnyZ_takeD (i := 15) (v := ?_) rfl (by kernel_rfl) (by kernel_rfl) (by kernel_rfl) (by kernel_rfl) (fun _ _ _ h => h) (Or.inl ⟨by rfl, ?_⟩) (by assumption) ?_
              rotate_left
              · (intro w hSw; (try dsimp only at hSw); go_simp; try with_reducible rfl)
              try simp only [Act.put, List.setIfInBounds_toArray, List.set_cons_zero, List.set_cons_succ]
              refine wpAnyZ_takeD (i := 16) (v := ?_) rfl (by kernel_rfl) (by kernel_rfl) (by kernel_rfl) (by kernel_rfl) (fun _ _ _ h => h) (Or.inl ⟨by rfl, ?_⟩) (by assumption) ?_
              rotate_left
              · (intro w hSw; (try dsimp only at hSw); go_simp; try with_reducible rfl)
              try simp only [Act.put, List.setIfInBounds_toArray, List.set_cons_zero, List.set_cons_succ]
              refine wpAnyZ_takeD (i := 17) (v := ?_) rfl (by kernel_rfl) (by kernel_rfl) (by kernel_rfl) (by kernel_rfl) (fun _ _ _ h => h) (Or.inl ⟨by rfl, ?_⟩) (by assumption) ?_
              rotate_left
              · (intro w hSw; (try dsimp only at hSw); go_simp; try with_reducible rfl)
              try simp only [Act.put, List.setIfInBounds_toArray, List.set_cons_zero, List.set_cons_succ]
              refine wpAnyZ_takeD (i := 18) (v := ?_) rfl (by kernel_rfl) (by kernel_rfl) (by kernel_rfl) (by kernel_rfl) (fun _ _ _ h => h) (Or.inl ⟨by rfl, ?_⟩) (by assumption) ?_
              rotate_left
              · (intro w hSw; (try dsimp only at hSw); go_simp; try with_reducible rfl)
              try simp only [Act.put, List.setIfInBounds_toArray, List.set_cons_zero, List.set_cons_succ]
              refine wpAnyZ_takeD (i := 19) (v := ?_) rfl (by kernel_rfl) (by kernel_rfl) (by kernel_rfl) (by kernel_rfl) (fun _ _ _ h => h) (Or.inl ⟨by rfl, ?_⟩) (by assumption) ?_
              rotate_left
              · (intro w hSw; (try dsimp only at hSw); go_simp; try with_reducible rfl)
              try simp only [Act.put, List.setIfInBounds_toArray, List.set_cons_zero, List.set_cons_succ]
              refine wpAnyZ_takeD (i := 20) (v := ?_) rfl (by kernel_rfl) (by kernel_rfl) (by kernel_rfl) (by kernel_rfl) (fun _ _ _ h => h) (Or.inl ⟨by rfl, ?_⟩) (by assumption) ?_
              rotate_left
              · (intro w hSw; (try dsimp only at hSw); go_simp; try with_reducible rfl)
              try simp only [Act.put, List.setIfInBounds_toArray, List.set_cons_zero, List.set_cons_succ]
              refine wpAnyZ_takeD (i := 21) (v := ?_) rfl (by kernel_rfl) (by kernel_rfl) (by kernel_rfl) (by kernel_rfl) (fun _ _ _ h => h) (Or.inl ⟨by rfl, ?_⟩) (by assumption) ?_
              rotate_left
              · (intro w hSw; (try dsimp only at hSw); go_simp; try with_reducible rfl)
              try simp only [Act.put, List.setIfInBounds_toArray, List.set_cons_zero, List.set_cons_succ]
              refine wpAnyZ_takeD (i := 22) (v := ?_) rfl (by kernel_rfl) (by kernel_rfl) (by kernel_rfl) (by kernel_rfl) (fun _ _ _ h => h) (Or.inl ⟨by rfl, ?_⟩) (by assumption) ?_
              rotate_left
              · (intro w hSw; (try dsimp only at hSw); go_simp; try with_reducible rfl)
              try simp only [Act.put, List.setIfInBounds_toArray, List.set_cons_zero, List.set_cons_succ]
              refine wpAnyZ_oneL (i := 23) (by kernel_rfl) rfl (fun K hK => ?_)
              go_simp
              go_at_call 22
              refine (SZ.out _).mono ?_
              rintro e w8 ⟨rfl, hw8⟩
              rw [hw8]
              clear hw8 w8
              refine hK.out _ _ (fun _ => HSz.out _ HDR.out) (fun hHeld => ?_)
              replace hHeld := hHeld (by decide)
              clear hK K
              try simp only [Act.put, List.setIfInBounds_toArray, List.set_cons_zero, List.set_cons_succ]
              refine wpAnyZ_takeD (i := 24) (v := ?_) rfl (by kernel_rfl) (by kernel_rfl) (by kernel_rfl) (by kernel_rfl) (fun _ _ _ h => h) (Or.inl ⟨by rfl, ?_⟩) (by assumption) ?_
              rotate_left
              · (intro w hSw; (try dsimp only at hSw); go_simp; try with_reducible rfl)
              try simp only [Act.put, List.setIfInBounds_toArray, List.set_cons_zero, List.set_cons_succ]
              refine wpAnyZ_takeD (i := 25) (v := ?_) rfl (by kernel_rfl) (by kernel_rfl) (by kernel_rfl) (by kernel_rfl) (fun _ _ _ h => h) (Or.inl ⟨by rfl, ?_⟩) (by assumption) ?_
              rotate_left
              · (intro w hSw; (try dsimp only at hSw); go_simp; try with_reducible rfl)
              try simp only [Act.put, List.setIfInBounds_toArray, List.set_cons_zero, List.set_cons_succ]
              refine wpAnyZ_done (by kernel_rfl) ?_ _
              clear hHeld
              as_aux_lemma =>
              go_wp2_with fail
              go_roundg (EO.length - (i + 1))
              case measure => omega
              case rel => exact ⟨i + 1, by go_num, by omega, rfl, by rw [HTK.out]; exact HO8.out, HB8.out, rfl⟩
            · have hii : ¬ (i : Int) < (EO.length : Int) := by omega
              have he : i = EO.length := by omega
              have HOO : Hid (EStr.Own 9 wE.heap.size noB wr (EO.map (·.name)) (.slice do' ((EO.take i).map (·.name)).length dc)) := by unfold Hid; have := HO.out; rw [he, List.take_length] at this ⊢; exact this
              clear HO he e0 e1 e2 hzr
              generalize ((EO.take i).map (·.name)).length = ln2 at *
              have HBr : Hid (Below w6.heap.size w6 wr) := HBE.out.trans (HB.out.mono HBE.out.size)
              have RA := Lib.hid (RA1.out wr HB.out)
              have RA2 : Hid (∀ W, Below wr.heap.size wr W → Calls Tryz.prog 28 #[.slice do' ln2 dc] W fun e w' => e = .returned (.bool true) ∧ Below W.heap.size W w') := fun W hb =>
                rasc_yes _ (EO.map (·.name)) _ (by rw [List.length_map]; omega) (fun x hx => by obtain ⟨o, ho, rfl⟩ := List.mem_map.1 hx; exact Nat.le_trans (XB.out.oN o ho) (by decide)) (show AscB (EO.map (·.name)) from List.pairwise_map.2 (show EO.Pairwise (fun x y => natC x.name.data.toList y.name.data.toList < 0) from IP.out.2.2.2.1)) W ((HOO.out.below hb).row (B' := fun _ => True) (fun _ _ => trivial) (fun _ _ => trivial))
              have h12 : decide (E1 = 1) = decide (E2 = 0) := IP.out.2.2.2.2
              clear HOO RA1 HRO hlt hi IP XB HE
              by_cases h1 : E1 = 1
              · have h2 : E2 = 0 := by rw [decide_eq_true h1] at h12; exact of_decide_eq_true h12.symm
                subst h1 h2
                clear h12
                as_aux_lemma =>
                go_wp2_with fail
                refine RA.out.mono ?_
                rintro e w8 ⟨rfl, hb8⟩
                have RB := Lib.hid (RA2.out w8 hb8)
                have HB8 : Hid (Below w6.heap.size w6 w8) := HBr.out.trans (hb8.mono HBr.out.size)
                clear hb8 RA RA2
                go_wp2_with fail
                refine RB.out.mono ?_
                rintro e w9 ⟨rfl, hb9⟩
                have HB9 : Hid (Below w6.heap.size w6 w9) := HB8.out.trans (hb9.mono HB8.out.size)
                obtain ⟨e0, e1, _, _⟩ := HG.out w9 HB9.out
                have HBW : Hid (Below w.heap.size w w9) := HB2.out.trans ((HB6.out.trans (HB9.out.mono HB6.out.size)).mono (by omega))
                have LV9 := Lib.hid (LV.out w9 HBW.out)
                clear hb9 RB HB8
                go_wp2_with fail
                refine LV9.out.mono ?_
                rintro e w10 ⟨rfl, hb10⟩
                have HBX : Hid (Below w.heap.size w w10) := HBW.out.trans (hb10.mono HBW.out.size)
                clear hb10
                go_wp2_with fail
                go_ret
                exact ⟨rfl, HBX.out⟩
              · have h2 : ¬ E2 = 0 := by rw [decide_eq_false h1] at h12; exact of_decide_eq_false h12.symm
                have t1 : ((E1 : Int) == 1) = false := by rw [beq_eq_false_iff_ne]; exact h1
                have t2 : ((E2 : Int) == 0) = false := by rw [beq_eq_false_iff_ne]; exact h2
                clear h12
                as_aux_lemma =>
                go_wp2_with fail
                refine RA.out.mono ?_
                rintro e w8 ⟨rfl, hb8⟩
                have RB := Lib.hid (RA2.out w8 hb8)
                have HB8 : Hid (Below w6.heap.size w6 w8) := HBr.out.trans (hb8.mono HBr.out.size)
                clear hb8 RA RA2
                go_wp2_with fail
                refine RB.out.mono ?_
                rintro e w9 ⟨rfl, hb9⟩
                have HB9 : Hid (Below w6.heap.size w6 w9) := HB8.out.trans (hb9.mono HB8.out.size)
                obtain ⟨e0, e1, _, _⟩ := HG.out w9 HB9.out
                have HBW : Hid (Below w.heap.size w w9) := HB2.out.trans ((HB6.out.trans (HB9.out.mono HB6.out.size)).mono (by omega))
                have LV9 := Lib.hid (LV.out w9 HBW.out)
                clear hb9 RB HB8
                go_wp2_with fail
                refine LV9.out.mono ?_
                rintro e w10 ⟨rfl, hb10⟩
                have HBX : Hid (Below w.heap.size w w10) := HBW.out.trans (hb10.mono HBW.out.size)
                clear hb10
                go_wp2_with fail
                go_ret
                exact ⟨rfl, HBX.out⟩
end Go.Proofs.YtghahghbahcpfaaGreatDoor
