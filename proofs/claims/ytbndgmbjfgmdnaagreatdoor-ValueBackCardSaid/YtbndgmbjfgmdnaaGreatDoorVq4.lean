/- The walk over value.levels. -/
import Derived.Test.YtbndgmbjfgmdnaaGreatDoorVk3
import Derived.Test.YtbndgmbjfgmdnaaGreatDoorVa2
namespace Go.Proofs.YtbndgmbjfgmdnaaGreatDoor
open Go.RowKit Go.Shelf

attribute [local go_sem] Oper.semAt_some

theorem firstE_zero : ∀ {l : List (Nat × VT)}, firstE (l.map nodeE) = 0 → ∀ p ∈ l, nodeF p.1 p.2 = 0
  | [], _, p, hp => by cases hp
  | x :: l, h, p, hp => by
    rw [List.map_cons, firstE] at h
    by_cases hx : nodeE x = 0
    · rw [if_neg (fun k => k hx)] at h
      rcases List.mem_cons.1 hp with rfl | hp
      · exact hx
      · exact firstE_zero h p hp
    · rw [if_pos hx] at h; exact absurd h hx
/-- what lies while the rounds run -/
structure LM (w : World) (rec : Loop) (m : Nat) (W : World) : Prop where
  r : W.heap[w.heap.size + 1]? = some (.cells #[.int .i64 (m : Nat)] 3 (0, 0))
  dd : W.heap[w.heap.size + 4]? = some (.deferred (some []))
  ll : W.heap[w.heap.size + 5]? = some (.loop rec)
  bl : Below w.heap.size w W
theorem LM.next {w : World} {rec : Loop} {m : Nat} {W W1 : World} (h : LM w rec m W) (hb : Below W.heap.size W W1) : LM w rec m W1 := by
  have lt : ∀ {k : Nat} {o : Obj}, W.heap[k]? = some o → k < W.heap.size := fun hk => (Array.getElem?_eq_some_iff.1 hk).1
  exact ⟨(hb.block _ (lt h.r)).trans h.r, (hb.block _ (lt h.dd)).trans h.dd, (hb.block _ (lt h.ll)).trans h.ll, h.bl.trans (hb.mono h.bl.size)⟩
theorem LM.loop {w : World} {rec : Loop} {m : Nat} {W : World} (h : LM w rec m W) (rec' : Loop) : LM w rec' m (W.putObj (w.heap.size + 5) (.loop rec')) := by
  have hw := wrote_putObj (.loop rec') h.ll
  exact ⟨(hw.block _ (by omega)).trans h.r, (hw.block _ (by omega)).trans h.dd, hw.at_, h.bl.trans (hw.below (by omega))⟩
theorem LM.put {w : World} {rec : Loop} {m : Nat} {W : World} (h : LM w rec m W) (m' : Nat) : LM w rec m' (W.setCell ⟨w.heap.size + 1, 0, none⟩ (.int .i64 (m' : Nat))) := by
  have hw := wrote_setCell h.r 0 (.int .i64 (m' : Nat))
  exact ⟨hw.at_, (hw.block _ (by omega)).trans h.dd, (hw.block _ (by omega)).trans h.ll, h.bl.trans (hw.below (by omega))⟩
def LJ (t : VT) (w : World) (rec : Loop) (R : List (Nat × VT)) (W : World) : Prop :=
  ∃ m, LM w rec m W ∧ m ≤ 17 ∧ topF m R = levelsF t ∧ ∀ p ∈ R, p.1 ≤ 16
theorem topE_le {lv : Nat} {t : VT} (h : lv ≤ 16) : topE (lv, t) ≤ 17 := by unfold topE; dsimp only; split <;> omega

set_option maxRecDepth 100000 in
set_option maxHeartbeats 3200000 in
theorem levels_any (v : Value) (t : VT) (w : World) (h : VAt w v t) (hwf : t.wf) (hval : validF t = 0) : Calls Tryz.prog 71 #[v] w fun e w' => e = .returned (.int .i64 (levelsF t : Nat)) ∧ Below w.heap.size w w' := by
  have HLV := Lib.hid (fun p hp => (node_zero (firstE_zero ((check_nodes 1 t).trans hval) p hp)).1)
  have HTP := Lib.hid (top_levels hval)
  have H := Lib.hid h
  obtain ⟨x4, x5, rfl, hs, hL⟩ := h.open
  have NC := fun W (hW : Below w.heap.size w W) => Lib.hid (nodes_any _ t 1 W (H.out.below hW))
  clear hs hL h
  refine (callsIn_wide (n := 10)).1 (callsIn_of_wp_marks Tryz.func71 rfl trivial (wpIn_wide.2 ?_) rfl)
  simp only [Tryz.ntmps71, List.size_toArray, List.length_cons, List.length_nil, Nat.reduceAdd, Nat.reduceSub, Array.replicate_succ, Array.replicate_zero, List.push_toArray, List.append_toArray, List.nil_append, List.cons_append]
  go_wp2_with fail
  obtain ⟨W2, hW2⟩ : ∃ W2, (w.alloc (.cells #[.int .i64 t.kind, .bool t.bool, .int .i64 t.int, .string t.str, x4, x5] 25)).alloc (.cells #[.int .i64 0] 3) = W2 := ⟨_, rfl⟩
  rw [hW2]
  have hs2 : W2.heap.size = w.heap.size + 2 := by rw [← hW2]; simp
  have hb2 : Below w.heap.size w W2 := by rw [← hW2]; exact ((Below.refl _ w).alloc (Nat.le_refl _) _).alloc (by simp) _
  have hr2 : W2.heap[w.heap.size + 1]? = some (.cells #[.int .i64 ((0 : Nat) : Int)] 3 (0, 0)) := by rw [← hW2]; exact hp_new (by simp)
  clear hW2
  refine (NC W2 hb2).out.mono ?_
  rintro e w4 ⟨rfl, cs, hcs, rfl⟩
  obtain ⟨cs', he, hvc⟩ := H.out
  have hcc : cs = cs' := by
    have := hcs.symm.trans he
    injection this with this
    exact List.toArray_inj this
  subst hcc
  clear hcs he NC H
  obtain ⟨W4, hW4⟩ : ∃ W4, (W2.alloc (.cells cs.toArray 25 (0, 0))).alloc (.cells #[.int .i64 ((1 : Nat) : Int)] 3 (0, 0)) = W4 := ⟨_, rfl⟩
  have hs4 : W4.heap.size = w.heap.size + 4 := by rw [← hW4]; simp [hs2]
  have hb4 : Below w.heap.size w W4 := by rw [← hW4]; exact (hb2.alloc hb2.size _).alloc (by simp; omega) _
  have hr4 : W4.heap[w.heap.size + 1]? = some (.cells #[.int .i64 ((0 : Nat) : Int)] 3 (0, 0)) := by rw [← hW4]; exact (hp_old (by simp; omega)).trans ((hp_old (by omega)).trans hr2)
  have hp2 : W4.heap[w.heap.size + 2]? = some (.cells cs.toArray 25 (0, 0)) := by rw [← hW4]; exact (hp_old (by simp; omega)).trans (hp_new (by omega))
  have hp3 : W4.heap[w.heap.size + 3]? = some (.cells #[.int .i64 ((1 : Nat) : Int)] 3 (0, 0)) := by rw [← hW4]; exact hp_new (by simp; omega)
  rw [hW4, hs2]
  clear hW4 hr2 hb2
  go_wp2_with fail
  refine wpIn_wide.1 (range_enter (n := 10) 53 #[.pointer (some ⟨w.heap.size + 2, 0, none⟩), .pointer (some ⟨w.heap.size + 3, 0, none⟩)] rfl (enters_of Tryz.func53 (by kernel_rfl) rfl) ?_)
  intro fn W1 hb1 hs1 hd1 hl1
  rw [hs4] at hb1 hs1 hd1 hl1 ⊢
  obtain ⟨rec, hl1', hrec⟩ : ∃ rec, W1.heap[w.heap.size + 4 + 1]? = some (.loop rec) ∧ rec = _ := ⟨_, hl1, rfl⟩
  have HREC := Lib.hid hrec
  have hvm : LM w rec 0 W1 := ⟨(hb1.block _ (by omega)).trans hr4, hd1, hl1', hb4.trans (hb1.mono (by omega))⟩
  have hq2 := (hb1.block _ (by omega)).trans hp2
  have hq3 := (hb1.block _ (by omega)).trans hp3
  clear hl1 hrec hb1 hd1 hl1' hr4 hp2 hp3 hb4 hs4 hs2
  refine (nodes1_it w (w.heap.size + 5) (w.heap.size + 6) (10 - 1) (w.heap.size + 2) (w.heap.size + 3) (LJ t w rec) (fun _ => False) [] t cs 1 (by decide) (walk_all w _ _ _ _ ?h0 ?hG ?hY _ t (Nat.le_refl _) hwf) hvc W1 (by omega) ?hj hq2 hq3).mono ?fin
  case h0 => rintro R W ⟨m, hj, _⟩; exact hj.bl
  case hG => rintro R W W' ⟨m, hj, h2⟩ hb; exact ⟨m, hj.next hb, h2⟩
  case hj =>
    rw [List.append_nil]
    exact ⟨0, hvm, by decide, HTP.out, HLV.out⟩
  case hY =>
    intro lv t' v R W hlv hva hj
    obtain ⟨m, hp, hm17, hf, hlvl⟩ := hj
    have hl16 : lv ≤ 16 := hlvl _ (List.mem_cons_self ..)
    have hlR : ∀ p ∈ R, p.1 ≤ 16 := fun p hp => hlvl p (List.mem_cons_of_mem _ hp)
    have hf' : topF (max m (topE (lv, t'))) R = levelsF t := hf
    have hte := topE_le (t := t') hl16
    have HTE : Hid (topE (lv, t') = lv + (if (t'.kind = 4 ∨ t'.kind = 5) ∧ t'.list.length = 0 then 1 else 0)) := rfl
    obtain ⟨k1, b1, n1, s1, lo1, ko1, lc1, kc1, rfl, hks⟩ : ∃ k1 b1 n1 s1 lo1 ko1 lc1 kc1, v = .agg #[.int .i64 k1, .bool b1, .int .i64 n1, .string s1, .slice lo1 t'.list.length lc1, .slice ko1 t'.keys.length kc1] ∧ k1 = t'.kind ∧ b1 = t'.bool ∧ n1 = t'.int ∧ s1 = t'.str ∧ StrsAt w (.slice ko1 t'.keys.length kc1) t'.keys := by
      obtain ⟨y4, y5, rfl, g1, g2⟩ := hva.open
      obtain ⟨ko, kc, rfl⟩ := g1.form
      obtain ⟨lo, lc, rfl⟩ := vlist_slice g2
      exact ⟨_, _, _, _, _, _, _, _, rfl, rfl, rfl, rfl, rfl, g1⟩
    have HKS := Lib.hid hks
    have hra := congrArg Loop.assign HREC.out
    have hrb := congrArg Loop.body HREC.out
    have hrt := congrArg Loop.tmps HREC.out
    have hrp := congrArg Loop.params HREC.out
    have hrs := congrArg Loop.state HREC.out
    have hre := congrArg Loop.pending HREC.out
    dsimp only at hra hrb hrt hrp hrs hre
    have HRS : Hid (rec.state = .ready ∧ rec.pending = none) := ⟨hrs, hre⟩
    clear hre hf hlvl
    refine ⟨rec.fn, _, rec.assign, rec.body, run_yield hp.ll (by rw [hrp]; rfl), roundIn_of_wpIn trivial ?_⟩
    have hbA := (Below.refl W.heap.size W).alloc (Nat.le_refl _) (.cells #[.int .i64 k1, .bool b1, .int .i64 n1, .string s1, .slice lo1 t'.list.length lc1, .slice ko1 t'.keys.length kc1] 25)
    have hpA := hp.next hbA
    have hbx : (W.alloc (.cells #[.int .i64 k1, .bool b1, .int .i64 n1, .string s1, .slice lo1 t'.list.length lc1, .slice ko1 t'.keys.length kc1] 25)).heap[W.heap.size]? = _ := hp_new rfl
    have hzA := alloc_lt W (.cells #[.int .i64 k1, .bool b1, .int .i64 n1, .string s1, .slice lo1 t'.list.length lc1, .slice ko1 t'.keys.length kc1] 25)
    have hbr := run_beginRound (P := Tryz.prog) hpA.ll hrs
    have hz5 : w.heap.size + 5 < W.heap.size := (Array.getElem?_eq_some_iff.1 hp.ll).1
    rw [hra, hrb, hrt, hrp]
    clear hra hrb hrt hrp HREC hvm
    obtain ⟨WA, hWA⟩ : ∃ WA, W.alloc (.cells #[.int .i64 k1, .bool b1, .int .i64 n1, .string s1, .slice lo1 t'.list.length lc1, .slice ko1 t'.keys.length kc1] 25) = WA := ⟨_, rfl⟩
    rw [hWA] at hbr hpA hbx hzA hbA
    obtain ⟨W2, hW2⟩ : ∃ W2, WA.putObj (w.heap.size + 5) (.loop { rec with state := .busy }) = W2 := ⟨_, rfl⟩
    have hwp := wrote_putObj (.loop { rec with state := .busy }) hpA.ll
    have HP2 : Hid (LM w { rec with state := .busy } m W2) := by unfold Hid; rw [← hW2]; exact hpA.loop _
    rw [hW2] at hbr hwp
    have HKP : Hid (Kept (w.heap.size + 6) W W2) := (Kept.below hbA).trans (kept_wrote hwp (by omega))
    have hb2 := (hwp.block W.heap.size (by omega)).trans hbx
    have HB2 : Hid (Below w.heap.size w W2) := HP2.out.bl
    have LV : (loadVar 25 ⟨W.heap.size, 0, none⟩).run Tryz.prog W2 = .ok (.agg #[.int .i64 k1, .bool b1, .int .i64 n1, .string s1, .slice lo1 t'.list.length lc1, .slice ko1 t'.keys.length kc1]) W2 := run_loadVar_row W2 W.heap.size _ _ _ _ _ hb2 Tryz.underlying25 rfl (by kernel_rfl)
    have g0 : W2.cell? ⟨W.heap.size, 0, none⟩ = some (.int .i64 k1) := by rw [cell_of_blk hb2]; rfl
    have g1 : W2.cell? ⟨W.heap.size, 1, none⟩ = some (.bool b1) := by rw [cell_of_blk hb2]; rfl
    have g2 : W2.cell? ⟨W.heap.size, 2, none⟩ = some (.int .i64 n1) := by rw [cell_of_blk hb2]; rfl
    have g3 : W2.cell? ⟨W.heap.size, 3, none⟩ = some (.string s1) := by rw [cell_of_blk hb2]; rfl
    have g4 : W2.cell? ⟨W.heap.size, 4, none⟩ = some (.slice lo1 t'.list.length lc1) := by rw [cell_of_blk hb2]; rfl
    have g5 : W2.cell? ⟨W.heap.size, 5, none⟩ = some (.slice ko1 t'.keys.length kc1) := by rw [cell_of_blk hb2]; rfl
    have c1 : W2.cell? ⟨w.heap.size + 1, 0, none⟩ = some (.int .i64 (m : Nat)) := cell_of_blk HP2.out.r 0
    have f1 : W2.frozen? ⟨w.heap.size + 1, 0, none⟩ = false := free_of_blk HP2.out.r 0
    have hrr : { { rec with state := LoopState.busy } with state := .ready, pending := none } = rec := by
      obtain ⟨a1, a2⟩ := HRS.out
      cases rec
      simp only at a1 a2
      rw [a1, a2]
    have END : Hid (∀ q : Nat, q = topE (lv, t') → (W2.setCell ⟨w.heap.size + 1, 0, none⟩ (.int .i64 ((max m q : Nat) : Int))).heap[w.heap.size + 5]? = some (.loop { rec with state := .busy }) ∧
        LJ t w rec R ((W2.setCell ⟨w.heap.size + 1, 0, none⟩ (.int .i64 ((max m q : Nat) : Int))).putObj (w.heap.size + 5) (.loop { { rec with state := LoopState.busy } with state := .ready, pending := none })) ∧
        Kept (w.heap.size + 6) W ((W2.setCell ⟨w.heap.size + 1, 0, none⟩ (.int .i64 ((max m q : Nat) : Int))).putObj (w.heap.size + 5) (.loop { { rec with state := LoopState.busy } with state := .ready, pending := none }))) := by
      intro q hq
      have hp3 := HP2.out.put (max m q)
      refine ⟨hp3.ll, ⟨max m q, ?_, by omega, by rw [hq]; exact hf', hlR⟩, (HKP.out.trans (kept_wrote (wrote_setCell HP2.out.r 0 _) (by omega))).trans (kept_wrote (wrote_putObj _ hp3.ll) (by omega))⟩
      have := hp3.loop { { rec with state := LoopState.busy } with state := .ready, pending := none }
      rw [hrr] at this ⊢
      exact this
    have HT : Hid (topE (lv, t') = lv + (if (k1 = 4 ∨ k1 = 5) ∧ t'.list.length = 0 then 1 else 0)) := by rw [HKS.out.1]; exact HTE.out
    clear hwp hpA hbx hva hp hrr hf' hks HKS HTE hte LV
    generalize topE (lv, t') = TE at *
    generalize t'.list.length = ln at *
    clear hrs hzA hbA hb2
    by_cases k4 : k1 = 4
    · subst k4
      by_cases h0 : ln = 0
      · subst h0
        have HE : Hid (TE = lv + 1) := by unfold Hid; rw [HT.out, if_pos ⟨Or.inl rfl, rfl⟩]
        clear HT
        as_aux_lemma =>
        gi_wp2_with fail
        have hE := END.out (lv + 1) HE.out.symm
        rw [show (((max m (lv + 1) : Nat)) : Int) = max (m : Int) ((lv : Int) + 1) by omega] at hE
        obtain ⟨q1, q2, q3⟩ := hE
        exact ⟨_, _, run_endRound none q1, ⟨rfl, q2⟩, q3⟩
      · have t0 : ((ln : Int) == 0) = false := by rw [beq_eq_false_iff_ne]; omega
        have t0n : (ln == 0) = false := by rw [beq_eq_false_iff_ne]; exact h0
        have HE : Hid (TE = lv) := by unfold Hid; rw [HT.out, if_neg (fun h => h0 h.2), Nat.add_zero]
        clear HT h0
        as_aux_lemma =>
        gi_wp2_with fail
        have hE := END.out (lv) HE.out.symm
        rw [show (((max m (lv) : Nat)) : Int) = max (m : Int) (lv : Int) by omega] at hE
        obtain ⟨q1, q2, q3⟩ := hE
        exact ⟨_, _, run_endRound none q1, ⟨rfl, q2⟩, q3⟩
    by_cases k5 : k1 = 5
    · subst k5
      by_cases h0 : ln = 0
      · subst h0
        have HE : Hid (TE = lv + 1) := by unfold Hid; rw [HT.out, if_pos ⟨Or.inr rfl, rfl⟩]
        clear HT
        as_aux_lemma =>
        gi_wp2_with fail
        have hE := END.out (lv + 1) HE.out.symm
        rw [show (((max m (lv + 1) : Nat)) : Int) = max (m : Int) ((lv : Int) + 1) by omega] at hE
        obtain ⟨q1, q2, q3⟩ := hE
        exact ⟨_, _, run_endRound none q1, ⟨rfl, q2⟩, q3⟩
      · have t0 : ((ln : Int) == 0) = false := by rw [beq_eq_false_iff_ne]; omega
        have t0n : (ln == 0) = false := by rw [beq_eq_false_iff_ne]; exact h0
        have HE : Hid (TE = lv) := by unfold Hid; rw [HT.out, if_neg (fun h => h0 h.2), Nat.add_zero]
        clear HT h0
        as_aux_lemma =>
        gi_wp2_with fail
        have hE := END.out (lv) HE.out.symm
        rw [show (((max m (lv) : Nat)) : Int) = max (m : Int) (lv : Int) by omega] at hE
        obtain ⟨q1, q2, q3⟩ := hE
        exact ⟨_, _, run_endRound none q1, ⟨rfl, q2⟩, q3⟩
    · have t4 : (k1 == 4) = false := by rw [beq_eq_false_iff_ne]; exact k4
      have t5 : (k1 == 5) = false := by rw [beq_eq_false_iff_ne]; exact k5
      have HE : Hid (TE = lv) := by unfold Hid; rw [HT.out, if_neg (fun h => h.1.elim k4 k5), Nat.add_zero]
      clear HT k4 k5
      as_aux_lemma =>
      gi_wp2_with fail
      have hE := END.out (lv) HE.out.symm
      rw [show (((max m (lv) : Nat)) : Int) = max (m : Int) (lv : Int) by omega] at hE
      obtain ⟨q1, q2, q3⟩ := hE
      exact ⟨_, _, run_endRound none q1, ⟨rfl, q2⟩, q3⟩
  case fin =>
    rintro e W2 ⟨⟨rvv, rfl⟩, ⟨m, hp, hm17, hf, _⟩ | hx⟩
    · have hst : rec.state ≠ .busy := by rw [HREC.out]; exact fun h => by cases h
      have hpe : rec.pending = none := by rw [HREC.out]
      refine ⟨rec.pending, _, run_endLoop hp.ll hst, ?_⟩
      rw [hpe]
      have hp3 := hp.loop { rec with state := .exhausted, pending := none }
      obtain ⟨W3, hW3⟩ : ∃ W3, W2.putObj (w.heap.size + 4 + 1) (.loop { rec with state := .exhausted, pending := none }) = W3 := ⟨_, rfl⟩
      change LM _ _ _ (W2.putObj (w.heap.size + 4 + 1) _) at hp3
      rw [hW3] at hp3 ⊢
      have HP := Lib.hid hp3
      have HF : Hid (m = levelsF t) := hf
      clear hp hW3 hf hp3 hvm
      have c1 : W3.cell? ⟨w.heap.size + 1, 0, none⟩ = some (.int .i64 (m : Nat)) := cell_of_blk HP.out.r 0
      have k4 := HP.out.dd
      have HB4 : Hid (Below w.heap.size w W3) := HP.out.bl
      dsimp only
      go_wp2_with fail
      refine ⟨by simp, .inl ⟨_, _, rfl, run_takeDeferred k4, ?_⟩⟩
      have HBF : Hid (Below w.heap.size W3 (W3.putObj (w.heap.size + 4) (.deferred none))) := (wrote_putObj _ k4).below (by omega)
      generalize W3.putObj (w.heap.size + 4) (.deferred none) = W5 at *
      refine ⟨.int .i64 (m : Nat), ?_, ?_⟩
      · simp [results, go_sem]
      · exact ⟨by rw [HF.out], HB4.out.trans HBF.out⟩
    · exact hx.elim
end Go.Proofs.YtbndgmbjfgmdnaaGreatDoor
