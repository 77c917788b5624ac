/- The walk over value.Valid. -/
import Derived.Test.YtomecnncighkgaaGreatDoorVkm
import Derived.Test.YtomecnncighkgaaGreatDoorVnm
namespace Go.Proofs.YtomecnncighkgaaGreatDoor
open Go.RowKit Go.Shelf

attribute [local go_sem] Oper.semAt_some

/-- entering a range over a closure: the record and the block for the rounds' deferred calls are laid -/
theorem range_enter {P : Program} {n : Nat} {g : Operand} {ps : Array Tmp} {assign body : Code} {Q : Exit → Act → World → Prop} {a : Act} {w : World} (gf : Nat) (lb : Array Value)
    (hg : a.eval g = .func (.func gf) #[] lb) (eg : ∀ args w, (callFunc gf args).run P w = .ok (.enter gf args) w)
    (h : ∀ (fn : FuncId) (W1 : World), Below w.heap.size w W1 → W1.heap.size = w.heap.size + 2 → W1.heap[w.heap.size]? = some (.deferred (some [])) →
      W1.heap[w.heap.size + 1]? = some (.loop { state := .ready, pending := none, fn, tmps := a.tmps, params := ps, assign, body, defers := w.heap.size }) →
      CallsIn Fence.wide (n - 1) P gf (#[.func (.yield (w.heap.size + 1)) #[] #[]] ++ lb) W1 (rangePost Fence.wide n P (w.heap.size + 1) Q { a with defers := [{ target := .collected w.heap.size, args := #[] }] ++ a.defers })) :
    (Code.rangeFunc g ps assign body).wpIn Fence.wide n P Q a w := by
  refine wpIn_rangeFunc ?_
  intro fn hfn
  obtain ⟨rec, hrec⟩ : ∃ rec : Loop, rec = { state := .ready, pending := none, fn, tmps := a.tmps, params := ps, assign, body, defers := w.heap.size } := ⟨_, rfl⟩
  obtain ⟨W1, hW1⟩ : ∃ W1, (w.alloc (.deferred (some []))).alloc (.loop rec) = W1 := ⟨_, rfl⟩
  have hL1 : W1.heap[w.heap.size + 1]? = some (.loop rec) := by
    rw [← hW1]; have := World.alloc_heap_new (w.alloc (.deferred (some []))) (.loop rec); rwa [World.size_alloc] at this
  have hK1 : W1.heap[w.heap.size]? = some (.deferred (some [])) := by
    rw [← hW1]; exact (Below.heap_alloc _ _ _ (by simp)).trans (World.alloc_heap_new w _)
  have hB1 : Below w.heap.size w W1 := by
    rw [← hW1]; exact ((Below.refl _ w).alloc (Nat.le_refl _) _).alloc (by simp) _
  have hS1 : W1.heap.size = w.heap.size + 2 := by rw [← hW1]; simp
  refine ⟨w.heap.size + 1, [{ target := .collected w.heap.size, args := #[] }], W1, { target := .fn (.func gf) lb, args := #[.func (.yield (w.heap.size + 1)) #[] #[]] }, W1, gf,
    #[.func (.yield (w.heap.size + 1)) #[] #[]] ++ lb, W1, ?_, ?_, ?_, ?_, fun h => (by cases h), ?_⟩
  · rw [← hW1, hrec]; exact run_enterLoop_outer _ _ _ _ _
  · simp only [resolve, hg]
    simp [go_sem]
  · intro f' _; trivial
  · simp [invoke, go_sem, eg]
  · exact h fn W1 hB1 hS1 hK1 (by rw [hL1, hrec])

theorem wrote_putObj {W : World} {l : Nat} {o0 : Obj} (o : Obj) (h : W.heap[l]? = some o0) : Wrote l o W (W.putObj l o) :=
  ⟨rfl, rfl, rfl, by simp [World.putObj], World.putObj_heap_same (Array.getElem?_eq_some_iff.1 h).1, fun k hk => World.putObj_heap_other hk⟩

mutual
theorem nodes_wf : ∀ (t : VT) (lv : Nat), t.wf → ∀ p ∈ t.nodes lv, p.2.wf
  | .mk k b n s L ks, lv, h, p, hp => by
    rw [VT.nodes] at hp
    rcases List.mem_cons.1 hp with rfl | hp
    · exact h
    · exact nodesL_wf L (lv + 1) (VT.wf_parts h).2.2.2.2.2.2 p hp
theorem nodesL_wf : ∀ (L : List VT) (lv : Nat), (∀ t ∈ L, t.wf) → ∀ p ∈ L.flatMap (VT.nodes lv), p.2.wf
  | [], _, _, p, hp => by cases hp
  | t :: L, lv, h, p, hp => by
    rw [List.flatMap_cons] at hp
    rcases List.mem_append.1 hp with hp | hp
    · exact nodes_wf t lv (h t (List.mem_cons_self ..)) p hp
    · exact nodesL_wf L lv (fun x hx => h x (List.mem_cons_of_mem _ hx)) p hp
end
/-- what lies while the rounds run -/
structure VM (w : World) (rec : Loop) (W : World) : Prop where
  r : W.heap[w.heap.size + 1]? = some (.cells #[.int .i64 0] 28 (0, 0))
  dd : W.heap[w.heap.size + 4]? = some (.deferred (some []))
  ll : W.heap[w.heap.size + 5]? = some (.loop rec)
  bl : Below w.heap.size w W
theorem VM.next {w : World} {rec : Loop} {W W1 : World} (h : VM w rec W) (hb : Below W.heap.size W W1) : VM w rec W1 := by
  have lt : ∀ {k : Nat} {o : Obj}, W.heap[k]? = some o → k < W.heap.size := fun hk => (Array.getElem?_eq_some_iff.1 hk).1
  exact ⟨(hb.block _ (lt h.r)).trans h.r, (hb.block _ (lt h.dd)).trans h.dd, (hb.block _ (lt h.ll)).trans h.ll, h.bl.trans (hb.mono h.bl.size)⟩
theorem VM.loop {w : World} {rec : Loop} {W : World} (h : VM w rec W) (rec' : Loop) : VM w rec' (W.putObj (w.heap.size + 5) (.loop rec')) := by
  have hw := wrote_putObj (.loop rec') h.ll
  exact ⟨(hw.block _ (by omega)).trans h.r, (hw.block _ (by omega)).trans h.dd, hw.at_, h.bl.trans (hw.below (by omega))⟩
def VJ (t : VT) (w : World) (rec : Loop) (R : List (Nat × VT)) (W : World) : Prop :=
  VM w rec W ∧ firstE (R.map nodeE) = validF t ∧ ∀ p ∈ R, p.2.wf
def VJx (t : VT) (w : World) (rec : Loop) (W : World) : Prop :=
  W.heap[w.heap.size + 1]? = some (.cells #[.int .i64 (validF t : Nat)] 28 (0, 0)) ∧ W.heap[w.heap.size + 4]? = some (.deferred (some [])) ∧
    W.heap[w.heap.size + 5]? = some (.loop { rec with state := .done, pending := some .ret }) ∧ Below w.heap.size w W
theorem kept_wrote {B b : Nat} {o : Obj} {w w1 : World} (h : Wrote b o w w1) (hb : b < B) : Kept B w w1 :=
  ⟨Nat.le_of_eq h.size.symm, fun k hB _ => h.block k (by omega)⟩

set_option maxRecDepth 100000 in
set_option maxHeartbeats 3200000 in
theorem valid_any (v : Value) (t : VT) (w : World) (h : VAt w v t) (hwf : t.wf) : Calls Tryz.prog 74 #[v] w fun e w' => e = .returned (.int .i64 (validF t : Nat)) ∧ Below w.heap.size w w' := by
  have H := Lib.hid h
  obtain ⟨x4, x5, rfl, hs, hL⟩ := h.open
  have NC := fun W (hW : Below w.heap.size w W) => Lib.hid (nodes_any _ t 1 W (H.out.below hW))
  clear hs hL h
  refine (callsIn_wide (n := 10)).1 (callsIn_of_wp_marks Tryz.func74 rfl trivial (wpIn_wide.2 ?_) rfl)
  simp only [Tryz.ntmps74, List.size_toArray, List.length_cons, List.length_nil, Nat.reduceAdd, Nat.reduceSub, Array.replicate_succ, Array.replicate_zero, List.push_toArray, List.append_toArray, List.nil_append, List.cons_append]
  go_wp2_with fail
  obtain ⟨W2, hW2⟩ : ∃ W2, (w.alloc (.cells #[.int .i64 t.kind, .bool t.bool, .int .i64 t.int, .string t.str, x4, x5] 46)).alloc (.cells #[.int .i64 0] 28) = W2 := ⟨_, rfl⟩
  rw [hW2]
  have hs2 : W2.heap.size = w.heap.size + 2 := by rw [← hW2]; simp
  have hb2 : Below w.heap.size w W2 := by rw [← hW2]; exact ((Below.refl _ w).alloc (Nat.le_refl _) _).alloc (by simp) _
  have hr2 : W2.heap[w.heap.size + 1]? = some (.cells #[.int .i64 0] 28 (0, 0)) := by rw [← hW2]; exact hp_new (by simp)
  clear hW2
  refine (NC W2 hb2).out.mono ?_
  rintro e w4 ⟨rfl, cs, hcs, rfl⟩
  obtain ⟨cs', he, hvc⟩ := H.out
  have hcc : cs = cs' := by
    have := hcs.symm.trans he
    injection this with this
    exact List.toArray_inj this
  subst hcc
  clear hcs he NC H
  obtain ⟨W4, hW4⟩ : ∃ W4, (W2.alloc (.cells cs.toArray 46 (0, 0))).alloc (.cells #[.int .i64 ((1 : Nat) : Int)] 3 (0, 0)) = W4 := ⟨_, rfl⟩
  have hs4 : W4.heap.size = w.heap.size + 4 := by rw [← hW4]; simp [hs2]
  have hb4 : Below w.heap.size w W4 := by rw [← hW4]; exact (hb2.alloc hb2.size _).alloc (by simp; omega) _
  have hr4 : W4.heap[w.heap.size + 1]? = some (.cells #[.int .i64 0] 28 (0, 0)) := by rw [← hW4]; exact (hp_old (by simp; omega)).trans ((hp_old (by omega)).trans hr2)
  have hp2 : W4.heap[w.heap.size + 2]? = some (.cells cs.toArray 46 (0, 0)) := by rw [← hW4]; exact (hp_old (by simp; omega)).trans (hp_new (by omega))
  have hp3 : W4.heap[w.heap.size + 3]? = some (.cells #[.int .i64 ((1 : Nat) : Int)] 3 (0, 0)) := by rw [← hW4]; exact hp_new (by simp; omega)
  rw [hW4, hs2]
  clear hW4 hr2 hb2
  go_wp2_with fail
  refine wpIn_wide.1 (range_enter (n := 10) 123 #[.pointer (some ⟨w.heap.size + 2, 0, none⟩), .pointer (some ⟨w.heap.size + 3, 0, none⟩)] rfl (enters_of Tryz.func123 (by kernel_rfl) rfl) ?_)
  intro fn W1 hb1 hs1 hd1 hl1
  rw [hs4] at hb1 hs1 hd1 hl1 ⊢
  obtain ⟨rec, hl1', hrec⟩ : ∃ rec, W1.heap[w.heap.size + 4 + 1]? = some (.loop rec) ∧ rec = _ := ⟨_, hl1, rfl⟩
  have HREC := Lib.hid hrec
  have hvm : VM w rec W1 := ⟨(hb1.block _ (by omega)).trans hr4, hd1, hl1', hb4.trans (hb1.mono (by omega))⟩
  have hq2 := (hb1.block _ (by omega)).trans hp2
  have hq3 := (hb1.block _ (by omega)).trans hp3
  clear hl1 hrec hb1 hd1 hl1' hr4 hp2 hp3 hb4 hs4 hs2
  refine (nodes1_it w (w.heap.size + 5) (w.heap.size + 6) (10 - 1) (w.heap.size + 2) (w.heap.size + 3) (VJ t w rec) (VJx t w rec) [] t cs 1 (by decide) (walk_all w _ _ _ _ ?h0 ?hG ?hY _ t (Nat.le_refl _) hwf) hvc W1 (by omega) ?hj hq2 hq3).mono ?fin
  case h0 => exact fun R W hj => hj.1.bl
  case hG => exact fun R W W' hj hb => ⟨hj.1.next hb, hj.2.1, hj.2.2⟩
  case hj =>
    rw [List.append_nil]
    exact ⟨hvm, check_nodes 1 t, nodes_wf t 1 hwf⟩
  case hY =>
    intro lv t' v R W hlv hva hj
    obtain ⟨hp, hf, hwl⟩ := hj
    have hw' : t'.wf := hwl _ (List.mem_cons_self ..)
    have hwR : ∀ p ∈ R, p.2.wf := fun p hp => hwl p (List.mem_cons_of_mem _ hp)
    have hf' : (if nodeF lv t' ≠ 0 then nodeF lv t' else firstE (R.map nodeE)) = validF t := hf
    obtain ⟨k1, b1, n1, s1, lo1, ko1, lc1, kc1, rfl, hks⟩ : ∃ k1 b1 n1 s1 lo1 ko1 lc1 kc1, v = .agg #[.int .i64 k1, .bool b1, .int .i64 n1, .string s1, .slice lo1 t'.list.length lc1, .slice ko1 t'.keys.length kc1] ∧ k1 = t'.kind ∧ b1 = t'.bool ∧ n1 = t'.int ∧ s1 = t'.str ∧ StrsAt w (.slice ko1 t'.keys.length kc1) t'.keys := by
      obtain ⟨y4, y5, rfl, g1, g2⟩ := hva.open
      obtain ⟨ko, kc, rfl⟩ := g1.form
      obtain ⟨lo, lc, rfl⟩ := vlist_slice g2
      exact ⟨_, _, _, _, _, _, _, _, rfl, rfl, rfl, rfl, rfl, g1⟩
    have HKS := Lib.hid hks
    have hra := congrArg Loop.assign HREC.out
    have hrb := congrArg Loop.body HREC.out
    have hrt := congrArg Loop.tmps HREC.out
    have hrp := congrArg Loop.params HREC.out
    have hrs := congrArg Loop.state HREC.out
    have hre := congrArg Loop.pending HREC.out
    dsimp only at hra hrb hrt hrp hrs hre
    have HRS : Hid (rec.state = .ready ∧ rec.pending = none) := ⟨hrs, hre⟩
    clear hre hf hwl
    refine ⟨rec.fn, _, rec.assign, rec.body, run_yield hp.ll (by rw [hrp]; rfl), roundIn_of_wpIn trivial ?_⟩
    have hbA := (Below.refl W.heap.size W).alloc (Nat.le_refl _) (.cells #[.int .i64 k1, .bool b1, .int .i64 n1, .string s1, .slice lo1 t'.list.length lc1, .slice ko1 t'.keys.length kc1] 46)
    have hpA := hp.next hbA
    have hbx : (W.alloc (.cells #[.int .i64 k1, .bool b1, .int .i64 n1, .string s1, .slice lo1 t'.list.length lc1, .slice ko1 t'.keys.length kc1] 46)).heap[W.heap.size]? = _ := hp_new rfl
    have hzA := alloc_lt W (.cells #[.int .i64 k1, .bool b1, .int .i64 n1, .string s1, .slice lo1 t'.list.length lc1, .slice ko1 t'.keys.length kc1] 46)
    have hbr := run_beginRound (P := Tryz.prog) hpA.ll hrs
    have hz5 : w.heap.size + 5 < W.heap.size := (Array.getElem?_eq_some_iff.1 hp.ll).1
    rw [hra, hrb, hrt, hrp]
    clear hra hrb hrt hrp HREC hvm
    obtain ⟨WA, hWA⟩ : ∃ WA, W.alloc (.cells #[.int .i64 k1, .bool b1, .int .i64 n1, .string s1, .slice lo1 t'.list.length lc1, .slice ko1 t'.keys.length kc1] 46) = WA := ⟨_, rfl⟩
    rw [hWA] at hbr hpA hbx hzA hbA
    obtain ⟨W2, hW2⟩ : ∃ W2, WA.putObj (w.heap.size + 5) (.loop { rec with state := .busy }) = W2 := ⟨_, rfl⟩
    have hwp := wrote_putObj (.loop { rec with state := .busy }) hpA.ll
    have HP2 : Hid (VM w { rec with state := .busy } W2) := by unfold Hid; rw [← hW2]; exact hpA.loop _
    rw [hW2] at hbr hwp
    have HKP : Hid (Kept (w.heap.size + 6) W W2) := (Kept.below hbA).trans (kept_wrote hwp (by omega))
    have hb2 := (hwp.block W.heap.size (by omega)).trans hbx
    have HB2 : Hid (Below w.heap.size w W2) := HP2.out.bl
    have LV : (loadVar 46 ⟨W.heap.size, 0, none⟩).run Tryz.prog W2 = .ok (.agg #[.int .i64 k1, .bool b1, .int .i64 n1, .string s1, .slice lo1 t'.list.length lc1, .slice ko1 t'.keys.length kc1]) W2 := run_loadVar_row W2 W.heap.size _ _ _ _ _ hb2 Tryz.underlying46 rfl (by kernel_rfl)
    have g0 : W2.cell? ⟨W.heap.size, 0, none⟩ = some (.int .i64 k1) := by rw [cell_of_blk hb2]; rfl
    have g1 : W2.cell? ⟨W.heap.size, 1, none⟩ = some (.bool b1) := by rw [cell_of_blk hb2]; rfl
    have g2 : W2.cell? ⟨W.heap.size, 2, none⟩ = some (.int .i64 n1) := by rw [cell_of_blk hb2]; rfl
    have g3 : W2.cell? ⟨W.heap.size, 3, none⟩ = some (.string s1) := by rw [cell_of_blk hb2]; rfl
    have g4 : W2.cell? ⟨W.heap.size, 4, none⟩ = some (.slice lo1 t'.list.length lc1) := by rw [cell_of_blk hb2]; rfl
    have g5 : W2.cell? ⟨W.heap.size, 5, none⟩ = some (.slice ko1 t'.keys.length kc1) := by rw [cell_of_blk hb2]; rfl
    have hwp' := VT.wf_parts hw'
    have ND := Lib.hid (node_any lv (by omega) k1 b1 n1 s1 lo1 t'.list.length lc1 ko1 kc1 t'.keys hwp'.2.2.2.2.1 hwp'.2.2.2.2.2.1 W2 (HKS.out.2.2.2.2.below HB2.out))
    have HNF : Hid (nodeG lv k1 b1 n1 s1 t'.list.length t'.keys = nodeF lv t') := by
      obtain ⟨a1, a2, a3, a4, _⟩ := HKS.out
      rw [Hid, nodeF_eq, a1, a2, a3, a4]
    rw [HNF.out] at ND
    clear hks hwp' hwp hpA hbx hva HNF hp
    gi_wp2
    refine ⟨W2, hbr, ?_⟩
    clear hbr hrs hWA hW2 hzA hbA hb2
    gi_wp2_with fail
    refine ⟨trivial, rfl, ?_⟩
    refine (CallsIn.inRound (w.heap.size + 5) (callsIn_wide.2 ND.out)).mono ?_
    rintro e w3 ⟨rfl, hb3⟩
    have HP3 := Lib.hid (HP2.out.next hb3)
    have HK3 : Hid (Kept (w.heap.size + 6) W w3) := HKP.out.trans (Kept.below hb3)
    have c1 : w3.cell? ⟨w.heap.size + 1, 0, none⟩ = some (.int .i64 0) := cell_of_blk HP3.out.r 0
    have f1 : w3.frozen? ⟨w.heap.size + 1, 0, none⟩ = false := free_of_blk HP3.out.r 0
    have HLV : Hid (nodeF lv t' = 0 → lv ≤ 16) := fun h => (node_zero h).1
    have HF := Lib.hid hf'
    clear hb3 ND HP2 HKP HB2 LV g0 g1 g2 g3 g4 g5 HKS hf'
    dsimp only
    generalize nodeF lv t' = q at *
    by_cases hq : q = 0
    · have t1 : ((q : Int) != 0) = false := by rw [hq]; rfl
      have t1b : ((q : Int) == 0) = true := by rw [hq]; rfl
      have HL16 := Lib.hid (HLV.out hq)
      have HF0 : Hid (firstE (R.map nodeE) = validF t) := by have := HF.out; rwa [if_neg (fun h => h hq)] at this
      clear hq HLV HF c1 f1
      gi_wp2_with fail
      have hrr : { { rec with state := LoopState.busy } with state := .ready, pending := none } = rec := by
        obtain ⟨a1, a2⟩ := HRS.out
        cases rec
        simp only at a1 a2
        rw [a1, a2]
      refine ⟨_, _, run_endRound none HP3.out.ll, .inl ⟨rfl, HL16.out, ?_, HF0.out, hwR⟩, HK3.out.trans (kept_wrote (wrote_putObj _ HP3.out.ll) (by omega))⟩
      show VM w rec (w3.putObj (w.heap.size + 5) (.loop { { rec with state := LoopState.busy } with state := .ready, pending := none }))
      have := HP3.out.loop { { rec with state := LoopState.busy } with state := .ready, pending := none }
      rw [hrr] at this ⊢
      exact this
    · have t1b : ((q : Int) == 0) = false := by rw [beq_eq_false_iff_ne]; omega
      have t1 : ((q : Int) != 0) = true := by simp [bne, t1b]
      have HF0 : Hid (q = validF t) := by have := HF.out; rwa [if_pos hq] at this
      clear hq HLV HF
      gi_wp2_with fail
      have w1 := wrote_setCell HP3.out.r 0 (.int .i64 (q : Nat))
      have l5 := (w1.block (w.heap.size + 5) (by omega)).trans HP3.out.ll
      have w2 := wrote_putObj (.loop { { rec with state := .busy } with state := .done, pending := some .ret }) l5
      refine ⟨_, _, run_endRound (some .ret) l5, .inr ⟨rfl, ?_, ?_, ?_, ?_⟩, HK3.out.trans ((kept_wrote w1 (by omega)).trans (kept_wrote w2 (by omega)))⟩
      · rw [← HF0.out]; exact (w2.block _ (by omega)).trans w1.at_
      · exact (w2.block _ (by omega)).trans ((w1.block _ (by omega)).trans HP3.out.dd)
      · exact w2.at_
      · exact HP3.out.bl.trans ((w1.below (by omega)).trans (w2.below (by omega)))
  case fin =>
    rintro e W2 ⟨⟨rvv, rfl⟩, ⟨hp, hf, _⟩ | ⟨hr, hd, hl, hb⟩⟩
    · have hst : rec.state ≠ .busy := by rw [HREC.out]; exact fun h => by cases h
      have hpe : rec.pending = none := by rw [HREC.out]
      refine ⟨rec.pending, _, run_endLoop hp.ll hst, ?_⟩
      rw [hpe]
      have hp3 := hp.loop { rec with state := .exhausted, pending := none }
      obtain ⟨W3, hW3⟩ : ∃ W3, W2.putObj (w.heap.size + 4 + 1) (.loop { rec with state := .exhausted, pending := none }) = W3 := ⟨_, rfl⟩
      change VM _ _ (W2.putObj (w.heap.size + 4 + 1) _) at hp3
      rw [hW3] at hp3 ⊢
      have HP := Lib.hid hp3
      have HF : Hid (validF t = 0) := hf.symm
      clear hp hW3 hf hp3 hvm
      have c1 : W3.cell? ⟨w.heap.size + 1, 0, none⟩ = some (.int .i64 0) := cell_of_blk HP.out.r 0
      have f1 : W3.frozen? ⟨w.heap.size + 1, 0, none⟩ = false := free_of_blk HP.out.r 0
      dsimp only
      go_wp2_with fail
      have w1 := wrote_setCell HP.out.r 0 (.int .i64 0)
      obtain ⟨W4, hW4⟩ : ∃ W4, W3.setCell ⟨w.heap.size + 1, 0, none⟩ (.int .i64 0) = W4 := ⟨_, rfl⟩
      rw [hW4] at w1 ⊢
      have k4 := (w1.block (w.heap.size + 4) (by omega)).trans HP.out.dd
      have d1 : W4.heap[w.heap.size + 1]? = some (.cells #[.int .i64 0] 28 (0, 0)) := w1.at_
      have HB4 : Hid (Below w.heap.size w W4) := HP.out.bl.trans (w1.below (by omega))
      clear hW4 w1 HP c1 f1
      refine ⟨by simp, .inl ⟨_, _, rfl, run_takeDeferred k4, ?_⟩⟩
      have e1 : (W4.putObj (w.heap.size + 4) (.deferred none)).cell? ⟨w.heap.size + 1, 0, none⟩ = some (.int .i64 0) := cell_of_blk ((World.putObj_heap_other (by omega)).trans d1) 0
      have HBF : Hid (Below w.heap.size W4 (W4.putObj (w.heap.size + 4) (.deferred none))) := (wrote_putObj _ k4).below (by omega)
      generalize W4.putObj (w.heap.size + 4) (.deferred none) = W5 at *
      refine ⟨.int .i64 0, ?_, ?_⟩
      · simp [results, asAddr, loadVar, e1, go_sem]
      · exact ⟨by rw [HF.out]; rfl, HB4.out.trans HBF.out⟩
    · refine ⟨some .ret, _, run_endLoop hl (fun h => by cases h), ?_⟩
      have hw := wrote_putObj (.loop { { rec with state := .done, pending := some .ret } with state := .exhausted }) hl
      obtain ⟨W3, hW3⟩ : ∃ W3, W2.putObj (w.heap.size + 5) (.loop { { rec with state := .done, pending := some .ret } with state := .exhausted }) = W3 := ⟨_, rfl⟩
      rw [hW3] at hw
      have k4 : W3.heap[w.heap.size + 4]? = some (.deferred (some [])) := (hw.block _ (by omega)).trans hd
      have HBF : Hid (Below w.heap.size w (W3.putObj (w.heap.size + 4) (.deferred none))) := (hb.trans (hw.below (by omega))).trans ((wrote_putObj _ k4).below (by omega))
      have e1 : (W3.putObj (w.heap.size + 4) (.deferred none)).cell? ⟨w.heap.size + 1, 0, none⟩ = some (.int .i64 (validF t : Nat)) := cell_of_blk ((World.putObj_heap_other (by omega)).trans ((hw.block _ (by omega)).trans hr)) 0
      rw [hW3]
      clear hW3 hw hr hd hl hb
      dsimp only
      gi_wp2
      refine ⟨by simp, .inl ⟨_, _, rfl, run_takeDeferred k4, ?_⟩⟩
      generalize W3.putObj (w.heap.size + 4) (.deferred none) = W5 at *
      refine ⟨.int .i64 (validF t : Nat), ?_, ?_⟩
      · simp [results, asAddr, loadVar, e1, go_sem]
      · exact ⟨rfl, HBF.out⟩
end Go.Proofs.YtomecnncighkgaaGreatDoor
